/- What the page answers for Escape, case by case. -/
import Derived.Test.YtgeaebcchjmmjaaDoorRefFold
import Derived.Test.YtgeaebcchjmmjaaDoorEqSet
namespace Go.Proofs.YtgeaebcchjmmjaaDoor
open Go.RowKit
def alB (b : Int) : Bool := upB b || loB b || dgB b
def spB (b : Int) : Bool := (decide (9 ≤ b) && decide (b ≤ 13)) || b == 32
/-- The bytes below k of which p holds. -/
def col (p : Nat → Bool) : Nat → Nat
  | 0 => 0
  | k + 1 => if p k = true then col p k ||| 2 ^ k else col p k
theorem col_bit (p : Nat → Bool) : ∀ k i, (col p k).testBit i = (decide (i < k) && p i)
  | 0, i => by simp [col]
  | k + 1, i => by
    have ih := col_bit p k i
    rw [col]
    by_cases he : i = k
    · subst he
      by_cases hp : p i = true
      · rw [if_pos hp, Nat.testBit_or, ih]; simp [hp]
      · rw [if_neg hp, ih]; simp [hp]
    · have h3 : decide (i < k + 1) = decide (i < k) := by rw [decide_eq_decide]; omega
      have h4 : ¬ k = i := fun h => he h.symm
      by_cases hp : p k = true
      · rw [if_pos hp, Nat.testBit_or, ih, Nat.testBit_two_pow, h3]; simp [h4]
      · rw [if_neg hp, ih, h3]
theorem col_lt (p : Nat → Bool) : col p 256 < 2 ^ 256 :=
  Nat.lt_pow_two_of_testBit _ fun i hi => by rw [col_bit]; simp; omega
theorem neq_zero (x : Nat) (hx : x < 2 ^ 256) (w : World) : (binOp .neq 24 (.agg #[.int .u64 (wd x 0), .int .u64 (wd x 1), .int .u64 (wd x 2), .int .u64 (wd x 3)]) (.agg #[.int .u64 0, .int .u64 0, .int .u64 0, .int .u64 0])).run Tryd.prog w = .ok (.bool (!(x == 0))) w := by
  have h := neq_sv x 0 hx (by decide) w
  unfold sv at h
  rwa [wd_zero, wd_zero, wd_zero, wd_zero] at h
set_option maxRecDepth 100000 in
theorem is_alnum (b : Int) (w : World) : Calls Tryd.prog 43 #[.string ⟨#[97, 108, 110, 117, 109]⟩, .int .i64 b] w fun e w' => e = .returned (.tuple #[.bool (alB b), .bool true]) ∧ w = w' := by
  cases hu : upB b <;> cases hl : loB b <;> cases hd : dgB b
  all_goals
    have ha : alB b = _ := rfl
    unfold alB at ha
    rw [hu, hl, hd] at ha
    go_enter Tryd.func43, Tryd.ntmps43
    go_wp2_with (first | (go_at_call 37; refine (upper_any _ _).mono ?_; rw [hu]; rintro e w' ⟨rfl, rfl⟩) | (go_at_call 39; refine (lower_any _ _).mono ?_; rw [hl]; rintro e w' ⟨rfl, rfl⟩) | (go_at_call 44; refine (digit_any _ _).mono ?_; rw [hd]; rintro e w' ⟨rfl, rfl⟩))
    go_ret2
    exact ⟨by unfold alB; rw [hu, hl, hd]; rfl, rfl⟩
set_option maxRecDepth 100000 in
theorem is_space (b : Int) (w : World) : Calls Tryd.prog 43 #[.string ⟨#[115, 112, 97, 99, 101]⟩, .int .i64 b] w fun e w' => e = .returned (.tuple #[.bool (spB b), .bool true]) ∧ w = w' := by
  have key : spB b = _ := rfl
  by_cases h1 : 9 ≤ b
  · by_cases h2 : b ≤ 13
    · have h3 : (b == 32) = false := by rw [beq_eq_false_iff_ne]; omega
      have hs : spB b = true := by unfold spB; simp [h1, h2]
      rw [hs]
      clear key hs
      go_enter Tryd.func43, Tryd.ntmps43
      go_wp2
      go_ret2
      exact ⟨by simp [*], rfl⟩
    · cases h3 : (b == 32)
      all_goals
        have hs : spB b = (b == 32) := by unfold spB; simp [h2]
        rw [hs, h3]
        clear key hs
        go_enter Tryd.func43, Tryd.ntmps43
        go_wp2
        go_ret2
        exact ⟨by simp [*], rfl⟩
  · cases h3 : (b == 32)
    all_goals
      have hs : spB b = (b == 32) := by unfold spB; simp [h1]
      rw [hs, h3]
      clear key hs
      go_enter Tryd.func43, Tryd.ntmps43
      go_wp2
      go_ret2
      exact ⟨by simp [*], rfl⟩
end Go.Proofs.YtgeaebcchjmmjaaDoor
