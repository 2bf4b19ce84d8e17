/- What Read of the page's layer 41 answers: the number alone counts. -/
import Derived.Test.YtgeaebcchjmmjaaDoorNumber
namespace Go.Proofs.YtgeaebcchjmmjaaDoor
open Go.RowKit Go.Lib
def rdStep (neg : Bool) (n : Int) (c : Nat) : Int := if neg then IntKind.i64.wrap (IntKind.i64.wrap (n * 10) - ((c : Int) - 48)) else IntKind.i64.wrap (IntKind.i64.wrap (n * 10) + ((c : Int) - 48))
def rd (neg : Bool) (s : ByteArray) : Nat → Nat → Int → Int
  | 0, _, n => n
  | f + 1, k, n => if k < s.size then (if bat s k < 48 ∨ 57 < bat s k then 0 else rd neg s f (k + 1) (rdStep neg n (bat s k))) else n
def rdNeg (s : ByteArray) : Bool := decide (0 < s.size) && decide (bat s 0 = 45)
def rdFrom (s : ByteArray) : Nat := if rdNeg s then 1 else 0
def rdN (s : ByteArray) : Int := if 20 < s.size then 0 else rd (rdNeg s) s 20 (rdFrom s) 0
def RdEnd (n : Int) (w : World) (e : Ending) (w' : World) : Prop := ∃ b k, e = .returned (.tuple #[.int .i64 n, .bool b]) ∧ w' = w.drewN k
theorem wrap_in (x : Int) : InI (IntKind.i64.wrap x) := by rw [IntKind.wrap_i64]; constructor <;> omega
theorem rdStep_in (neg : Bool) (n : Int) (c : Nat) : InI (rdStep neg n c) := by unfold rdStep; split <;> exact wrap_in _
set_option maxRecDepth 100000 in
set_option maxHeartbeats 4000000 in
theorem refRead_any (s : ByteArray) (w : World) (hmax : s.size ≤ 9223372036854775807) : Calls Tryd.prog 56 #[.string s] w (RdEnd (rdN s) w) := by
  by_cases hbig : 20 < s.size
  · have e : rdN s = 0 := by unfold rdN; rw [if_pos hbig]
    rw [e]
    have h0 : 0 < s.size := by omega
    have hix := run_ix s 0 h0
    simp only [Int.cast_ofNat_Int] at hix
    have hb2 : (20 : Int) < (s.size : Int) := by omega
    have hb0 : (0 : Int) < (s.size : Int) := by omega
    generalize bat s 0 = c at *
    cases hc : ((c : Int) == 45)
    all_goals
      go_enter Tryd.func56, Tryd.ntmps56
      go_wp2
      go_ret2
      exact ⟨_, 0, rfl, rfl⟩
  · have e : rdN s = rd (rdNeg s) s 20 (rdFrom s) 0 := by unfold rdN; rw [if_neg hbig]
    rw [e]
    have hgo : ∀ (ng : Bool) (fr : Nat) (w : World), fr ≤ s.size → ∀ k n, fr ≤ k → k ≤ s.size → InI n → True := fun _ _ _ _ _ _ _ _ _ => trivial
    clear hgo
    have hcase : (s.size = 0 ∧ rdNeg s = false ∧ rdFrom s = 0) ∨ (0 < s.size ∧ bat s 0 = 45 ∧ rdNeg s = true ∧ rdFrom s = 1) ∨ (0 < s.size ∧ bat s 0 ≠ 45 ∧ rdNeg s = false ∧ rdFrom s = 0) := by
      unfold rdFrom
      by_cases h0 : 0 < s.size
      · by_cases h1 : bat s 0 = 45
        · right; left
          have : rdNeg s = true := by simp [rdNeg, h0, h1]
          exact ⟨h0, h1, this, by rw [this]; rfl⟩
        · right; right
          have : rdNeg s = false := by simp [rdNeg, h1]
          exact ⟨h0, h1, this, by rw [this]; rfl⟩
      · left
        have : rdNeg s = false := by simp [rdNeg, h0]
        exact ⟨by omega, this, by rw [this]; rfl⟩
    rcases hcase with ⟨h0, h1, h2⟩ | ⟨h0, hc, h1, h2⟩ | ⟨h0, hc, h1, h2⟩
    · rw [h1, h2, rd, if_neg (by omega)]
      have hs0 : s = ⟨#[]⟩ := by cases s with | mk d => simp [ByteArray.size] at h0; subst h0; rfl
      subst hs0
      clear h1 h2 e
      go_enter Tryd.func56, Tryd.ntmps56
      go_wp2
      go_loopw [4, 6] (fun v i wr => v = .int .i64 0 ∧ i = .int .i64 0 ∧ wr = w) (fun _ _ _ => 0)
      case atStart => exact ⟨rfl, rfl, rfl⟩
      case round =>
        obtain ⟨rfl, rfl, rfl⟩ := hrel
        go_wp2
        go_ret2
        exact ⟨_, 0, rfl, rfl⟩
    · rw [h1, h2]
      obtain ⟨r, hr⟩ : ∃ r, rd true s 20 1 0 = r := ⟨_, rfl⟩
      rw [hr]
      have hix := run_ix s 0 h0
      rw [hc] at hix
      simp only [Int.cast_ofNat_Int] at hix
      have hb0 : (0 : Int) < (s.size : Int) := by omega
      have HR := Lib.hid hr
      clear hr h1 h2 e
      go_enter Tryd.func56, Tryd.ntmps56
      go_wp2
      clear hix
      go_loopw [4, 6] (fun v i wr => ∃ (k f : Nat) (n : Int), 1 ≤ k ∧ k ≤ s.size ∧ k + f = 21 ∧ InI n ∧ i = .int .i64 k ∧ v = .int .i64 n ∧ rd true s f k n = r ∧ wr = w) (fun _ i _ => s.size - (intOf i).toNat)
      case atStart => exact ⟨1, 20, 0, by omega, by omega, by omega, by constructor <;> decide, rfl, rfl, HR.out, rfl⟩
      case round =>
        obtain ⟨k, f, n, hk1, hk, hkf, hn, rfl, rfl, hrd, rfl⟩ := hrel
        have HD := Lib.hid hrd
        clear hrd
        by_cases hlt : k < s.size
        · obtain ⟨f2, rfl⟩ : ∃ f2, f = f2 + 1 := ⟨f - 1, by omega⟩
          have hix := run_ix s k hlt
          have hst := rdStep_in true n (bat s k)
          have HX := Lib.hid (show (if bat s k < 48 ∨ 57 < bat s k then 0 else rd true s f2 (k + 1) (rdStep true n (bat s k))) = r by have := HD.out; rw [rd, if_pos hlt] at this; exact this)
          unfold rdStep at HX hst
          simp only [if_true] at HX hst
          have hcb := bat_lt s k
          generalize bat s k = c at *
          by_cases hd : c < 48 ∨ 57 < c
          · have hr0 : r = 0 := by have := HX.out; rw [if_pos hd] at this; exact this.symm
            subst hr0
            rcases hd with hd | hd
            · go_wp2
              go_ret2
              exact ⟨_, 0, rfl, rfl⟩
            · go_wp2
              go_ret2
              exact ⟨_, 0, rfl, rfl⟩
          · have hX : rd true s f2 (k + 1) (IntKind.i64.wrap (IntKind.i64.wrap (n * 10) - ((c : Int) - 48))) = r := by have := HX.out; rw [if_neg hd] at this; exact this
            simp only [IntWalk.i64_left] at hX hst
            have HX2 := Lib.hid hX
            clear hX HX
            have hd1 : 48 ≤ c := by omega
            have hd2 : c ≤ 57 := by omega
            clear hd
            go_wp2
            go_roundw
            case rel => exact ⟨k + 1, f2, _, by omega, by omega, by omega, hst, by go_num, rfl, HX2.out, trivial⟩
            case measure => simp [intOf]; omega
        · have hk2 : k = s.size := by omega
          have hr0 : n = r := by
            have := HD.out
            cases f with
            | zero => exact this
            | succ f => rw [rd, if_neg hlt] at this; exact this
          subst hr0
          clear HD HR
          subst hk2
          by_cases hf : 1 < s.size
          · go_wp2_with fail
            refine (number_any n hn _).mono ?_
            rintro e w1 ⟨rfl, kk, rfl⟩
            go_wp2
            go_ret2
            exact ⟨_, kk, rfl, rfl⟩
          · go_wp2
            go_ret2
            exact ⟨_, 0, rfl, rfl⟩
    · rw [h1, h2]
      obtain ⟨r, hr⟩ : ∃ r, rd false s 20 0 0 = r := ⟨_, rfl⟩
      rw [hr]
      have hix := run_ix s 0 h0
      have hc2 : ((bat s 0 : Int) == 45) = false := by rw [beq_eq_false_iff_ne]; omega
      simp only [Int.cast_ofNat_Int] at hix
      have hb0 : (0 : Int) < (s.size : Int) := by omega
      have HR := Lib.hid hr
      clear hr h1 h2 e
      go_enter Tryd.func56, Tryd.ntmps56
      go_wp2
      clear hix hc2
      go_loopw [4, 6] (fun v i wr => ∃ (k f : Nat) (n : Int), 0 ≤ k ∧ k ≤ s.size ∧ k + f = 20 ∧ InI n ∧ i = .int .i64 k ∧ v = .int .i64 n ∧ rd false s f k n = r ∧ wr = w) (fun _ i _ => s.size - (intOf i).toNat)
      case atStart => exact ⟨0, 20, 0, by omega, by omega, by omega, by constructor <;> decide, rfl, rfl, HR.out, rfl⟩
      case round =>
        obtain ⟨k, f, n, hk1, hk, hkf, hn, rfl, rfl, hrd, rfl⟩ := hrel
        have HD := Lib.hid hrd
        clear hrd
        by_cases hlt : k < s.size
        · obtain ⟨f2, rfl⟩ : ∃ f2, f = f2 + 1 := ⟨f - 1, by omega⟩
          have hix := run_ix s k hlt
          have hst := rdStep_in false n (bat s k)
          have HX := Lib.hid (show (if bat s k < 48 ∨ 57 < bat s k then 0 else rd false s f2 (k + 1) (rdStep false n (bat s k))) = r by have := HD.out; rw [rd, if_pos hlt] at this; exact this)
          unfold rdStep at HX hst
          simp only [Bool.false_eq_true, if_false] at HX hst
          have hcb := bat_lt s k
          generalize bat s k = c at *
          by_cases hd : c < 48 ∨ 57 < c
          · have hr0 : r = 0 := by have := HX.out; rw [if_pos hd] at this; exact this.symm
            subst hr0
            rcases hd with hd | hd
            · go_wp2
              go_ret2
              exact ⟨_, 0, rfl, rfl⟩
            · go_wp2
              go_ret2
              exact ⟨_, 0, rfl, rfl⟩
          · have hX : rd false s f2 (k + 1) (IntKind.i64.wrap (IntKind.i64.wrap (n * 10) + ((c : Int) - 48))) = r := by have := HX.out; rw [if_neg hd] at this; exact this
            simp only [IntWalk.i64_left] at hX hst
            have HX2 := Lib.hid hX
            clear hX HX
            have hd1 : 48 ≤ c := by omega
            have hd2 : c ≤ 57 := by omega
            clear hd
            go_wp2
            go_roundw
            case rel => exact ⟨k + 1, f2, _, by omega, by omega, by omega, hst, by go_num, rfl, HX2.out, trivial⟩
            case measure => simp [intOf]; omega
        · have hk2 : k = s.size := by omega
          have hr0 : n = r := by
            have := HD.out
            cases f with
            | zero => exact this
            | succ f => rw [rd, if_neg hlt] at this; exact this
          subst hr0
          clear HD HR
          subst hk2
          by_cases hf : 0 < s.size
          · go_wp2_with fail
            refine (number_any n hn _).mono ?_
            rintro e w1 ⟨rfl, kk, rfl⟩
            go_wp2
            go_ret2
            exact ⟨_, kk, rfl, rfl⟩
          · exact absurd h0 hf
end Go.Proofs.YtgeaebcchjmmjaaDoor
