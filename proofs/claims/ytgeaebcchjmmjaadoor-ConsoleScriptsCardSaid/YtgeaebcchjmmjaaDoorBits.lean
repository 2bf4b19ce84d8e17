/- A set of bytes told as one number below 2^256: its four words, and what the operations on words do to it. -/
import Derived.WalkKit
namespace Go.Proofs.YtgeaebcchjmmjaaDoor
open Go.RowKit

/-- Word j of a set that is told as one number. -/
def wn (n j : Nat) : Nat := (n / 2 ^ (64 * j)) % 2 ^ 64
def wd (n j : Nat) : Int := (wn n j : Nat)
theorem wn_lt (n j : Nat) : wn n j < 18446744073709551616 := by
  have h : wn n j < 2 ^ 64 := Nat.mod_lt _ (by decide)
  exact h
theorem wn_testBit (n j i : Nat) : (wn n j).testBit i = (decide (i < 64) && n.testBit (64 * j + i)) := by
  unfold wn
  rw [Nat.testBit_mod_two_pow, Nat.testBit_div_two_pow, Nat.add_comm]
theorem wn_ext {n j x : Nat} (h : ∀ i, x.testBit i = (decide (i < 64) && n.testBit (64 * j + i))) : wn n j = x :=
  Nat.eq_of_testBit_eq fun i => by rw [wn_testBit, h]

/-- All bytes. -/
def allB : Nat := 2 ^ 256 - 1
theorem allB_testBit (i : Nat) : allB.testBit i = decide (i < 256) := Nat.testBit_two_pow_sub_one 256 i

theorem wd_and (a b j : Nat) : bits .and .u64 (wd a j) (wd b j) = wd (a &&& b) j := by
  unfold wd
  rw [bits_and_u64_nat _ _ (wn_lt a j) (wn_lt b j)]
  congr 1
  refine (wn_ext fun i => ?_).symm
  rw [Nat.testBit_and, wn_testBit, wn_testBit, Nat.testBit_and]
  cases decide (i < 64) <;> simp
theorem wd_or (a b j : Nat) : bits .or .u64 (wd a j) (wd b j) = wd (a ||| b) j := by
  unfold wd
  rw [bits_or_u64_nat _ _ (wn_lt a j) (wn_lt b j)]
  congr 1
  refine (wn_ext fun i => ?_).symm
  rw [Nat.testBit_or, wn_testBit, wn_testBit, Nat.testBit_or]
  cases decide (i < 64) <;> simp
theorem u64max : IntKind.u64.max = ((2 ^ 64 - 1 : Nat) : Int) := rfl
theorem wd_not (a j : Nat) (h : j < 4) : bits .xor .u64 IntKind.u64.max (wd a j) = wd (allB ^^^ a) j := by
  unfold wd
  rw [u64max, bits_xor_u64_nat _ _ (by decide) (wn_lt a j)]
  congr 1
  refine (wn_ext fun i => ?_).symm
  rw [Nat.testBit_xor, wn_testBit, Nat.testBit_xor, allB_testBit, Nat.testBit_two_pow_sub_one]
  by_cases hi : i < 64
  · simp [hi, show 64 * j + i < 256 by omega]
  · simp [hi]

/-- Is a byte in it? -/
theorem wd_has (n : Nat) (b : Int) (h0 : 0 ≤ b) : (bits .and .u64 (wd n (b / 64).toNat / 2 ^ (b % 64).toNat) 1 == 1) = n.testBit b.toNat := by
  obtain ⟨k, rfl⟩ := Int.eq_ofNat_of_zero_le h0
  have e1 : ((k : Int) / 64).toNat = k / 64 := by omega
  have e2 : ((k : Int) % 64).toNat = k % 64 := by omega
  rw [e1, e2, Int.toNat_natCast]
  unfold wd
  have e3 : ((wn n (k / 64) : Nat) : Int) / 2 ^ (k % 64) = ((wn n (k / 64) / 2 ^ (k % 64) : Nat) : Int) := by simp
  rw [e3]
  have hlt : wn n (k / 64) / 2 ^ (k % 64) < 18446744073709551616 := Nat.lt_of_le_of_lt (Nat.div_le_self _ _) (wn_lt _ _)
  have e4 := bits_and_u64_nat (wn n (k / 64) / 2 ^ (k % 64)) 1 hlt (by decide)
  have e5 : ((1 : Nat) : Int) = 1 := rfl
  rw [e5] at e4
  rw [e4]
  have e6 : n.testBit k = (wn n (k / 64)).testBit (k % 64) := by
    rw [wn_testBit]
    have : 64 * (k / 64) + k % 64 = k := by omega
    rw [this]
    simp [show k % 64 < 64 by omega]
  rw [e6, Nat.testBit_eq_decide_div_mod_eq, Nat.and_one_is_mod]
  by_cases h : wn n (k / 64) / 2 ^ (k % 64) % 2 = 1
  · simp [h]
  · have : wn n (k / 64) / 2 ^ (k % 64) % 2 = 0 := by omega
    simp [this]

/-- One byte more. -/
theorem wd_put (n : Nat) (k j : Nat) : wd (n ||| 2 ^ k) j = if j = k / 64 then ((wn n j ||| 2 ^ (k % 64) : Nat) : Int) else wd n j := by
  unfold wd
  split
  · rename_i h
    congr 1
    refine wn_ext fun i => ?_
    subst h
    rw [Nat.testBit_or, wn_testBit, Nat.testBit_or, Nat.testBit_two_pow, Nat.testBit_two_pow]
    by_cases hi : i < 64
    · simp only [hi, decide_true, Bool.true_and]
      congr 1
      simp only [decide_eq_decide]
      omega
    · have : ¬ k % 64 = i := by omega
      simp [hi, this]
  · rename_i h
    congr 1
    refine wn_ext fun i => ?_
    rw [wn_testBit, Nat.testBit_or, Nat.testBit_two_pow]
    by_cases hi : i < 64
    · have : ¬ k = 64 * j + i := by omega
      simp [this]
    · simp [hi]
theorem wd_put_or (n : Nat) (k : Nat) : bits .or .u64 (wd n (k / 64)) ((2 ^ (k % 64) : Nat) : Int) = wd (n ||| 2 ^ k) (k / 64) := by
  rw [wd_put, if_pos rfl]
  unfold wd
  have h : 2 ^ (k % 64) < 18446744073709551616 := by
    have : 2 ^ (k % 64) < 2 ^ 64 := Nat.pow_lt_pow_right (by decide) (Nat.mod_lt _ (by decide))
    exact this
  rw [bits_or_u64_nat _ _ (wn_lt n _) h]
theorem wrap_bit (k : Nat) : IntKind.u64.wrap (2 ^ (k % 64)) = ((2 ^ (k % 64) : Nat) : Int) := by
  have h : 2 ^ (k % 64) < 2 ^ 64 := Nat.pow_lt_pow_right (by decide) (Nat.mod_lt _ (by decide))
  rw [IntKind.wrap_u64]
  have e : ((2 : Int) ^ (k % 64)) = ((2 ^ (k % 64) : Nat) : Int) := by simp
  rw [e]
  generalize 2 ^ (k % 64) = x at *
  omega
theorem wd_put_or' (n : Nat) (k : Nat) : bits .or .u64 (wd n (k / 64)) (IntKind.u64.wrap (2 ^ (k % 64))) = wd (n ||| 2 ^ k) (k / 64) := by
  rw [wrap_bit, wd_put_or]
theorem wd_put_other (n : Nat) (k j : Nat) (h : j ≠ k / 64) : wd (n ||| 2 ^ k) j = wd n j := by rw [wd_put, if_neg h]
theorem wd_zero (j : Nat) : wd 0 j = 0 := by simp [wd, wn]

/-- Four words make a number. -/
theorem wd_of (a b c d : Nat) (ha : a < 18446744073709551616) (hb : b < 18446744073709551616) (hc : c < 18446744073709551616) (hd : d < 18446744073709551616) :
    ∃ n, n < 2 ^ 256 ∧ (a : Int) = wd n 0 ∧ (b : Int) = wd n 1 ∧ (c : Int) = wd n 2 ∧ (d : Int) = wd n 3 := by
  refine ⟨a + 2 ^ 64 * b + 2 ^ 128 * c + 2 ^ 192 * d, ?_, ?_, ?_, ?_, ?_⟩
  · omega
  all_goals (unfold wd wn; congr 1; omega)
theorem wd_inj {a b : Nat} (ha : a < 2 ^ 256) (hb : b < 2 ^ 256) (h : ∀ j, j < 4 → wd a j = wd b j) : a = b := by
  refine Nat.eq_of_testBit_eq fun i => ?_
  by_cases hi : i < 256
  · have := h (i / 64) (by omega)
    have e : wn a (i / 64) = wn b (i / 64) := by unfold wd at this; omega
    have e1 := wn_testBit a (i / 64) (i % 64)
    have e2 := wn_testBit b (i / 64) (i % 64)
    rw [e] at e1
    rw [e1] at e2
    have : 64 * (i / 64) + i % 64 = i := by omega
    rw [this] at e2
    simpa [show i % 64 < 64 by omega] using e2
  · rw [Nat.testBit_lt_two_pow (Nat.lt_of_lt_of_le ha (Nat.pow_le_pow_right (by decide) (by omega))), Nat.testBit_lt_two_pow (Nat.lt_of_lt_of_le hb (Nat.pow_le_pow_right (by decide) (by omega)))]
theorem wd_beq (a b : Nat) (ha : a < 2 ^ 256) (hb : b < 2 ^ 256) : (wd a 0 == wd b 0 && (wd a 1 == wd b 1 && (wd a 2 == wd b 2 && wd a 3 == wd b 3))) = (a == b) := by
  by_cases h : a = b
  · subst h; simp
  · rw [beq_eq_false_iff_ne.2 h]
    by_cases h0 : wd a 0 = wd b 0
    · by_cases h1 : wd a 1 = wd b 1
      · by_cases h2 : wd a 2 = wd b 2
        · by_cases h3 : wd a 3 = wd b 3
          · exact absurd (wd_inj ha hb fun j hj => match j, hj with | 0, _ => h0 | 1, _ => h1 | 2, _ => h2 | 3, _ => h3) h
          · simp [h3]
        · simp [h2]
      · simp [h1]
    · simp [h0]
end Go.Proofs.YtgeaebcchjmmjaaDoor
