/- The plain law of named.Fold: as the page folds; folded again it is the same; it holds what was there. -/
import Derived.Test.YtgeaebcchjmmjaaDoorFold
import Derived.Test.YtgeaebcchjmmjaaDoorRefFold
namespace Go.Proofs.YtgeaebcchjmmjaaDoor
theorem alpha_bit : ∀ b, b < 256 → (clsN sAlpha).testBit b = (upB b || loB b) := by decide +kernel
theorem xor_up : ∀ b : Nat, b < 256 → upB b = true → b ^^^ 32 = b + 32 := by decide +kernel
theorem xor_lo : ∀ b : Nat, b < 256 → loB b = true → b ^^^ 32 = b - 32 := by decide +kernel
theorem up_lo : ∀ b : Nat, b < 256 → upB b = true → loB b = false := by decide +kernel
theorem xor_lt (b : Nat) (h : b < 256) : b ^^^ 32 < 256 := Nat.xor_lt_two_pow (n := 8) (by omega) (by decide)
theorem xor_xor (b : Nat) : b ^^^ 32 ^^^ 32 = b := by rw [Nat.xor_assoc, Nat.xor_self, Nat.xor_zero]
theorem bit_ge {n : Nat} (hn : n < 2 ^ 256) {i : Nat} (hi : 256 ≤ i) : n.testBit i = false :=
  Nat.testBit_lt_two_pow (Nat.lt_of_lt_of_le hn (Nat.pow_le_pow_right (by decide) hi))
/-- Is a byte a letter? -/
def lt (b : Nat) : Bool := upB b || loB b
theorem foldN_bit (n i : Nat) (hi : i < 256) : (foldN n).testBit i = (n.testBit i || (n.testBit (i ^^^ 32) && lt (i ^^^ 32))) := by
  rw [foldN, flp_bit]
  congr 1
  rw [Bool.eq_iff_iff, List.any_eq_true, Bool.and_eq_true]
  have hx := xor_lt i hi
  constructor
  · rintro ⟨b, hb, h1⟩
    simp only [List.mem_filter, List.mem_range, Nat.testBit_and, Bool.and_eq_true] at hb
    have h2 : b = i ^^^ 32 := by rw [← beq_iff_eq.1 h1, xor_xor]
    subst h2
    refine ⟨hb.2.1, ?_⟩
    have := alpha_bit _ hx
    rw [lt, ← this]
    exact hb.2.2
  · rintro ⟨h1, h2⟩
    refine ⟨i ^^^ 32, ?_, by rw [xor_xor]; simp⟩
    simp only [List.mem_filter, List.mem_range, Nat.testBit_and, Bool.and_eq_true]
    refine ⟨hx, h1, ?_⟩
    rw [alpha_bit _ hx]
    exact h2
theorem foldN_lt {n : Nat} (hn : n < 2 ^ 256) : foldN n < 2 ^ 256 := by
  refine Nat.lt_pow_two_of_testBit _ fun i hi => ?_
  rw [foldN, flp_bit, bit_ge hn hi, Bool.false_or]
  rw [Bool.eq_false_iff]
  intro h
  obtain ⟨b, hb, h1⟩ := List.any_eq_true.1 h
  simp only [List.mem_filter, List.mem_range] at hb
  have := xor_lt b hb.1
  have h2 := beq_iff_eq.1 h1
  omega
theorem foldN_twice {n : Nat} (hn : n < 2 ^ 256) : foldN (foldN n) = foldN n := by
  refine Nat.eq_of_testBit_eq fun i => ?_
  by_cases hi : i < 256
  · have hx := xor_lt i hi
    rw [foldN_bit _ _ hi, foldN_bit _ _ hx, foldN_bit _ _ hi, xor_xor]
    cases n.testBit i <;> cases n.testBit (i ^^^ 32) <;> cases lt i <;> cases lt (i ^^^ 32) <;> rfl
  · rw [bit_ge (foldN_lt (foldN_lt hn)) (by omega), bit_ge (foldN_lt hn) (by omega)]
theorem foldN_holds {n : Nat} (hn : n < 2 ^ 256) : foldN n &&& n = n := by
  refine Nat.eq_of_testBit_eq fun i => ?_
  rw [Nat.testBit_and]
  by_cases hi : i < 256
  · rw [foldN_bit _ _ hi]
    cases n.testBit i <;> simp
  · rw [bit_ge hn (by omega), Bool.and_false]
theorem rfold_bit (n : Nat) (hn : n < 2 ^ 256) : ∀ k, k ≤ 256 → ∀ i, (rfold n k).testBit i = (n.testBit i || (decide (i ^^^ 32 < k) && n.testBit (i ^^^ 32) && lt (i ^^^ 32)))
  | 0, _, i => by simp [rfold]
  | k + 1, hk, i => by
    have ih := rfold_bit n hn k (by omega) i
    rw [rfold, rstep]
    by_cases hb : n.testBit k = true
    · rw [if_pos hb]
      by_cases hu : upB k = true
      · rw [if_pos hu, Nat.testBit_or, ih, Nat.testBit_two_pow, ← xor_up k (by omega) hu]
        have hl : lt k = true := by simp [lt, hu]
        by_cases he : i ^^^ 32 = k
        · have : k ^^^ 32 = i := by rw [← he, xor_xor]
          simp [this, he, hb, hl]
        · have : ¬ k ^^^ 32 = i := fun h => he (by rw [← h, xor_xor])
          have h3 : decide (i ^^^ 32 < k + 1) = decide (i ^^^ 32 < k) := by rw [decide_eq_decide]; omega
          simp [this, h3]
      · rw [if_neg hu]
        by_cases hl0 : loB k = true
        · rw [if_pos hl0, Nat.testBit_or, ih, Nat.testBit_two_pow, ← xor_lo k (by omega) hl0]
          have hl : lt k = true := by simp [lt, hl0]
          by_cases he : i ^^^ 32 = k
          · have : k ^^^ 32 = i := by rw [← he, xor_xor]
            simp [this, he, hb, hl]
          · have : ¬ k ^^^ 32 = i := fun h => he (by rw [← h, xor_xor])
            have h3 : decide (i ^^^ 32 < k + 1) = decide (i ^^^ 32 < k) := by rw [decide_eq_decide]; omega
            simp [this, h3]
        · rw [if_neg hl0, ih]
          have hl : lt k = false := by simp [lt, hl0, hu]
          by_cases he : i ^^^ 32 = k
          · simp [he, hl]
          · have h3 : decide (i ^^^ 32 < k + 1) = decide (i ^^^ 32 < k) := by rw [decide_eq_decide]; omega
            rw [h3]
    · rw [if_neg hb, ih]
      by_cases he : i ^^^ 32 = k
      · simp [he, hb]
      · have h3 : decide (i ^^^ 32 < k + 1) = decide (i ^^^ 32 < k) := by rw [decide_eq_decide]; omega
        rw [h3]
theorem foldN_page {n : Nat} (hn : n < 2 ^ 256) : rfold n 256 = foldN n := by
  refine Nat.eq_of_testBit_eq fun i => ?_
  rw [rfold_bit n hn 256 (by omega)]
  by_cases hi : i < 256
  · rw [foldN_bit _ _ hi]
    simp [xor_lt i hi]
  · rw [bit_ge (foldN_lt hn) (by omega), bit_ge hn (by omega)]
    have : ¬ i ^^^ 32 < 256 := fun h => hi (by have := xor_lt _ h; rwa [xor_xor] at this)
    simp [this]
end Go.Proofs.YtgeaebcchjmmjaaDoor
