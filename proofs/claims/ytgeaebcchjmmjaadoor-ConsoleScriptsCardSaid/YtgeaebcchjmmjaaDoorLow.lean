/- The lowest bit of a number of 64 bits, and the number without it. -/
import Derived.Lib.TrailingZeros
namespace Go.Proofs.YtgeaebcchjmmjaaDoor
open Go.Lib
theorem low_form (x : Nat) (h0 : x ≠ 0) (h1 : x < 2 ^ 64) : ∃ m, x = 2 ^ ctz 64 x * (2 * m + 1) ∧ ctz 64 x < 64 := by
  have := ctzFrom_spec 64 x (by omega) h1
  unfold ctz
  rw [if_neg h0]
  exact this
theorem ctz_lt (x : Nat) (h0 : x ≠ 0) (h1 : x < 2 ^ 64) : ctz 64 x < 64 := by
  obtain ⟨_, _, h⟩ := low_form x h0 h1
  exact h
theorem low_bit (x i : Nat) (h0 : x ≠ 0) (h1 : x < 2 ^ 64) : (x &&& (x - 1)).testBit i = (x.testBit i && !decide (i = ctz 64 x)) := by
  obtain ⟨m, hm, hk⟩ := low_form x h0 h1
  generalize ctz 64 x = k at *
  have e1 : x = 2 ^ k * (2 * m + 1) + 0 := by omega
  have hp : 0 < 2 ^ k := Nat.pow_pos (by decide)
  have e2 : x - 1 = 2 ^ k * (2 * m) + (2 ^ k - 1) := by
    rw [hm, Nat.mul_add]; omega
  rw [Nat.testBit_and, e2]
  rw [Nat.testBit_two_pow_mul_add (2 * m) (by omega : 2 ^ k - 1 < 2 ^ k)]
  rw [e1, Nat.testBit_two_pow_mul_add (2 * m + 1) hp]
  by_cases hi : i < k
  · simp [hi]
  · simp only [hi, if_false]
    by_cases he : i = k
    · subst he; simp
    · obtain ⟨j, rfl⟩ : ∃ j, i = k + (j + 1) := ⟨i - k - 1, by omega⟩
      rw [show k + (j + 1) - k = j + 1 by omega, Nat.testBit_succ, Nat.testBit_succ]
      rw [show (2 * m + 1) / 2 = m by omega, show 2 * m / 2 = m by omega]
      simp
theorem low_is (x : Nat) (h0 : x ≠ 0) (h1 : x < 2 ^ 64) : x.testBit (ctz 64 x) = true := by
  obtain ⟨m, hm, hk⟩ := low_form x h0 h1
  generalize ctz 64 x = k at *
  rw [hm, Nat.mul_comm, Nat.testBit_mul_two_pow]
  simp
theorem low_least (x : Nat) (h0 : x ≠ 0) (h1 : x < 2 ^ 64) (i : Nat) (hi : x.testBit i = true) : ctz 64 x ≤ i := by
  obtain ⟨m, hm, hk⟩ := low_form x h0 h1
  generalize ctz 64 x = k at *
  rw [hm, Nat.mul_comm, Nat.testBit_mul_two_pow] at hi
  simp at hi
  exact hi.1
theorem low_lt (x : Nat) (h0 : x ≠ 0) : x &&& (x - 1) < x := by
  have : x &&& (x - 1) ≤ x - 1 := Nat.and_le_right
  omega
end Go.Proofs.YtgeaebcchjmmjaaDoor
