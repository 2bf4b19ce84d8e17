/- What Number of the page's layer 41 answers: the decimal numeral. -/
import Derived.Test.YtgeaebcchjmmjaaDoorStructs
import Derived.Lib.ItoaNum
namespace Go.Proofs.YtgeaebcchjmmjaaDoor
open Go.RowKit Go.Lib
def dgs : ByteArray := ⟨#[48, 49, 50, 51, 52, 53, 54, 55, 56, 57]⟩
def dg1 (q : Nat) : ByteArray := ⟨#[UInt8.ofNat (48 + q)]⟩
theorem run_dg (q : Nat) (hq : q < 10) (w : World) : (Instr.slice 9 (.string ⟨#[48, 49, 50, 51, 52, 53, 54, 55, 56, 57]⟩) (some (.int .i64 q)) (some (.int .i64 ((q + 1 : Nat) : Int))) none).run Tryd.prog w = .ok (.string (dg1 q)) w := by
  rw [run_slice_string (P := Tryd.prog) w 9 _ .i64 .i64 q ((q + 1 : Nat) : Int) Tryd.underlying9 (by omega) (by omega) (by simp [ByteArray.size]; omega)]
  match q, hq with
  | 0, _ | 1, _ | 2, _ | 3, _ | 4, _ | 5, _ | 6, _ | 7, _ | 8, _ | 9, _ => rfl
theorem ba_add (l : List UInt8) (b : UInt8) : (⟨l.toArray⟩ : ByteArray) ++ ⟨#[b]⟩ = ⟨(l ++ [b]).toArray⟩ := by
  apply tl_inj
  rw [Lib.toList_data, Lib.toList_data]
  simp
theorem itoa_step (n : Int) (h : 10 ≤ n ∨ n ≤ -10) : itoa n = itoa (n.tdiv 10) ++ [UInt8.ofNat (48 + n.natAbs % 10)] := by
  unfold itoa
  rcases h with h | h
  · obtain ⟨m, rfl⟩ := Int.eq_ofNat_of_zero_le (show 0 ≤ n by omega)
    have e : ((m : Int).tdiv 10) = ((m / 10 : Nat) : Int) := by rw [Int.tdiv_eq_ediv_of_nonneg (by omega)]; omega
    rw [e, if_neg (by omega), if_neg (by omega)]
    simp only [Int.toNat_natCast, Int.natAbs_natCast]
    conv => lhs; rw [decDigits, dif_neg (by omega)]
  · obtain ⟨m, rfl⟩ : ∃ m : Nat, n = -(m : Int) := ⟨n.natAbs, by omega⟩
    have e : ((-(m : Int)).tdiv 10) = -((m / 10 : Nat) : Int) := by rw [Int.neg_tdiv, Int.tdiv_eq_ediv_of_nonneg (by omega)]; omega
    rw [e, if_pos (by omega), if_pos (by omega)]
    simp only [Int.natAbs_neg, Int.natAbs_natCast, List.cons_append]
    conv => lhs; rw [decDigits, dif_neg (by omega)]
theorem dg_ext (q : Nat) (hq : q < 10) : (⟨#[48, 49, 50, 51, 52, 53, 54, 55, 56, 57]⟩ : ByteArray).extract q (q + 1) = dg1 q := by
  match q, hq with
  | 0, _ | 1, _ | 2, _ | 3, _ | 4, _ | 5, _ | 6, _ | 7, _ | 8, _ | 9, _ => rfl
theorem ret_str {v : Value} {s t : ByteArray} (hv : v = .string s) (h : s = t) : Ending.returned v = .returned (.string t) := by rw [hv, h]
theorem itoa_neg (q : Nat) (h0 : 1 ≤ q) (h1 : q < 10) : (⟨(itoa (-(q : Int))).toArray⟩ : ByteArray) = ⟨#[45]⟩ ++ dg1 q := by
  unfold itoa
  rw [if_pos (by omega), Int.natAbs_neg, Int.natAbs_natCast, decDigits, dif_pos h1]
  exact (ba_add [45] _).symm
theorem itoa_pos (q : Nat) (h1 : q < 10) : (⟨(itoa (q : Int)).toArray⟩ : ByteArray) = dg1 q := by
  unfold itoa
  rw [if_neg (by omega), Int.toNat_natCast, decDigits, dif_pos h1]
  rfl
theorem dec_len : ∀ (k u : Nat), u < 10 ^ (k + 1) → (decDigits u).length ≤ k + 1
  | 0, u, h => by rw [decDigits, dif_pos (by simpa using h)]; simp
  | k + 1, u, h => by
    by_cases h2 : u < 10
    · rw [decDigits, dif_pos h2]; simp
    · rw [decDigits, dif_neg h2]
      have := dec_len k (u / 10) (by rw [Nat.pow_succ] at h; omega)
      simp; omega
theorem itoa_len (n : Int) (hn : InI n) : (itoa n).length ≤ 21 := by
  obtain ⟨h0, h1⟩ := hn
  have hp : (10 : Nat) ^ (19 + 1) = 100000000000000000000 := by decide
  unfold itoa
  split
  · have := dec_len 19 n.natAbs (by rw [hp]; omega)
    simp; omega
  · have := dec_len 19 n.toNat (by rw [hp]; omega)
    omega
theorem tdiv_less (n : Int) (h : 10 ≤ n ∨ n ≤ -10) : (n.tdiv 10).natAbs < n.natAbs := by
  rw [Int.natAbs_tdiv]
  exact Nat.div_lt_self (by omega) (by decide)
theorem tdiv_in (n : Int) (h : InI n) : InI (n.tdiv 10) := by
  have h1 := Int.natAbs_tdiv n 10
  have h2 : n.natAbs / 10 ≤ n.natAbs := Nat.div_le_self _ _
  obtain ⟨h3, h4⟩ := h
  rcases Int.lt_or_le n 0 with h0 | h0
  · obtain ⟨m, rfl⟩ : ∃ m : Nat, n = -(m : Int) := ⟨n.natAbs, by omega⟩
    have e : ((-(m : Int)).tdiv 10) = -((m / 10 : Nat) : Int) := by rw [Int.neg_tdiv, Int.tdiv_eq_ediv_of_nonneg (by omega)]; omega
    rw [e]; constructor <;> omega
  · rw [Int.tdiv_eq_ediv_of_nonneg h0]; constructor <;> omega
set_option maxRecDepth 100000 in
set_option maxHeartbeats 4000000 in
theorem number_neg (q : Nat) (h0 : 1 ≤ q) (h1 : q < 10) (w : World) : Calls Tryd.prog 62 #[.int .i64 (-(q : Int))] w fun e w' => e = .returned (.string ⟨(itoa (-(q : Int))).toArray⟩) ∧ ∃ k, w' = w.drewN k := by
  rw [itoa_neg q h0 h1]
  have h2 : (-10 : Int) < -(q : Int) := by omega
  have h3 : (-(q : Int)) < 0 := by omega
  go_enter Tryd.func62, Tryd.ntmps62
  go_wp2
  go_ret
  exact ⟨ret_str rfl (by rw [dg_ext q h1]), 0, rfl⟩
set_option maxRecDepth 100000 in
set_option maxHeartbeats 4000000 in
theorem number_pos (q : Nat) (h1 : q < 10) (w : World) : Calls Tryd.prog 62 #[.int .i64 (q : Int)] w fun e w' => e = .returned (.string ⟨(itoa (q : Int)).toArray⟩) ∧ ∃ k, w' = w.drewN k := by
  rw [itoa_pos q h1]
  go_enter Tryd.func62, Tryd.ntmps62
  go_wp2
  go_ret
  exact ⟨ret_str rfl (by rw [dg_ext q h1]), 0, rfl⟩
set_option maxRecDepth 100000 in
set_option maxHeartbeats 4000000 in
theorem number_big (n : Int) (hn : InI n) (h : 10 ≤ n ∨ n ≤ -10) (ih : ∀ w, Calls Tryd.prog 62 #[.int .i64 (n.tdiv 10)] w fun e w' => e = .returned (.string ⟨(itoa (n.tdiv 10)).toArray⟩) ∧ ∃ k, w' = w.drewN k) (w : World) :
    Calls Tryd.prog 62 #[.int .i64 n] w fun e w' => e = .returned (.string ⟨(itoa n).toArray⟩) ∧ ∃ k, w' = w.drewN k := by
  obtain ⟨q, hq⟩ : ∃ q, n.natAbs % 10 = q := ⟨_, rfl⟩
  have hq10 : q < 10 := by omega
  have hs := itoa_step n h
  rw [hq] at hs
  rw [hs, ← ba_add]
  obtain ⟨q2, hq2⟩ : ∃ q2, q + 1 = q2 := ⟨_, rfl⟩
  have hdg : ∀ w, (Instr.slice 9 (.string ⟨#[48, 49, 50, 51, 52, 53, 54, 55, 56, 57]⟩) (some (.int .i64 q)) (some (.int .i64 (q2 : Int))) none).run Tryd.prog w = .ok (.string (dg1 q)) w := by subst hq2; exact run_dg q hq10
  have hw3 : IntKind.i64.wrap ((q : Int) + 1) = (q2 : Int) := by rw [IntWalk.i64_in _ (by omega)]; omega
  obtain ⟨hn0, hn1⟩ := hn
  obtain ⟨ti0, ti1⟩ := tdiv_in n ⟨hn0, hn1⟩
  have hw := IntWalk.i64_in _ ⟨ti0, ti1⟩
  have hcat := fun w => run_string_add (P := Tryd.prog) w ⟨(itoa (n.tdiv 10)).toArray⟩ (dg1 q) (by have := itoa_len _ (tdiv_in n ⟨hn0, hn1⟩); simp [ByteArray.size]; omega) (by simp [dg1, ByteArray.size])
  have IH := Lib.hid ih
  clear hs ih
  rcases h with h | h
  · have hm : n.tmod 10 = (q : Int) := by rw [Int.tmod_eq_emod_of_nonneg (by omega)]; omega
    have hw2 : IntKind.i64.wrap (n.tmod 10) = (q : Int) := by rw [hm, IntWalk.i64_in _ (by omega)]
    go_enter Tryd.func62, Tryd.ntmps62
    go_wp2
    go_quiet ((go_at_call 62; exact Calls.quiet_of ((IH.out _).mono fun _ _ h => h)))
    go_wp2
    go_ret
    exact ⟨rfl, _, rfl⟩
  · have hm : n.tmod 10 = -(q : Int) := by
      obtain ⟨m, rfl⟩ : ∃ m : Nat, n = -(m : Int) := ⟨n.natAbs, by omega⟩
      rw [Int.neg_tmod, Int.tmod_eq_emod_of_nonneg (by omega)]
      simp only [Int.natAbs_neg, Int.natAbs_natCast] at hq
      omega
    have hw2 : IntKind.i64.wrap (n.tmod 10) = -(q : Int) := by rw [hm, IntWalk.i64_in _ (by omega)]
    rcases Nat.eq_zero_or_pos q with h0 | h0
    · have hw4 : IntKind.i64.wrap (n.tmod 10) = (q : Int) := by rw [hw2]; omega
      have hm2 : n.tmod 10 = (q : Int) := by rw [hm]; omega
      clear hw2 hm h0
      go_enter Tryd.func62, Tryd.ntmps62
      go_wp2
      go_quiet ((go_at_call 62; exact Calls.quiet_of ((IH.out _).mono fun _ _ h => h)))
      go_wp2
      go_ret
      exact ⟨rfl, _, rfl⟩
    · have hlt0 : (-(q : Int)) < 0 := by omega
      go_enter Tryd.func62, Tryd.ntmps62
      go_wp2
      go_quiet ((go_at_call 62; exact Calls.quiet_of ((IH.out _).mono fun _ _ h => h)))
      go_wp2
      go_ret
      exact ⟨rfl, _, rfl⟩
theorem number_any (n : Int) (hn : InI n) (w : World) : Calls Tryd.prog 62 #[.int .i64 n] w fun e w' => e = .returned (.string ⟨(itoa n).toArray⟩) ∧ ∃ k, w' = w.drewN k := by
  obtain ⟨m, hm⟩ : ∃ m, n.natAbs = m := ⟨_, rfl⟩
  induction m using Nat.strongRecOn generalizing n w with
  | _ m ih =>
    by_cases h : 10 ≤ n ∨ n ≤ -10
    · exact number_big n hn h (fun w => ih (n.tdiv 10).natAbs (by rw [← hm]; exact tdiv_less n h) (n.tdiv 10) (tdiv_in n hn) w rfl) w
    · rcases Int.lt_or_le n 0 with h0 | h0
      · obtain ⟨q, rfl⟩ : ∃ q : Nat, n = -(q : Int) := ⟨n.natAbs, by omega⟩
        exact number_neg q (by omega) (by omega) w
      · obtain ⟨q, rfl⟩ := Int.eq_ofNat_of_zero_le h0
        exact number_pos q (by omega) w
end Go.Proofs.YtgeaebcchjmmjaaDoor
