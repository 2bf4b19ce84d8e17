/- What Range of package byteset, and Has and Put of the page, do to sets that are told as numbers. -/
import Derived.Test.YtgeaebcchjmmjaaDoorSets2
namespace Go.Proofs.YtgeaebcchjmmjaaDoor
open Go.RowKit
/-- k bytes, from lo on. -/
def rg (lo : Nat) : Nat → Nat
  | 0 => 0
  | k + 1 => rg lo k ||| 2 ^ (lo + k)
theorem i64_and63 (m : Nat) (h : m < 256) : bits .and .i64 (m : Int) 63 = (m : Int) % 64 :=
  bits_mask .i64 8 (by decide) (fun n h0 h1 => by rw [IntKind.wrap_i64]; omega) 6 (by decide) m (by omega) (by omega)
set_option maxRecDepth 100000 in
set_option maxHeartbeats 1000000 in
theorem range_any (lo hi : Nat) (w : World) (hlo : lo < 256) (hhi : hi < 256) :
    Calls Tryd.prog 70 #[.int .u8 lo, .int .u8 hi] w fun e w' => e = .returned (sv (rg lo (hi + 1 - lo))) ∧ Below w.heap.size w w' := by
  unfold sv
  go_enter Tryd.func70, Tryd.ntmps70
  go_wp2
  go_loopw [6] (fun i wr => ∃ k : Nat, k ≤ hi + 1 - lo ∧ i = .int .i64 ((lo : Int) + k) ∧ wr.heap[w.heap.size]? = some (.cells #[.int .u64 0, .int .u64 0, .int .u64 0, .int .u64 0] 24 (0, 0)) ∧
      wr.heap[w.heap.size + 1]? = some (.cells (sc (rg lo k)) 24 (0, 0)) ∧ Below w.heap.size w wr) (fun i _ => (hi + 1 - intOf i).toNat)
  case atStart =>
    refine ⟨0, Nat.zero_le _, by simp, ?_, ?_, ?_⟩
    · exact bk_alloc (bk_new _ _) _
    · have := bk_new (w.alloc (.cells #[.int .u64 0, .int .u64 0, .int .u64 0, .int .u64 0] 24)) (.cells #[.int .u64 0, .int .u64 0, .int .u64 0, .int .u64 0] 24)
      simpa [sc, rg, wd_zero] using this
    · exact blw_alloc (blw_alloc (Below.refl _ _) _) _
  case round =>
    obtain ⟨k, hk, rfl, h0, h1, hbel⟩ := hrel
    have H0 := Lib.hid h0
    have H1 := Lib.hid h1
    obtain ⟨c0, c1, c2, c3, cf⟩ := sc_cells h1
    rw [← sc_zero] at h0
    obtain ⟨d0, d1, d2, d3, df⟩ := sc_cells h0
    clear h0 h1
    by_cases hlt : lo + k ≤ hi
    · clear c0 c1 c2 c3 d0 d1 d2 d3 df
      obtain ⟨m, hm'⟩ : ∃ m, m = lo + k := ⟨_, rfl⟩
      have hm : m < 256 := by omega
      have hix : wr.cell? ⟨w.heap.size + 1, m / 64, none⟩ = some (.int .u64 (wd (rg lo k) (m / 64))) := (bk_cell H1.out _).trans (sc_at _ _ (by omega))
      have hix' : wr.cell? ⟨w.heap.size + 1, ((m : Int) / 64).toNat, none⟩ = some (.int .u64 (wd (rg lo k) (m / 64))) := by rw [show ((m : Int) / 64).toNat = m / 64 by omega]; exact hix
      have hba := i64_and63 m hm
      have HS : Hid (rg lo (k + 1) = rg lo k ||| 2 ^ m) := by rw [hm']; rfl
      have HM := Lib.hid hm'
      rw [show ((lo : Int) + k) = (m : Int) by omega]
      have hmh : m ≤ hi := by omega
      have hbd : 0 ≤ (m : Int) / 64 ∧ (m : Int) / 64 < 4 := by omega
      have hbm : 0 ≤ (m : Int) % 64 := by omega
      clear hm'
      go_wp2
      refine wp_region_still_tail 9 (by kernel_rfl) (by kernel_rfl) ?_
      simp only [List.take_succ_cons, List.take_zero, List.drop_succ_cons, List.drop_zero]
      change wpStill _ _ (World.drew _) (fun a' => wpList _ _ _ _ a' (World.drew _)) _ _
      repeat still_step
      refine wpStill_nil ?_
      go_wp2
      go_roundw
      case rel =>
        rw [wd_put_or']
        have hM := HM.out
        exact ⟨k + 1, by omega, congrArg (Value.int .i64) (by omega), bk_drew (bk_far H0.out (by simp) _), by rw [HS.out]; exact bk_drew (sc_store H1.out hm), blw_drew (blw_set hbel (by simp) _)⟩
      case measure => have hM := HM.out; simp [intOf]; omega
    · go_wp2
      have hkl : k = hi + 1 - lo := by omega
      subst hkl
      refine bodyPost_ret (v := sv (rg lo (hi + 1 - lo))) (by simp [results, Tryd.results70, go_sem, d0, d1, d2, d3]) rfl ⟨rfl, ?_⟩
      repeat (with_reducible first | exact hbel | refine blw_set ?_ (by simp) _)

theorem wd_hasN (n m : Nat) : (bits .and .u64 (wd n (m / 64) / 2 ^ (m % 64)) 1 == 1) = n.testBit m := by
  have := wd_has n m (by omega)
  rw [show ((m : Int) / 64).toNat = m / 64 by omega, show ((m : Int) % 64).toNat = m % 64 by omega, Int.toNat_natCast] at this
  exact this
set_option maxRecDepth 100000 in
theorem refHas_any (n m : Nat) (w : World) (hm : m < 256) :
    Calls Tryd.prog 36 #[sv n, .int .i64 m] w fun e w' => e = .returned (.bool (n.testBit m)) ∧ Below w.heap.size w w' := by
  have hc := wd_cell n (m / 64) (by omega)
  unfold sv
  go_enter Tryd.func36, Tryd.ntmps36
  go_wp2
  go_ret
  refine ⟨?_, blw_alloc (Below.refl _ _) _⟩
  exact congrArg (fun x => Ending.returned (.bool x)) (wd_hasN n m)
set_option maxRecDepth 100000 in
theorem refPut_any (n m : Nat) (w : World) (hm : m < 256) :
    Calls Tryd.prog 38 #[sv n, .int .i64 m] w fun e w' => e = .returned (sv (n ||| 2 ^ m)) ∧ Below w.heap.size w w' := by
  have hp := Lib.hid (wd_put_or' n m)
  have ho := Lib.hid (wd_put_other n m)
  unfold sv
  have hm4 : m / 64 < 4 := by omega
  obtain ⟨q, hq⟩ : ∃ q, m / 64 = q := ⟨_, rfl⟩
  have hq' : (m : Int) / 64 = q := by omega
  rw [hq] at hm4
  obtain rfl | rfl | rfl | rfl : q = 0 ∨ q = 1 ∨ q = 2 ∨ q = 3 := by omega
  ·
    have hp' := hp.out
    rw [hq] at hp'
    have ho' := Lib.hid (fun j (hj : j ≠ 0) => ho.out j (by rw [hq]; exact hj))
    have hp2 := Lib.hid hp'
    clear hp' hp ho
    go_enter Tryd.func38, Tryd.ntmps38
    go_wp2
    refine bodyPost_ret (v := sv (n ||| 2 ^ m)) (by simp [results, Tryd.results38, go_sem, hp2.out, ho'.out 1 (by decide), ho'.out 2 (by decide), ho'.out 3 (by decide)]) rfl ⟨rfl, ?_⟩
    repeat (with_reducible first | exact Below.refl _ _ | refine blw_alloc ?_ _)
  ·
    have hp' := hp.out
    rw [hq] at hp'
    have ho' := Lib.hid (fun j (hj : j ≠ 1) => ho.out j (by rw [hq]; exact hj))
    have hp2 := Lib.hid hp'
    clear hp' hp ho
    go_enter Tryd.func38, Tryd.ntmps38
    go_wp2
    refine bodyPost_ret (v := sv (n ||| 2 ^ m)) (by simp [results, Tryd.results38, go_sem, hp2.out, ho'.out 0 (by decide), ho'.out 2 (by decide), ho'.out 3 (by decide)]) rfl ⟨rfl, ?_⟩
    repeat (with_reducible first | exact Below.refl _ _ | refine blw_alloc ?_ _)
  ·
    have hp' := hp.out
    rw [hq] at hp'
    have ho' := Lib.hid (fun j (hj : j ≠ 2) => ho.out j (by rw [hq]; exact hj))
    have hp2 := Lib.hid hp'
    clear hp' hp ho
    go_enter Tryd.func38, Tryd.ntmps38
    go_wp2
    refine bodyPost_ret (v := sv (n ||| 2 ^ m)) (by simp [results, Tryd.results38, go_sem, hp2.out, ho'.out 0 (by decide), ho'.out 1 (by decide), ho'.out 3 (by decide)]) rfl ⟨rfl, ?_⟩
    repeat (with_reducible first | exact Below.refl _ _ | refine blw_alloc ?_ _)
  ·
    have hp' := hp.out
    rw [hq] at hp'
    have ho' := Lib.hid (fun j (hj : j ≠ 3) => ho.out j (by rw [hq]; exact hj))
    have hp2 := Lib.hid hp'
    clear hp' hp ho
    go_enter Tryd.func38, Tryd.ntmps38
    go_wp2
    refine bodyPost_ret (v := sv (n ||| 2 ^ m)) (by simp [results, Tryd.results38, go_sem, hp2.out, ho'.out 0 (by decide), ho'.out 1 (by decide), ho'.out 2 (by decide)]) rfl ⟨rfl, ?_⟩
    repeat (with_reducible first | exact Below.refl _ _ | refine blw_alloc ?_ _)
end Go.Proofs.YtgeaebcchjmmjaaDoor
