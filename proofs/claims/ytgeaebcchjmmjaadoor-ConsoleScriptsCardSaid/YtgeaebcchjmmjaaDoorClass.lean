/- What Class of package named answers. -/
import Derived.Test.YtgeaebcchjmmjaaDoorRows12
import Derived.Lib.Strings
namespace Go.Proofs.YtgeaebcchjmmjaaDoor
open Go.RowKit
/-- The first row of a name, from k on. -/
def findN (s : ByteArray) : Nat → Option Nat
  | 0 => none
  | k + 1 => if nmS (11 - k) = s then some (11 - k) else findN s k
def clsN (s : ByteArray) : Nat := match findN s 12 with | some i => unN (nmR i) | none => 0
theorem findN_at (s : ByteArray) (k : Nat) (hk : k < 12) (h : nmS k = s) : findN s (12 - k) = some k := by
  obtain ⟨j, hj⟩ : ∃ j, 12 - k = j + 1 := ⟨11 - k, by omega⟩
  rw [hj, findN, show 11 - j = k by omega, if_pos h]
theorem findN_past (s : ByteArray) (k : Nat) (hk : k < 12) (h : nmS k ≠ s) : findN s (12 - k) = findN s (12 - (k + 1)) := by
  obtain ⟨j, hj⟩ : ∃ j, 12 - k = j + 1 := ⟨11 - k, by omega⟩
  rw [hj, findN, show 11 - j = k by omega, if_neg h, show 12 - (k + 1) = j by omega]
theorem tl_inj {a b : ByteArray} (h : a.toList = b.toList) : a = b := by
  rw [Lib.toList_data, Lib.toList_data] at h
  cases a; cases b; simp at h; simp [h]
theorem nmR_len (i : Nat) (h : i < 12) : (nmR i).length ≤ 1000 := by
  match i, h with
  | 0, _ | 1, _ | 2, _ | 3, _ | 4, _ | 5, _ | 6, _ | 7, _ | 8, _ | 9, _ | 10, _ | 11, _ => decide
set_option maxRecDepth 100000 in
set_option maxHeartbeats 1000000 in
theorem class_any (s : ByteArray) (w : World) :
    Calls Tryd.prog 18 #[.string s] w fun e w' => e = .returned (.tuple #[sv (clsN s), .bool (findN s 12).isSome]) ∧ Below w.heap.size w w' := by
  unfold sv
  go_enter Tryd.func18, Tryd.ntmps18
  go_wp2_with (go_at_call 46; refine (rows_any _).mono ?_; rintro e w1 ⟨g, rfl, hrow, hb1⟩)
  have hB1 : Below w.heap.size w w1 := blw_then (blw_alloc (Below.refl _ _) _) hb1
  have hz : w1.heap[w.heap.size]? = some (.cells (sc 0) 24 (0, 0)) := by rw [sc_zero]; exact bk_below (bk_new _ _) hb1
  have HR := Lib.hid hrow
  have HZ := Lib.hid hz
  clear hrow hb1 hz
  go_loopw [8] (fun i wr => ∃ k : Nat, k ≤ 12 ∧ i = .int .i64 k ∧ findN s (12 - k) = findN s 12 ∧ Below w1.heap.size w1 wr) (fun i _ => 12 - (intOf i).toNat)
  case atStart => exact ⟨0, by omega, rfl, rfl, Below.refl _ _⟩
  case round =>
    obtain ⟨k, hk, rfl, hf, hbel⟩ := hrel
    have HF := Lib.hid hf
    have hz := bk_below HZ.out hbel
    obtain ⟨d0, d1, d2, d3, df⟩ := sc_cells hz
    clear hf hz
    by_cases hlt : k < 12
    · obtain ⟨hc0, b, hc1, hruns⟩ := (HR.out k hlt).below hbel
      have hlen := nmR_len k hlt
      have HRU := Lib.hid hruns
      clear hruns
      have hwz : w.heap.size < wr.heap.size := bk_lt (bk_below HZ.out hbel)
      by_cases hs : nmS k = s
      · have hfin : findN s 12 = some k := HF.out ▸ findN_at s k hlt hs
        have hcl : clsN s = unN (nmR k) := by unfold clsN; rw [hfin]
        have HCL := Lib.hid hcl
        have HFI := Lib.hid hfin
        clear hfin hcl
        have hsl : ((nmS k).toList == s.toList) = true := by simp [hs]
        generalize nmS k = nk at *
        generalize nmR k = rk at *
        go_wp2_with (go_at_call 47; refine (union_any rk b _ _ hlen (by exact HRU.out.below (blw_alloc (Below.refl _ _) _))).mono ?_; rintro e w2 ⟨rfl, hb2⟩; obtain ⟨e0, e1, e2, e3, ef⟩ := sc_cells (bk_below (bk_alloc (bk_below HZ.out hbel) _) hb2))
        have hB3 : Below w.heap.size w w2 := blw_then (blw_alloc (hB1.trans (Below.mono hbel hB1.size)) _) hb2
        have hfi := HFI.out
        rw [HCL.out, hfi]
        refine bodyPost_ret (v := .tuple #[sv (unN rk), .bool true]) (by simp [results, Tryd.results18, go_sem, e0, e1, e2, e3]) rfl ⟨rfl, ?_⟩
        repeat (with_reducible first | exact hB3 | refine blw_set ?_ (by simp) _)
      · have hpast := Lib.hid (findN_past s k hlt hs)
        have hsl : ((nmS k).toList == s.toList) = false := by rw [beq_eq_false_iff_ne]; exact fun h => hs (tl_inj h)
        generalize nmS k = nk at *
        generalize nmR k = rk at *
        go_wp2
        go_roundw
        case rel => exact ⟨k + 1, by omega, by go_num, by rw [← hpast.out]; exact HF.out, blw_alloc hbel _⟩
        case measure => simp [intOf]; omega
    · go_wp2
      have hk12 : k = 12 := by omega
      subst hk12
      have hfin : findN s 12 = none := HF.out ▸ rfl
      have hcl : clsN s = 0 := by unfold clsN; rw [hfin]
      rw [hcl, hfin]
      refine bodyPost_ret (v := .tuple #[sv 0, .bool false]) (by simp [results, Tryd.results18, go_sem, d0, d1, d2, d3, wd_zero]) rfl ⟨rfl, ?_⟩
      have hB3 := hB1.trans (Below.mono hbel hB1.size)
      repeat (with_reducible first | exact hB3 | refine blw_set ?_ (by simp) _)
end Go.Proofs.YtgeaebcchjmmjaaDoor
