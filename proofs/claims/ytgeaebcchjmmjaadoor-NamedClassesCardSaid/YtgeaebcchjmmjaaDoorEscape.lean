/- Results that are sets; what of and Dot of package named answer. -/
import Derived.Test.YtgeaebcchjmmjaaDoorClass
namespace Go.Proofs.YtgeaebcchjmmjaaDoor
open Go.RowKit
theorem of1_any (x : Nat) (hx : x < 256) (b c : Nat) (w : World) (hc : w.cell? ⟨b, 0, none⟩ = some (.int .u8 x)) :
    Calls Tryd.prog 32 #[.slice (some ⟨b, 0, none⟩) 1 c] w fun e w' => e = .returned (sv (2 ^ x)) ∧ Below w.heap.size w w' := by
  have h := of_any [(x : Int)] b c w (by simp) (fun k hk => by simp at hk; subst hk; simp; omega) (fun k hk => by simp at hk; subst hk; simpa using hc)
  have e : ofN [(x : Int)] = 2 ^ x := by simp [ofN]
  rw [e] at h
  exact h
/-- A result that is one set, in a block of zeros. -/
theorem zsc (W : World) : (W.alloc (.cells #[.int .u64 0, .int .u64 0, .int .u64 0, .int .u64 0] 24)).heap[W.heap.size]? = some (.cells (sc 0) 24 (0, 0)) := by rw [sc_zero]; exact bk_new _ _
theorem res_sv {fn : Func} {p g n : Nat} {tmps : Array Value} {W : World} (hr : fn.results = #[.cell p 24]) (hp : tmps.getD p undef = .pointer (some ⟨g, 0, none⟩)) (hg : W.heap[g]? = some (.cells (sc n) 24 (0, 0))) :
    (results fn tmps).run Tryd.prog W = .ok (sv n) W := by
  obtain ⟨c0, c1, c2, c3, cf⟩ := sc_cells hg
  have hp' : tmps[p]?.getD undef = .pointer (some ⟨g, 0, none⟩) := by simpa using hp
  simp [results, hr, hp', go_sem, c0, c1, c2, c3]
theorem res_sv2 {fn : Func} {p g n u : Nat} {tmps : Array Value} {W : World} {v : Value} (hr : fn.results = #[.cell p 24, .tmp u]) (hp : tmps.getD p undef = .pointer (some ⟨g, 0, none⟩)) (hu : tmps.getD u undef = v) (hg : W.heap[g]? = some (.cells (sc n) 24 (0, 0))) :
    (results fn tmps).run Tryd.prog W = .ok (.tuple #[sv n, v]) W := by
  obtain ⟨c0, c1, c2, c3, cf⟩ := sc_cells hg
  have hp' : tmps[p]?.getD undef = .pointer (some ⟨g, 0, none⟩) := by simpa using hp
  have hu' : tmps[u]?.getD undef = v := by simpa using hu
  simp [results, hr, hp', hu', go_sem, c0, c1, c2, c3]
set_option maxRecDepth 100000 in
theorem nof_any (s : ByteArray) (w : World) : Calls Tryd.prog 34 #[.string s] w fun e w' => e = .returned (sv (clsN s)) ∧ Below w.heap.size w w' := by
  unfold sv
  go_enter Tryd.func34, Tryd.ntmps34
  go_wp2_with (go_at_call 18; refine (class_any s _).mono ?_; rintro e w1 ⟨rfl, hb⟩; obtain ⟨e0, e1, e2, e3, ef⟩ := sc_cells (bk_below (zsc w) hb); have hsz : w.heap.size < w1.heap.size := (by have h := hb.size; simp at h; omega))
  have hB := blw_then (blw_alloc (Below.refl w.heap.size w) _) hb
  refine bodyPost_ret (v := sv (clsN s)) (res_sv rfl rfl (bk_alloc (sc_store4 (bk_below (zsc w) hb)) _)) rfl ⟨rfl, ?_⟩
  repeat (with_reducible first | exact hB | refine blw_alloc ?_ _ | refine blw_set ?_ (by simp) _)
set_option maxRecDepth 100000 in
theorem dot_any (w : World) : Calls Tryd.prog 16 #[] w fun e w' => e = .returned (sv (allB ^^^ 1024)) ∧ Below w.heap.size w w' := by
  unfold sv
  go_enter Tryd.func16, Tryd.ntmps16
  go_wp2_with fail
  refine (of1_any 10 (by decide) _ _ _ (by simp)).mono ?_
  rintro e w1 ⟨rfl, hb⟩
  go_wp2_with fail
  refine (not_any 1024 _).mono ?_
  rintro e w2 ⟨rfl, hb2⟩
  have hz := bk_below (bk_below (bk_alloc (zsc w) _) hb) hb2
  obtain ⟨e0, e1, e2, e3, ef⟩ := sc_cells hz
  go_wp2
  have hB := blw_then (blw_then (blw_alloc (blw_alloc (Below.refl w.heap.size w) _) _) hb) hb2
  refine bodyPost_ret (v := sv (allB ^^^ 1024)) (res_sv rfl rfl (sc_store4 hz)) rfl ⟨rfl, ?_⟩
  repeat (with_reducible first | exact hB | refine blw_alloc ?_ _ | refine blw_set ?_ (by simp) _)
end Go.Proofs.YtgeaebcchjmmjaaDoor
