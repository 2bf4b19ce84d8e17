/- The law NamedFolds returns true for every set of bytes. -/
import Derived.Test.YtgeaebcchjmmjaaDoorAwake02
import Derived.Test.YtgeaebcchjmmjaaDoorRefFold
namespace Go.Proofs.YtgeaebcchjmmjaaDoor
open Go.RowKit
set_option maxRecDepth 100000 in
set_option maxHeartbeats 4000000 in
theorem folds_walk (n : Nat) (hn : n < 2 ^ 256) (w : World) (hT : Tab w) : Calls Tryd.prog 3 #[sv n] w fun e w' => e = .returned (.bool true) ∧ Below w.heap.size w w' := by
  have HT := Lib.hid hT
  clear hT
  unfold sv
  go_enter Tryd.func3, Tryd.ntmps3
  go_wp2_with fail
  refine (awake02 _ (HT.out.alloc _)).mono ?_
  rintro e w1 ⟨rfl, hb1⟩
  have HT1 := Lib.hid ((HT.out.alloc (.cells (sc n) 24)).below hb1)
  have HN1 : Hid (w1.heap[w.heap.size]? = some (.cells (sc n) 24 (0, 0))) := Lib.hid (bk_below (bk_new _ _) hb1)
  obtain ⟨a0, a1, a2, a3, af⟩ := sc_cells HN1.out
  go_wp2_with fail
  refine (fold_any n _ HT1.out).mono ?_
  rintro e w2 ⟨rfl, hb2⟩
  have HT2 := Lib.hid (HT1.out.below hb2)
  have HN2 := Lib.hid (bk_below HN1.out hb2)
  have hF := foldN_lt hn
  have e1 := foldN_page hn
  have e2 := foldN_twice hn
  have e3 := foldN_holds hn
  have he1 := eql_sv (foldN n) (foldN n) hF hF
  have he2 := eql_sv n n hn hn
  have hB2 : Below w.heap.size w w2 := blw_then (blw_then (blw_alloc (Below.refl _ _) _) hb1) hb2
  have HE := Lib.hid (And.intro e1 (And.intro e2 e3))
  clear e1 e2 e3 a0 a1 a2 a3 af hb1 hb2 hF
  obtain ⟨b0, b1, b2, b3, bf⟩ := sc_cells HN2.out
  generalize hFn : foldN n = f at *
  have HFn := Lib.hid hFn
  clear hFn
  have hTd : Tab (w2.alloc (.cells #[.int .u64 (wd f 0), .int .u64 (wd f 1), .int .u64 (wd f 2), .int .u64 (wd f 3)] 24)).drew := (HT2.out.alloc _).drew
  have hlt : w.heap.size < w2.heap.size := bk_lt HN2.out
  have hlt1 : w.heap.size < w2.heap.size + 1 := by omega
  have hBd : Below w.heap.size w (w2.alloc (.cells #[.int .u64 (wd f 0), .int .u64 (wd f 1), .int .u64 (wd f 2), .int .u64 (wd f 3)] 24)).drew := blw_drew (blw_alloc hB2 _)
  go_wp2
  go_region_held3 (fun w' => w'.cell? ⟨w.heap.size, 0, none⟩ = some (.int .u64 (wd n 0)) ∧ w'.cell? ⟨w.heap.size, 1, none⟩ = some (.int .u64 (wd n 1)) ∧ w'.cell? ⟨w.heap.size, 2, none⟩ = some (.int .u64 (wd n 2)) ∧ w'.cell? ⟨w.heap.size, 3, none⟩ = some (.int .u64 (wd n 3)) ∧ w'.cell? ⟨w2.heap.size, 0, none⟩ = some (.int .u64 (wd f 0)) ∧ w'.cell? ⟨w2.heap.size, 1, none⟩ = some (.int .u64 (wd f 1)) ∧ w'.cell? ⟨w2.heap.size, 2, none⟩ = some (.int .u64 (wd f 2)) ∧ w'.cell? ⟨w2.heap.size, 3, none⟩ = some (.int .u64 (wd f 3)) ∧ Tab w' ∧ w2.heap.size < w'.heap.size ∧ w.heap.size < w'.heap.size ∧ Below w.heap.size w w')
    (go_keep)
    (first
      | (go_at_call 11; go_split_ands; refine (refFold_any n _).mono ?_; rw [HE.out.1]; rintro e u1 ⟨rfl, hu1⟩; obtain ⟨hc1, hf1⟩ := bcell hu1; have ht1 : Tab u1 := Tab.below (by assumption) hu1; have hs1 : w2.heap.size < u1.heap.size := (by have hs := hu1.size; omega); have hr1 : w.heap.size < u1.heap.size := (by omega); have hw1 : Below w.heap.size w u1 := blw_then (by assumption) hu1)
      | (go_at_call 10; go_split_ands; refine (fold_any f _ (by assumption)).mono ?_; rw [HE.out.2.1]; rintro e u2 ⟨rfl, hu2⟩; obtain ⟨hc2, hf2⟩ := bcell hu2; have ht2 : Tab u2 := Tab.below (by assumption) hu2; have hs2 : w2.heap.size < u2.heap.size := (by have hs := hu2.size; omega); have hr2 : w.heap.size < u2.heap.size := (by omega); have hw2 : Below w.heap.size w u2 := blw_then (by assumption) hu2)
      | (go_at_call 12; go_split_ands; refine (and_any f n _).mono ?_; rw [HE.out.2.2]; rintro e u3 ⟨rfl, hu3⟩; obtain ⟨hc3, hf3⟩ := bcell hu3; have ht3 : Tab u3 := Tab.below (by assumption) hu3; have hs3 : w2.heap.size < u3.heap.size := (by have hs := hu3.size; omega); have hr3 : w.heap.size < u3.heap.size := (by omega); have hw3 : Below w.heap.size w u3 := blw_then (by assumption) hu3))
  go_wp2
  go_ret
  go_split_ands
  exact ⟨rfl, by assumption⟩
end Go.Proofs.YtgeaebcchjmmjaaDoor
