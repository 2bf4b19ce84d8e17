/- What Union of package byteset answers: what is in any of some runs. -/
import Derived.Test.YtgeaebcchjmmjaaDoorSets4
namespace Go.Proofs.YtgeaebcchjmmjaaDoor
open Go.RowKit
/-- Some runs, as a set. -/
def unN (l : List (Nat × Nat)) : Nat := l.foldl (fun n r => n ||| rg r.1 (r.2 + 1 - r.1)) 0
theorem unN_snoc (l : List (Nat × Nat)) (k : Nat) (h : k < l.length) : unN (l.take (k + 1)) = unN (l.take k) ||| rg (l.getD k (0, 0)).1 ((l.getD k (0, 0)).2 + 1 - (l.getD k (0, 0)).1) := by
  unfold unN
  rw [List.take_succ_eq_append_getElem h, List.foldl_append]
  simp [List.getD_eq_getElem?_getD, h]
/-- Runs lie in a block. -/
def RunsAt (w : World) (b : Nat) (l : List (Nat × Nat)) : Prop := ∀ k, k < l.length → (l.getD k (0, 0)).1 < 256 ∧ (l.getD k (0, 0)).2 < 256 ∧ w.cell? ⟨b, k * 2, none⟩ = some (.int .u8 (l.getD k (0, 0)).1) ∧ w.cell? ⟨b, k * 2 + 1, none⟩ = some (.int .u8 (l.getD k (0, 0)).2)
theorem RunsAt.below {w W : World} {b : Nat} {l : List (Nat × Nat)} (h : RunsAt w b l) (hb : Below w.heap.size w W) : RunsAt W b l :=
  fun k hk => ⟨(h k hk).1, (h k hk).2.1, cell_below hb (h k hk).2.2.1, cell_below hb (h k hk).2.2.2⟩
set_option maxRecDepth 100000 in
set_option maxHeartbeats 1000000 in
theorem union_any (l : List (Nat × Nat)) (b c : Nat) (w : World) (hl : l.length ≤ 1000) (hb : RunsAt w b l) :
    Calls Tryd.prog 47 #[.slice (some ⟨b, 0, none⟩) l.length c] w fun e w' => e = .returned (sv (unN l)) ∧ Below w.heap.size w w' := by
  have Hb := Lib.hid hb
  clear hb
  unfold sv
  go_enter Tryd.func47, Tryd.ntmps47
  go_wp2
  go_loopw [8] (fun i wr => ∃ k : Nat, k ≤ l.length ∧ i = .int .i64 k ∧ wr.heap[w.heap.size]? = some (.cells (sc 0) 24 (0, 0)) ∧
      wr.heap[w.heap.size + 1]? = some (.cells (sc (unN (l.take k))) 24 (0, 0)) ∧ Below w.heap.size w wr) (fun i _ => l.length - (intOf i).toNat)
  case atStart =>
    refine ⟨0, Nat.zero_le _, rfl, ?_, ?_, ?_⟩
    · rw [sc_zero]; exact bk_alloc (bk_new _ _) _
    · have := bk_new (w.alloc (.cells #[.int .u64 0, .int .u64 0, .int .u64 0, .int .u64 0] 24)) (.cells #[.int .u64 0, .int .u64 0, .int .u64 0, .int .u64 0] 24)
      simpa [sc, unN, wd_zero] using this
    · exact blw_alloc (blw_alloc (Below.refl _ _) _) _
  case round =>
    obtain ⟨k, hk, rfl, h0, h1, hbel⟩ := hrel
    have H0 := Lib.hid h0
    have H1 := Lib.hid h1
    clear h0 h1
    by_cases hlt : k < l.length
    · obtain ⟨hlo, hhi, hc0, hc1⟩ := Hb.out.below hbel k hlt
      have HS := Lib.hid (unN_snoc l k hlt)
      generalize (l.getD k (0, 0)).1 = lo at *
      generalize (l.getD k (0, 0)).2 = hi at *
      obtain ⟨m, HM⟩ : ∃ m, Hid (unN (l.take k) = m) := ⟨_, Lib.hid rfl⟩
      have H1' := H1.out
      rw [HM.out] at H1'
      obtain ⟨c0, c1, c2, c3, cf⟩ := sc_cells H1'
      clear H1'
      have hblt : w.heap.size + 1 < wr.heap.size := bk_lt H1.out
      have hfa : ∀ o i, (wr.alloc o).frozen? ⟨w.heap.size + 1, i, none⟩ = false := fun o i => bk_free (bk_alloc H1.out o) i
      have hfd : ∀ o i, (wr.alloc o).drew.frozen? ⟨w.heap.size + 1, i, none⟩ = false := hfa
      go_wp2
      have hblt0 : w.heap.size < wr.heap.size := by omega
      go_region_with (first | (go_at_call 70; refine (range_any lo hi _ hlo hhi).mono ?_; rintro e w1 ⟨rfl, hb1⟩; obtain ⟨hc, hf⟩ := bcell hb1; have hz1 : w.heap.size + 1 < w1.heap.size := (by have hs := hb1.size; simp at hs; omega)) | (go_at_call 35; refine (or_any m (rg lo (hi + 1 - lo)) _).mono ?_; rintro e w2 ⟨rfl, hb2⟩; obtain ⟨hc2, hf2⟩ := bcell hb2))
      all_goals
        have hB2 : Below w.heap.size w w2 := blw_then (blw_then (blw_drew (blw_alloc hbel _)) hb1) hb2
        have H0' := Lib.hid (bk_below (bk_below (bk_drew (bk_alloc H0.out (.cells #[.int .u8 lo, .int .u8 hi] 112))) hb1) hb2)
        have H1' := Lib.hid (bk_below (bk_below (bk_drew (bk_alloc H1.out (.cells #[.int .u8 lo, .int .u8 hi] 112))) hb1) hb2)
        clear hc hf hc2 hf2 hb1 hb2 hfa hfd c0 c1 c2 c3 cf
        go_wp2
        go_roundw
        case rel =>
          refine ⟨k + 1, by omega, by go_num, ?_, ?_, ?_⟩
          · exact bk_far (bk_far (bk_far (bk_far H0'.out (by simp) _) (by simp) _) (by simp) _) (by simp) _
          · rw [HS.out, HM.out]
            exact sc_store4 H1'.out
          · exact blw_set (blw_set (blw_set (blw_set hB2 (by simp) _) (by simp) _) (by simp) _) (by simp) _
        case measure => simp [intOf]; omega
    · obtain ⟨c0, c1, c2, c3, cf⟩ := sc_cells H1.out
      obtain ⟨d0, d1, d2, d3, df⟩ := sc_cells H0.out
      go_wp2
      have hkl : k = l.length := by omega
      subst hkl
      refine bodyPost_ret (v := sv (unN l)) (by simp [results, Tryd.results47, go_sem, d0, d1, d2, d3]) rfl ⟨rfl, ?_⟩
      repeat (with_reducible first | exact hbel | refine blw_set ?_ (by simp) _)
end Go.Proofs.YtgeaebcchjmmjaaDoor
