/- What rows of package named makes: the twelve names and their runs. -/
import Derived.Test.YtgeaebcchjmmjaaDoorUnion
namespace Go.Proofs.YtgeaebcchjmmjaaDoor
open Go.RowKit
/-- The names, rising, and their runs. -/
def nmTab : List (List UInt8 × List (Nat × Nat)) := [([97, 108, 110, 117, 109], [(48, 57), (65, 90), (97, 122)]), ([97, 108, 112, 104, 97], [(65, 90), (97, 122)]), ([98, 108, 97, 110, 107], [(9, 9), (32, 32)]), ([99, 110, 116, 114, 108], [(0, 31), (127, 127)]), ([100, 105, 103, 105, 116], [(48, 57)]), ([103, 114, 97, 112, 104], [(33, 126)]), ([108, 111, 119, 101, 114], [(97, 122)]), ([112, 114, 105, 110, 116], [(32, 126)]), ([112, 117, 110, 99, 116], [(33, 47), (58, 64), (91, 96), (123, 126)]), ([115, 112, 97, 99, 101], [(9, 13), (32, 32)]), ([117, 112, 112, 101, 114], [(65, 90)]), ([120, 100, 105, 103, 105, 116], [(48, 57), (65, 70), (97, 102)])]
def nmS (i : Nat) : ByteArray := ⟨(nmTab.getD i ([], [])).1.toArray⟩
def nmR (i : Nat) : List (Nat × Nat) := (nmTab.getD i ([], [])).2
/-- Row i of the names, in a block. -/
def RowAt (w : World) (g i : Nat) : Prop := w.cell? ⟨g, i * 2, none⟩ = some (.string (nmS i)) ∧ ∃ b, w.cell? ⟨g, i * 2 + 1, none⟩ = some (.slice (some ⟨b, 0, none⟩) (nmR i).length (nmR i).length) ∧ RunsAt w b (nmR i)
theorem RowAt.below {w W : World} {g i : Nat} (h : RowAt w g i) (hb : Below w.heap.size w W) : RowAt W g i :=
  ⟨cell_below hb h.1, h.2.imp fun _ h => ⟨cell_below hb h.1, h.2.below hb⟩⟩
def runCells : List (Nat × Nat) → List Value
  | [] => []
  | r :: l => .int .u8 r.1 :: .int .u8 r.2 :: runCells l
theorem runCells_at : ∀ (l : List (Nat × Nat)) (k : Nat), k < l.length → (runCells l)[k * 2]? = some (.int .u8 (l.getD k (0, 0)).1) ∧ (runCells l)[k * 2 + 1]? = some (.int .u8 (l.getD k (0, 0)).2)
  | [], k, h => by simp at h
  | r :: l, 0, _ => ⟨rfl, rfl⟩
  | r :: l, k + 1, h => by
    have := runCells_at l k (by simpa using h)
    rw [show (k + 1) * 2 = k * 2 + 1 + 1 by omega]
    simpa [runCells] using this
theorem runs_of {w : World} {b : Nat} {t : TypeId} {cs : Array Value} {l : List (Nat × Nat)} (hb : w.heap[b]? = some (.cells cs t (0, 0))) (hc : cs = (runCells l).toArray) (hl : ∀ r, r ∈ l → r.1 < 256 ∧ r.2 < 256) : RunsAt w b l := by
  intro k hk
  obtain ⟨h1, h2⟩ := runCells_at l k hk
  have hm : l.getD k (0, 0) ∈ l := by
    rw [List.getD_eq_getElem?_getD, List.getElem?_eq_getElem hk]
    exact List.getElem_mem hk
  subst hc
  exact ⟨(hl _ hm).1, (hl _ hm).2, (bk_cell hb _).trans (by simpa using h1), (bk_cell hb _).trans (by simpa using h2)⟩
theorem RowAt.mk {w : World} {g i : Nat} (b : Nat) {cs cs2 : Array Value} {t t2 : TypeId} {l : List (Nat × Nat)} {s : ByteArray} (hs : nmS i = s) (hl : nmR i = l)
    (hg : w.heap[g]? = some (.cells cs t (0, 0))) (hb : w.heap[b]? = some (.cells cs2 t2 (0, 0))) (h1 : cs[i * 2]? = some (.string s)) (h2 : cs[i * 2 + 1]? = some (.slice (some ⟨b, 0, none⟩) l.length l.length))
    (hc : cs2 = (runCells l).toArray) (hr : ∀ r, r ∈ l → r.1 < 256 ∧ r.2 < 256) : RowAt w g i := by
  subst hs; subst hl; exact ⟨(bk_cell hg _).trans h1, b, (bk_cell hg _).trans h2, runs_of hb hc hr⟩
theorem bk_at {W : World} {n : Nat} {o : Obj} (h : W.heap.size = n) : (W.alloc o).heap[n]? = some o := by subst h; exact bk_new W o
def RowsEnd (w : World) (e : Ending) (w' : World) : Prop := ∃ g, e = .returned (.slice (some ⟨g, 0, none⟩) 12 12) ∧ (∀ i, i < 12 → RowAt w' g i) ∧ Below w.heap.size w w'
set_option maxRecDepth 100000 in
set_option maxHeartbeats 4000000 in
theorem rows_any (w : World) : Calls Tryd.prog 46 #[] w (RowsEnd w) := by
  go_enter Tryd.func46, Tryd.ntmps46
  go_wp2
  go_ret
  refine ⟨_, rfl, ?_, by repeat (with_reducible first | exact Below.refl _ _ | refine blw_alloc ?_ _)⟩
  intro i hi
  match i, hi with
  | 0, _ => exact RowAt.mk (w.heap.size + 1 + 1 + 1) (l := [(48, 57), (65, 90), (97, 122)]) (s := ⟨#[97, 108, 110, 117, 109]⟩) rfl rfl (bk_at (by simp)) (by repeat (first | exact bk_at (by simp) | refine bk_alloc ?_ _)) rfl rfl rfl (by decide)
  | 1, _ => exact RowAt.mk (w.heap.size + 1 + 1 + 1 + 1) (l := [(65, 90), (97, 122)]) (s := ⟨#[97, 108, 112, 104, 97]⟩) rfl rfl (bk_at (by simp)) (by repeat (first | exact bk_at (by simp) | refine bk_alloc ?_ _)) rfl rfl rfl (by decide)
  | 2, _ => exact RowAt.mk (w.heap.size + 1 + 1 + 1 + 1 + 1) (l := [(9, 9), (32, 32)]) (s := ⟨#[98, 108, 97, 110, 107]⟩) rfl rfl (bk_at (by simp)) (by repeat (first | exact bk_at (by simp) | refine bk_alloc ?_ _)) rfl rfl rfl (by decide)
  | 3, _ => exact RowAt.mk (w.heap.size + 1 + 1 + 1 + 1 + 1 + 1) (l := [(0, 31), (127, 127)]) (s := ⟨#[99, 110, 116, 114, 108]⟩) rfl rfl (bk_at (by simp)) (by repeat (first | exact bk_at (by simp) | refine bk_alloc ?_ _)) rfl rfl rfl (by decide)
  | 4, _ => exact RowAt.mk (w.heap.size + 1 + 1 + 1 + 1 + 1 + 1 + 1) (l := [(48, 57)]) (s := ⟨#[100, 105, 103, 105, 116]⟩) rfl rfl (bk_at (by simp)) (by repeat (first | exact bk_at (by simp) | refine bk_alloc ?_ _)) rfl rfl rfl (by decide)
  | 5, _ => exact RowAt.mk (w.heap.size + 1 + 1 + 1 + 1 + 1 + 1 + 1 + 1) (l := [(33, 126)]) (s := ⟨#[103, 114, 97, 112, 104]⟩) rfl rfl (bk_at (by simp)) (by repeat (first | exact bk_at (by simp) | refine bk_alloc ?_ _)) rfl rfl rfl (by decide)
  | 6, _ => exact RowAt.mk (w.heap.size + 1 + 1 + 1 + 1 + 1 + 1 + 1 + 1 + 1) (l := [(97, 122)]) (s := ⟨#[108, 111, 119, 101, 114]⟩) rfl rfl (bk_at (by simp)) (by repeat (first | exact bk_at (by simp) | refine bk_alloc ?_ _)) rfl rfl rfl (by decide)
  | 7, _ => exact RowAt.mk (w.heap.size + 1 + 1 + 1 + 1 + 1 + 1 + 1 + 1 + 1 + 1) (l := [(32, 126)]) (s := ⟨#[112, 114, 105, 110, 116]⟩) rfl rfl (bk_at (by simp)) (by repeat (first | exact bk_at (by simp) | refine bk_alloc ?_ _)) rfl rfl rfl (by decide)
  | 8, _ => exact RowAt.mk (w.heap.size + 1 + 1 + 1 + 1 + 1 + 1 + 1 + 1 + 1 + 1 + 1) (l := [(33, 47), (58, 64), (91, 96), (123, 126)]) (s := ⟨#[112, 117, 110, 99, 116]⟩) rfl rfl (bk_at (by simp)) (by repeat (first | exact bk_at (by simp) | refine bk_alloc ?_ _)) rfl rfl rfl (by decide)
  | 9, _ => exact RowAt.mk (w.heap.size + 1 + 1 + 1 + 1 + 1 + 1 + 1 + 1 + 1 + 1 + 1 + 1) (l := [(9, 13), (32, 32)]) (s := ⟨#[115, 112, 97, 99, 101]⟩) rfl rfl (bk_at (by simp)) (by repeat (first | exact bk_at (by simp) | refine bk_alloc ?_ _)) rfl rfl rfl (by decide)
  | 10, _ => exact RowAt.mk (w.heap.size + 1 + 1 + 1 + 1 + 1 + 1 + 1 + 1 + 1 + 1 + 1 + 1 + 1) (l := [(65, 90)]) (s := ⟨#[117, 112, 112, 101, 114]⟩) rfl rfl (bk_at (by simp)) (by repeat (first | exact bk_at (by simp) | refine bk_alloc ?_ _)) rfl rfl rfl (by decide)
  | 11, _ => exact RowAt.mk (w.heap.size + 1 + 1 + 1 + 1 + 1 + 1 + 1 + 1 + 1 + 1 + 1 + 1 + 1 + 1) (l := [(48, 57), (65, 70), (97, 102)]) (s := ⟨#[120, 100, 105, 103, 105, 116]⟩) rfl rfl (bk_at (by simp)) (by repeat (first | exact bk_at (by simp) | refine bk_alloc ?_ _)) rfl rfl rfl (by decide)
end Go.Proofs.YtgeaebcchjmmjaaDoor
