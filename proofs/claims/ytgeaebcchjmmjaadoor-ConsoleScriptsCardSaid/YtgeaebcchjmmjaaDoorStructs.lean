/- Blocks that hold a struct: its cells, and a result that is read from one. -/
import Derived.Test.YtgeaebcchjmmjaaDoorClass
namespace Go.Proofs.YtgeaebcchjmmjaaDoor
open Go.RowKit
section
variable {W : World} {g : Nat} {t : TypeId} {a b c d e : Value}
theorem cells2 (h : W.heap[g]? = some (.cells #[a, b] t (0, 0))) : W.cell? ⟨g, 0, none⟩ = some a ∧ W.cell? ⟨g, 1, none⟩ = some b ∧ ∀ i, W.frozen? ⟨g, i, none⟩ = false :=
  ⟨bk_cell h 0, bk_cell h 1, bk_free h⟩
theorem cells3 (h : W.heap[g]? = some (.cells #[a, b, c] t (0, 0))) : W.cell? ⟨g, 0, none⟩ = some a ∧ W.cell? ⟨g, 1, none⟩ = some b ∧ W.cell? ⟨g, 2, none⟩ = some c ∧ ∀ i, W.frozen? ⟨g, i, none⟩ = false :=
  ⟨bk_cell h 0, bk_cell h 1, bk_cell h 2, bk_free h⟩
theorem cells5 (h : W.heap[g]? = some (.cells #[a, b, c, d, e] t (0, 0))) : W.cell? ⟨g, 0, none⟩ = some a ∧ W.cell? ⟨g, 1, none⟩ = some b ∧ W.cell? ⟨g, 2, none⟩ = some c ∧ W.cell? ⟨g, 3, none⟩ = some d ∧ W.cell? ⟨g, 4, none⟩ = some e ∧ ∀ i, W.frozen? ⟨g, i, none⟩ = false :=
  ⟨bk_cell h 0, bk_cell h 1, bk_cell h 2, bk_cell h 3, bk_cell h 4, bk_free h⟩
theorem store2 {x y : Value} (h : W.heap[g]? = some (.cells #[a, b] t (0, 0))) : ((W.setCell ⟨g, 0, none⟩ x).setCell ⟨g, 1, none⟩ y).heap[g]? = some (.cells #[x, y] t (0, 0)) :=
  bk_set (bk_set h 0 x) 1 y
theorem store3 {x y z : Value} (h : W.heap[g]? = some (.cells #[a, b, c] t (0, 0))) : (((W.setCell ⟨g, 0, none⟩ x).setCell ⟨g, 1, none⟩ y).setCell ⟨g, 2, none⟩ z).heap[g]? = some (.cells #[x, y, z] t (0, 0)) :=
  bk_set (bk_set (bk_set h 0 x) 1 y) 2 z
theorem store5 {x y z u v : Value} (h : W.heap[g]? = some (.cells #[a, b, c, d, e] t (0, 0))) : (((((W.setCell ⟨g, 0, none⟩ x).setCell ⟨g, 1, none⟩ y).setCell ⟨g, 2, none⟩ z).setCell ⟨g, 3, none⟩ u).setCell ⟨g, 4, none⟩ v).heap[g]? = some (.cells #[x, y, z, u, v] t (0, 0)) :=
  bk_set (bk_set (bk_set (bk_set (bk_set h 0 x) 1 y) 2 z) 3 u) 4 v
variable {fn : Func} {p u : Nat} {tmps : Array Value} {v : Value}
theorem res42 (hr : fn.results = #[.cell p 42, .tmp u]) (hp : tmps.getD p undef = .pointer (some ⟨g, 0, none⟩)) (hu : tmps.getD u undef = v) (hg : W.heap[g]? = some (.cells #[a, b] 42 (0, 0))) :
    (results fn tmps).run Tryd.prog W = .ok (.tuple #[.agg #[a, b], v]) W := by
  obtain ⟨c0, c1, cf⟩ := cells2 hg
  have hp' : tmps[p]?.getD undef = .pointer (some ⟨g, 0, none⟩) := by simpa using hp
  have hu' : tmps[u]?.getD undef = v := by simpa using hu
  simp [results, hr, hp', hu', go_sem, c0, c1]
theorem res120 (hr : fn.results = #[.cell p 120, .tmp u]) (hp : tmps.getD p undef = .pointer (some ⟨g, 0, none⟩)) (hu : tmps.getD u undef = v) (hg : W.heap[g]? = some (.cells #[a, b, c] 120 (0, 0))) :
    (results fn tmps).run Tryd.prog W = .ok (.tuple #[.agg #[a, b, c], v]) W := by
  obtain ⟨c0, c1, c2, cf⟩ := cells3 hg
  have hp' : tmps[p]?.getD undef = .pointer (some ⟨g, 0, none⟩) := by simpa using hp
  have hu' : tmps[u]?.getD undef = v := by simpa using hu
  simp [results, hr, hp', hu', go_sem, c0, c1, c2]
theorem res89 (hr : fn.results = #[.cell p 89, .tmp u]) (hp : tmps.getD p undef = .pointer (some ⟨g, 0, none⟩)) (hu : tmps.getD u undef = v) (hg : W.heap[g]? = some (.cells #[a, b, c, d, e] 89 (0, 0))) :
    (results fn tmps).run Tryd.prog W = .ok (.tuple #[.agg #[a, b, c, d, e], v]) W := by
  obtain ⟨c0, c1, c2, c3, c4, cf⟩ := cells5 hg
  have hp' : tmps[p]?.getD undef = .pointer (some ⟨g, 0, none⟩) := by simpa using hp
  have hu' : tmps[u]?.getD undef = v := by simpa using hu
  simp [results, hr, hp', hu', go_sem, c0, c1, c2, c3, c4]
end
/-- Two of one function's contracts: what holds of the bounds of an int. -/
abbrev InI (k : Int) : Prop := -9223372036854775808 ≤ k ∧ k ≤ 9223372036854775807
/-- A byte of a string. -/
def bat (s : ByteArray) (j : Nat) : Nat := (s.data.toList.getD j 0).toNat
theorem bat_lt (s : ByteArray) (j : Nat) : bat s j < 256 := UInt8.toNat_lt _
theorem run_ix (s : ByteArray) (j : Nat) (hj : j < s.size) (w : World) : (Instr.index 9 (.string s) (.int .i64 j)).run Tryd.prog w = .ok (.int .u8 (bat s j)) w := by
  rw [run_index_string w 9 s .i64 j Tryd.underlying9, dif_pos ⟨by omega, by omega⟩]
  have : ((s[(j : Int).toNat]'(by simpa using hj)).toNat : Int) = (bat s j : Int) := by
    unfold bat
    congr 1
    have h2 : j < s.data.toList.length := hj
    rw [List.getD_eq_getElem?_getD, List.getElem?_eq_getElem h2]
    rfl
  rw [this]
/-- A row of ints. -/
def IntsAt (w : World) (v : Value) (ns : List Int) : Prop :=
  (∀ n, n ∈ ns → InI n) ∧ ns.length ≤ 9223372036854775807 ∧ ((ns = [] ∧ ∃ A c, v = .slice A 0 c) ∨ ∃ b o cap, v = .slice (some ⟨b, o, none⟩) ns.length cap ∧ ns.length ≤ cap ∧ ∀ j n, ns[j]? = some n → w.cell? ⟨b, o + j, none⟩ = some (.int .i64 n))
theorem IntsAt.below {w W : World} {v : Value} {ns : List Int} (h : IntsAt w v ns) (hb : Below w.heap.size w W) : IntsAt W v ns := by
  refine ⟨h.1, h.2.1, ?_⟩
  rcases h.2.2 with h | ⟨b, o, cap, h1, h2, h3⟩
  · exact .inl h
  · exact .inr ⟨b, o, cap, h1, h2, fun j n hj => cell_below hb (h3 j n hj)⟩
end Go.Proofs.YtgeaebcchjmmjaaDoor
