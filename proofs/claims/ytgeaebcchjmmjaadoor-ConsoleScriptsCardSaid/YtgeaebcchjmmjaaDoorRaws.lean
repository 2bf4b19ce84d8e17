/- A row of operations as they come in: numbers and a text each; what few makes of it. -/
import Derived.Test.YtgeaebcchjmmjaaDoorCReads
namespace Go.Proofs.YtgeaebcchjmmjaaDoor
open Go.RowKit Go.Lib
abbrev Raw := List Int × ByteArray
/-- The i-th element of a row of operations. -/
def RawAt (w : World) (b o i : Nat) (r : Raw) : Prop := ∃ v, w.cell? ⟨b, o + i * 2, none⟩ = some v ∧ IntsAt w v r.1 ∧ w.cell? ⟨b, o + i * 2 + 1, none⟩ = some (.string r.2)
def RawsAt (w : World) (v : Value) (rs : List Raw) : Prop :=
  rs.length ≤ 9223372036854775807 ∧ ((rs = [] ∧ ∃ A c, v = .slice A 0 c) ∨ ∃ b o cap, v = .slice (some ⟨b, o, none⟩) rs.length cap ∧ rs.length ≤ cap ∧ ∀ i r, rs[i]? = some r → RawAt w b o i r)
theorem RawAt.below {w W : World} {b o i : Nat} {r : Raw} (h : RawAt w b o i r) (hb : Below w.heap.size w W) : RawAt W b o i r := by
  obtain ⟨v, h1, h2, h3⟩ := h
  exact ⟨v, cell_below hb h1, h2.below hb, cell_below hb h3⟩
theorem RawsAt.below {w W : World} {v : Value} {rs : List Raw} (h : RawsAt w v rs) (hb : Below w.heap.size w W) : RawsAt W v rs := by
  refine ⟨h.1, ?_⟩
  rcases h.2 with h | ⟨b, o, cap, h1, h2, h3⟩
  · exact .inl h
  · exact .inr ⟨b, o, cap, h1, h2, fun i r hr => (h3 i r hr).below hb⟩
theorem raws_shape {w : World} {v : Value} {rs : List Raw} (h : RawsAt w v rs) : ∃ A cap, v = .slice A rs.length cap := by
  rcases h.2 with ⟨rfl, A, c, rfl⟩ | ⟨b, o, cap, rfl, _, _⟩
  · exact ⟨A, c, rfl⟩
  · exact ⟨_, cap, rfl⟩
/-- An element that is there. -/
theorem raws_at {w : World} {A : Option Addr} {cap n i : Nat} {rs : List Raw} {r : Raw} (h : RawsAt w (.slice A n cap) rs) (hr : rs[i]? = some r) : ∃ b o, A = some ⟨b, o, none⟩ ∧ b < w.heap.size ∧ RawAt w b o i r := by
  rcases h.2 with ⟨rfl, _⟩ | ⟨b, o, cap', hv, _, hc⟩
  · simp at hr
  · injection hv with h1 h2 h3
    subst h1
    obtain ⟨v, hv, h⟩ := hc i r hr
    exact ⟨b, o, rfl, World.block_lt_of_cell? w _ hv, v, hv, h⟩
/-- A row of operations that the call has made: its cells. -/
def RawCells (w : World) (xs : List Value) (rs : List Raw) : Prop :=
  xs.length = rs.length * 2 ∧ ∀ i r, rs[i]? = some r → ∃ v, xs[i * 2]? = some v ∧ IntsAt w v r.1 ∧ xs[i * 2 + 1]? = some (.string r.2)
theorem RawCells.nil (w : World) : RawCells w [] [] := ⟨rfl, fun i r h => by simp at h⟩
theorem RawCells.keep {w W : World} {xs : List Value} {rs : List Raw} (h : RawCells w xs rs) (hk : ∀ v ns, IntsAt w v ns → IntsAt W v ns) : RawCells W xs rs :=
  ⟨h.1, fun i r hr => by obtain ⟨v, h1, h2, h3⟩ := h.2 i r hr; exact ⟨v, h1, hk _ _ h2, h3⟩⟩
theorem RawCells.snoc {w : World} {xs : List Value} {rs : List Raw} (h : RawCells w xs rs) {v : Value} {r : Raw} (hv : IntsAt w v r.1) : RawCells w (xs ++ [v, .string r.2]) (rs ++ [r]) := by
  refine ⟨by simp [h.1]; omega, fun i r' hr => ?_⟩
  by_cases hi : i < rs.length
  · rw [List.getElem?_append_left hi] at hr
    obtain ⟨u, h1, h2, h3⟩ := h.2 i r' hr
    have hl := h.1
    exact ⟨u, by rw [List.getElem?_append_left (by omega)]; exact h1, h2, by rw [List.getElem?_append_left (by omega)]; exact h3⟩
  · have hie : i = rs.length := by
      have := (List.getElem?_eq_some_iff.1 hr).1
      simp at this; omega
    subst hie
    rw [List.getElem?_append_right (Nat.le_refl _), Nat.sub_self] at hr
    simp at hr
    subst hr
    have hl := h.1
    refine ⟨v, ?_, hv, ?_⟩
    · rw [List.getElem?_append_right (by omega), hl, Nat.sub_self]; rfl
    · rw [List.getElem?_append_right (by omega), hl, show rs.length * 2 + 1 - rs.length * 2 = 1 by omega]; rfl
theorem raws_of_own {w : World} {B : Nat} {v : Value} {xs : List Value} {rs : List Raw} (h : w.ownsRow B 42 2 v rs.length xs) (hc : RawCells w xs rs) (hl : rs.length ≤ 9223372036854775807) : RawsAt w v rs := by
  refine ⟨hl, ?_⟩
  have hcs := fun g hg => h.cells (g := g) hg
  rcases h.2 with ⟨rfl, h0⟩ | ⟨g, cap, cur, rfl, _, _, hn, _⟩
  · exact .inl ⟨List.eq_nil_of_length_eq_zero h0, none, 0, rfl⟩
  · refine .inr ⟨g, 0, cap, rfl, hn, fun i r hr => ?_⟩
    obtain ⟨u, h1, h2, h3⟩ := hc.2 i r hr
    have add0 : ∀ j : Nat, (⟨g, 0, none⟩ : Addr).add j = ⟨g, 0 + j, none⟩ := fun j => by
      unfold Addr.add
      split
      · rename_i h0; subst h0; rfl
      · rfl
    refine ⟨u, ?_, h2, ?_⟩
    · have := hcs g rfl (i * 2) u h1
      rwa [add0] at this
    · have := hcs g rfl (i * 2 + 1) _ h3
      rwa [add0] at this
/-- A row of numbers, cut. -/
theorem IntsAt.cut {w : World} {A : Option Addr} {n c : Nat} {ns : List Int} (h : IntsAt w (.slice A n c) ns) (m : Nat) (hm : m ≤ ns.length) : IntsAt w (.slice A m c) (ns.take m) := by
  refine ⟨fun k hk => h.1 k (List.mem_of_mem_take hk), by rw [List.length_take]; have := h.2.1; omega, ?_⟩
  rcases h.2.2 with ⟨rfl, A', c', hv⟩ | ⟨b, o, cap, hv, h4, h5⟩
  · have : m = 0 := by simpa using hm
    subst this
    exact .inl ⟨rfl, A, c, rfl⟩
  · injection hv with h1 h2 h3
    subst h1; subst h3
    have hl : (ns.take m).length = m := by rw [List.length_take]; omega
    refine .inr ⟨b, o, c, by rw [hl], by omega, fun j k hj => ?_⟩
    refine h5 j k ?_
    have hjm : j < m := by
      have := (List.getElem?_eq_some_iff.1 hj).1
      omega
    rwa [List.getElem?_take, if_pos hjm] at hj
/-- What few leaves of an operation. -/
def cutR (r : Raw) : Raw := (r.1.take 6, r.2.extract 0 (min r.2.size 30))
def fewR (rs : List Raw) : List Raw := (rs.take 12).map cutR
end Go.Proofs.YtgeaebcchjmmjaaDoor
