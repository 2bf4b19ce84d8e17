/- Appending one element of two cells to a slice of the call's own; rows of operations that the call has made. -/
import Derived.Test.YtgeaebcchjmmjaaDoorRaws
namespace Go.Proofs.YtgeaebcchjmmjaaDoor
open Go.RowKit
section
variable {P : Program}
theorem wpList_append2 {w : World} {ops : Array Oper} {rest : List Oper} {o : Oper} {a : Act} {Q : Exit → Act → World → Prop} (hgd : o.guard = none) (s x : Operand) (t : TypeId)
    (ho : o.op = .call { callee := .builtin .append, args := #[s, x], argTypes := #[t, t] })
    (e : TypeId) (z : Value) (bytes : Nat) (ht : P.underlying t = some (.slice e)) (hinfo : (P.info? e).map (fun i => (i.zero, i.size, i.bytes)) = some (some z, 2, bytes)) (hz : z.cells.size = 2)
    (base : Nat) (v : Value) (n : Nat) (xs : List Value) (u u' : Value) (W : World) (hs : a.eval s = v) (hown : W.ownsRow base e 2 v n xs)
    (g c : Nat) (hg : W.heap.size = g) (hw : w = W.alloc (.cells #[u, u'] e)) (hx : a.eval x = .slice (some ⟨g, 0, none⟩) 1 c) (h1 : u.oneCell' = true) (h2 : u'.oneCell' = true) (h63 : n + 1 ≤ maxLen) (hbytes : (n + 1) * bytes ≤ 140737488355328) (hbase : base ≤ W.heap.size)
    (h : ∀ q cap w', w'.ownsRow base e 2 (.slice (some ⟨q, 0, none⟩) (n + 1) cap) (n + 1) (xs ++ [u, u']) → Below base W w' → (∀ g' o', W.heap[g']? = some o' → v.ownBlock ≠ some g' → w'.heap[g']? = some o') → wpList P ops Q rest (a.put o.dst (.slice (some ⟨q, 0, none⟩) (n + 1) cap)) w') : wpList P ops Q (o :: rest) a w := by
  obtain ⟨i0, hi, hz0, hz1, hz2⟩ := info_parts hinfo
  subst hw
  subst hg
  have hsz : (W.alloc (.cells #[u, u'] e)).heap.size = W.heap.size + 1 := by simp
  refine wpList_append_lies _ hgd s x t ho base e i0 z 2 bytes ht hi hz0 hz1 hz2 hz (by decide) v n xs hs (hown.alloc _) ⟨W.heap.size, 0, none⟩ 1 c [u, u'] hx rfl ?_ ?_ (by decide) h63 hbytes (by rw [hsz]; omega) (W.heap.size + 1) hsz ?_
  · intro j q hj
    match j, hj with
    | 0, hj =>
      simp at hj
      subst hj
      exact bk_cell (bk_new W (.cells #[u, u'] e)) 0
    | 1, hj =>
      simp at hj
      subst hj
      exact bk_cell (bk_new W (.cells #[u, u'] e)) 1
  · intro q hq
    simp at hq
    rcases hq with rfl | rfl
    · exact h1
    · exact h2
  · intro g' cap w1 hown1 hgrow _ _
    exact h g' cap w1 hown1 (((Below.refl base W).alloc hbase _).grown hgrow (by rw [hsz]; omega) (fun q hq => own_base hown q hq)) (fun b ob hb hne => (hgrow.block b (by rw [hsz]; have := bk_lt hb; omega) (fun e => hne e.symm)).trans (bk_alloc hb _))
end
/-- A row of operations whose numbers lie in rows that the call has made. -/
def RawOwns (B : Nat) (w : World) (xs : List Value) (rs : List Raw) : Prop :=
  xs.length = rs.length * 2 ∧ ∀ i r, rs[i]? = some r → ∃ v, xs[i * 2]? = some v ∧ ReadOwn B w v r.1 ∧ xs[i * 2 + 1]? = some (.string r.2)
theorem RawOwns.nil (B : Nat) (w : World) : RawOwns B w [] [] := ⟨rfl, fun i r h => by simp at h⟩
theorem ReadOwn.below {B : Nat} {w W : World} {v : Value} {ns : List Int} (h : ReadOwn B w v ns) (hb : Below w.heap.size w W) : ReadOwn B W v ns := ⟨own_below h.1 hb, h.2⟩
theorem ReadOwn.less {B C : Nat} {w : World} {v : Value} {ns : List Int} (h : ReadOwn B w v ns) (hb : C ≤ B) : ReadOwn C w v ns := ⟨own_less h.1 hb, h.2⟩
theorem RawOwns.below {B : Nat} {w W : World} {xs : List Value} {rs : List Raw} (h : RawOwns B w xs rs) (hb : Below w.heap.size w W) : RawOwns B W xs rs :=
  ⟨h.1, fun i r hr => by obtain ⟨v, h1, h2, h3⟩ := h.2 i r hr; exact ⟨v, h1, h2.below hb, h3⟩⟩
/-- What an append to a row of operations leaves of a row of numbers. -/
theorem ReadOwn.grown {B C n : Nat} {w W : World} {v u : Value} {ns : List Int} {xs : List Value} (h : ReadOwn B w v ns) (ho : w.ownsRow C 42 2 u n xs) (hk : ∀ g' o', w.heap[g']? = some o' → u.ownBlock ≠ some g' → W.heap[g']? = some o') : ReadOwn B W v ns := by
  refine ⟨?_, h.2⟩
  obtain ⟨h1, h2⟩ := h.1
  refine ⟨h1, ?_⟩
  rcases h2 with h2 | ⟨g, cap, cur, rfl, hg, hh, hrest⟩
  · exact .inl h2
  · exact .inr ⟨g, cap, cur, rfl, hg, hk g _ hh (own_ne ho hh (by decide)), hrest⟩
theorem RawOwns.grown {B C n : Nat} {w W : World} {u : Value} {xs ys : List Value} {rs : List Raw} (h : RawOwns B w xs rs) (ho : w.ownsRow C 42 2 u n ys) (hk : ∀ g' o', w.heap[g']? = some o' → u.ownBlock ≠ some g' → W.heap[g']? = some o') : RawOwns B W xs rs :=
  ⟨h.1, fun i r hr => by obtain ⟨v, h1, h2, h3⟩ := h.2 i r hr; exact ⟨v, h1, h2.grown ho hk, h3⟩⟩
theorem RawOwns.cells {B : Nat} {w : World} {xs : List Value} {rs : List Raw} (h : RawOwns B w xs rs) : RawCells w xs rs :=
  ⟨h.1, fun i r hr => by obtain ⟨v, h1, h2, h3⟩ := h.2 i r hr; exact ⟨v, h1, h2.ints, h3⟩⟩
theorem RawOwns.snoc {B : Nat} {w : World} {xs : List Value} {rs : List Raw} (h : RawOwns B w xs rs) {v : Value} {r : Raw} (hv : ReadOwn B w v r.1) : RawOwns B w (xs ++ [v, .string r.2]) (rs ++ [r]) := by
  refine ⟨by simp [h.1]; omega, fun i r' hr => ?_⟩
  by_cases hi : i < rs.length
  · rw [List.getElem?_append_left hi] at hr
    obtain ⟨u, h1, h2, h3⟩ := h.2 i r' hr
    have hl := h.1
    exact ⟨u, by rw [List.getElem?_append_left (by omega)]; exact h1, h2, by rw [List.getElem?_append_left (by omega)]; exact h3⟩
  · have hie : i = rs.length := by
      have := (List.getElem?_eq_some_iff.1 hr).1
      simp at this; omega
    subst hie
    rw [List.getElem?_append_right (Nat.le_refl _), Nat.sub_self] at hr
    simp at hr
    subst hr
    have hl := h.1
    refine ⟨v, ?_, hv, ?_⟩
    · rw [List.getElem?_append_right (by omega), hl, Nat.sub_self]; rfl
    · rw [List.getElem?_append_right (by omega), hl, show rs.length * 2 + 1 - rs.length * 2 = 1 by omega]; rfl
end Go.Proofs.YtgeaebcchjmmjaaDoor
