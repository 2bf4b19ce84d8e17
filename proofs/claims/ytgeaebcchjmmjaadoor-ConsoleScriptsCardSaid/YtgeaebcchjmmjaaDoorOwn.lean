/- Appending one element to a slice of the call's own, as one law for the walk. -/
import Derived.Test.YtgeaebcchjmmjaaDoorHeap
import Derived.OwnWalk
import Derived.Laws.AppendOwn
import Derived.Deep.AppendLies
namespace Go.Proofs.YtgeaebcchjmmjaaDoor
open Go.RowKit
theorem own_drewN' {w : World} {B e size n : Nat} {v : Value} {xs : List Value} (h : w.ownsRow B e size v n xs) (q : Nat) : (w.drewN q).ownsRow B e size v n xs := h
theorem bk_new_at (W : World) (o : Obj) {n : Nat} (h : W.heap.size = n) : (W.alloc o).heap[n]? = some o := by subst h; exact bk_new W o
theorem bw_alloc {B : Nat} {w W : World} (h : Below B w W) (o : Obj) (hB : B ≤ W.heap.size) : Below B w (W.alloc o) := h.alloc hB o
theorem bw_drewN {B : Nat} {w W : World} (h : Below B w W) (n : Nat) : Below B w (W.drewN n) := ⟨h.os, h.tape, h.output, h.size, h.block⟩
theorem bw_then {B : Nat} {w W W' : World} (h : Below B w W) (k : Below B W W') : Below B w W' := h.trans k
theorem bw_more {B C : Nat} {w W : World} (h : Below C w W) (hB : B ≤ C) : Below B w W := ⟨h.os, h.tape, h.output, h.size, fun i hi => h.block i (Nat.lt_of_lt_of_le hi hB)⟩
theorem bw_cell {B : Nat} {w W : World} (hb : Below B w W) {a : Addr} (ha : a.block < B) {v : Value} (hc : w.cell? a = some v) : W.cell? a = some v := (hb.cell ha).trans hc
theorem bw_block {B : Nat} {w W : World} (hb : Below B w W) {g : Nat} (ha : g < B) {o : Obj} (hc : w.heap[g]? = some o) : W.heap[g]? = some o := (hb.block g ha).trans hc
theorem own_keep {w W : World} {base n size B : Nat} {e : TypeId} {v : Value} {xs : List Value} (h : w.ownsRow base e size v n xs) (hb : Below B w W) (hB : ∀ g, v.ownBlock = some g → g < B) : W.ownsRow base e size v n xs := by
  rcases h.2 with h0 | ⟨g, cap, cur, rfl, hg, hh, rest⟩
  · exact ⟨h.1, .inl h0⟩
  · exact ⟨h.1, .inr ⟨g, cap, cur, rfl, hg, (hb.block g (hB g rfl)).trans hh, rest⟩⟩
theorem own_less {w : World} {base base' n size : Nat} {e : TypeId} {v : Value} {xs : List Value} (h : w.ownsRow base e size v n xs) (hB : base' ≤ base) : w.ownsRow base' e size v n xs := by
  rcases h.2 with h0 | ⟨g, cap, cur, rfl, hg, rest⟩
  · exact ⟨h.1, .inl h0⟩
  · exact ⟨h.1, .inr ⟨g, cap, cur, rfl, Nat.le_trans hB hg, rest⟩⟩
theorem own_ne {w : World} {base n size g : Nat} {e t : TypeId} {v : Value} {xs : List Value} {cs : Array Value} (h : w.ownsRow base e size v n xs) (hg : w.heap[g]? = some (.cells cs t (0, 0))) (hne : e ≠ t) : v.ownBlock ≠ some g := by
  rcases h.2 with ⟨rfl, _⟩ | ⟨g', cap, cur, rfl, _, hh, _⟩
  · simp [Value.ownBlock]
  · intro he
    have : g' = g := by simpa [Value.ownBlock] using he
    subst this
    rw [hh] at hg
    injection hg with hg
    injection hg with _ hg
    exact hne hg
theorem own_set {w : World} {base n size g : Nat} {e : TypeId} {v : Value} {xs : List Value} (h : w.ownsRow base e size v n xs) (hne : v.ownBlock ≠ some g) (i : Nat) (u : Value) : (w.setCell ⟨g, i, none⟩ u).ownsRow base e size v n xs := by
  rcases h.2 with h0 | ⟨g', cap, cur, rfl, hg, hh, rest⟩
  · exact ⟨h.1, .inl h0⟩
  · exact ⟨h.1, .inr ⟨g', cap, cur, rfl, hg, bk_far hh (by simpa [Value.ownBlock] using hne) u, rest⟩⟩
section
variable {P : Program}
theorem wpList_append1 {w : World} {ops : Array Oper} {rest : List Oper} {o : Oper} {a : Act} {Q : Exit → Act → World → Prop} (hgd : o.guard = none) (s x : Operand) (t : TypeId)
    (ho : o.op = .call { callee := .builtin .append, args := #[s, x], argTypes := #[t, t] })
    (e : TypeId) (z : Value) (bytes : Nat) (ht : P.underlying t = some (.slice e)) (hinfo : (P.info? e).map (fun i => (i.zero, i.size, i.bytes)) = some (some z, 1, bytes)) (hz : z.cells.size = 1)
    (base : Nat) (v : Value) (n : Nat) (xs : List Value) (u : Value) (W : World) (hs : a.eval s = v) (hown : W.ownsRow base e 1 v n xs)
    (g c : Nat) (hg : W.heap.size = g) (hw : w = W.alloc (.cells #[u] e)) (hx : a.eval x = .slice (some ⟨g, 0, none⟩) 1 c) (h1 : u.oneCell' = true) (h63 : n + 1 ≤ maxLen) (hbytes : (n + 1) * bytes ≤ 140737488355328) (hbase : base ≤ W.heap.size)
    (h : ∀ q cap w', w'.ownsRow base e 1 (.slice (some ⟨q, 0, none⟩) (n + 1) cap) (n + 1) (xs ++ [u]) → Below base W w' → (v.ownBlock = some q ∨ q = g + 1) → (∀ g' o', W.heap[g']? = some o' → v.ownBlock ≠ some g' → w'.heap[g']? = some o') → wpList P ops Q rest (a.put o.dst (.slice (some ⟨q, 0, none⟩) (n + 1) cap)) w') : wpList P ops Q (o :: rest) a w := by
  obtain ⟨i0, hi, hz0, hz1, hz2⟩ := info_parts hinfo
  subst hw
  subst hg
  have hsz : (W.alloc (.cells #[u] e)).heap.size = W.heap.size + 1 := by simp
  refine wpList_append_lies _ hgd s x t ho base e i0 z 1 bytes ht hi hz0 hz1 hz2 hz (by decide) v n xs hs (hown.alloc _) ⟨W.heap.size, 0, none⟩ 1 c [u] hx rfl ?_ (by intro q hq; rw [List.mem_singleton.1 hq]; exact h1) (by decide) h63 hbytes (by rw [hsz]; omega) (W.heap.size + 1) hsz ?_
  · intro j q hj
    match j, hj with
    | 0, hj =>
      simp at hj
      subst hj
      simp [Addr.add]
  · intro g' cap w1 hown1 hgrow hat _
    exact h g' cap w1 hown1 (((Below.refl base W).alloc hbase _).grown hgrow (by rw [hsz]; omega) (fun q hq => own_base hown q hq)) hat (fun b ob hb hne => (hgrow.block b (by rw [hsz]; have := bk_lt hb; omega) (fun e => hne e.symm)).trans (bk_alloc hb _))
end
end Go.Proofs.YtgeaebcchjmmjaaDoor
