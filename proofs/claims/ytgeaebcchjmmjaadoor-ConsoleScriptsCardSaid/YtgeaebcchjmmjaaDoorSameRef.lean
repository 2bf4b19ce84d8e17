/- What Same of the page's layer 40 answers of two operations that are the same. -/
import Derived.Test.YtgeaebcchjmmjaaDoorStructs
namespace Go.Proofs.YtgeaebcchjmmjaaDoor
open Go.RowKit
set_option maxRecDepth 100000 in
set_option maxHeartbeats 1000000 in
theorem refSame_none (a1 a2 : Option Addr) (c1 c2 : Nat) (t : ByteArray) (w : World) : Calls Tryd.prog 24 #[.agg #[.slice a1 0 c1, .string t], .agg #[.slice a2 0 c2, .string t]] w fun e w' => e = .returned (.bool true) ∧ Below w.heap.size w w' := by
  have ht : (t.toList == t.toList) = true := by simp
  go_enter Tryd.func24, Tryd.ntmps24
  go_wp2
  go_loopw [5] (fun i wr => i = .int .i64 0 ∧ wr = (w.alloc (.cells #[.slice a1 0 c1, .string t] 42)).alloc (.cells #[.slice a2 0 c2, .string t] 42)) (fun _ _ => 0)
  case atStart => exact ⟨rfl, rfl⟩
  case round =>
    obtain ⟨rfl, rfl⟩ := hrel
    go_wp2
    go_ret
    exact ⟨rfl, blw_alloc (blw_alloc (Below.refl _ _) _) _⟩
set_option maxRecDepth 100000 in
set_option maxHeartbeats 4000000 in
theorem refSame_some (b1 o1 c1 b2 o2 c2 : Nat) (ns : List Int) (t : ByteArray) (w : World) (hl : ns.length ≤ 9223372036854775807) (h1 : ∀ j n, ns[j]? = some n → w.cell? ⟨b1, o1 + j, none⟩ = some (.int .i64 n)) (h2 : ∀ j n, ns[j]? = some n → w.cell? ⟨b2, o2 + j, none⟩ = some (.int .i64 n)) :
    Calls Tryd.prog 24 #[.agg #[.slice (some ⟨b1, o1, none⟩) ns.length c1, .string t], .agg #[.slice (some ⟨b2, o2, none⟩) ns.length c2, .string t]] w fun e w' => e = .returned (.bool true) ∧ Below w.heap.size w w' := by
  have ht : (t.toList == t.toList) = true := by simp
  have H1 := Lib.hid h1
  have H2 := Lib.hid h2
  clear h1 h2
  obtain ⟨m, hm⟩ : ∃ m, ns.length = m := ⟨_, rfl⟩
  rw [hm] at hl ⊢
  have HM := Lib.hid hm
  clear hm
  go_enter Tryd.func24, Tryd.ntmps24
  go_wp2
  go_loopw [5] (fun i wr => ∃ k : Nat, k ≤ m ∧ i = .int .i64 k ∧ wr.heap[w.heap.size]? = some (.cells #[.slice (some ⟨b1, o1, none⟩) m c1, .string t] 42 (0, 0)) ∧ wr.heap[w.heap.size + 1]? = some (.cells #[.slice (some ⟨b2, o2, none⟩) m c2, .string t] 42 (0, 0)) ∧ Below w.heap.size w wr) (fun i _ => m - (intOf i).toNat)
  case atStart => exact ⟨0, by omega, rfl, bk_alloc (bk_new _ _) _, by simpa using bk_new (w.alloc (.cells #[.slice (some ⟨b1, o1, none⟩) m c1, .string t] 42)) _, blw_alloc (blw_alloc (Below.refl _ _) _) _⟩
  case round =>
    obtain ⟨k, hk, rfl, hx, hy, hbel⟩ := hrel
    obtain ⟨x0, x1, xf⟩ := cells2 hx
    obtain ⟨y0, y1, yf⟩ := cells2 hy
    have HX := Lib.hid hx
    have HY := Lib.hid hy
    clear hx hy
    by_cases hlt : k < m
    · have hk2 : k < ns.length := by rw [HM.out]; exact hlt
      have hc1 := cell_below hbel (H1.out k ns[k] (List.getElem?_eq_getElem hk2))
      have hc2 := cell_below hbel (H2.out k ns[k] (List.getElem?_eq_getElem hk2))
      generalize ns[k] = n at *
      have hki : (k : Int) < (m : Int) := by omega
      have hnn : (n != n) = false := by simp
      clear hk2
      go_wp2
      go_quiet (fail)
      go_wp2
      go_roundw
      case rel => exact ⟨k + 1, by omega, by go_num, HX.out, HY.out, blw_drewN hbel _⟩
      case measure => simp [intOf]; omega
    · go_wp2
      go_ret
      exact ⟨rfl, hbel⟩
theorem refSame_any {v1 v2 : Value} {ns : List Int} (t : ByteArray) {w : World} (h1 : IntsAt w v1 ns) (h2 : IntsAt w v2 ns) : Calls Tryd.prog 24 #[.agg #[v1, .string t], .agg #[v2, .string t]] w fun e w' => e = .returned (.bool true) ∧ Below w.heap.size w w' := by
  obtain ⟨_, hl, ⟨rfl, A1, k1, rfl⟩ | ⟨b1, o1, c1, rfl, _, g1⟩⟩ := h1
  · obtain ⟨_, _, ⟨_, A2, k2, rfl⟩ | ⟨b2, o2, c2, rfl, _, _⟩⟩ := h2
    · exact refSame_none _ _ _ _ t w
    · exact refSame_none _ _ _ _ t w
  · obtain ⟨_, _, ⟨rfl, A2, k2, rfl⟩ | ⟨b2, o2, c2, rfl, _, g2⟩⟩ := h2
    · exact refSame_none _ _ _ _ t w
    · exact refSame_some b1 o1 c1 b2 o2 c2 ns t w hl g1 g2
end Go.Proofs.YtgeaebcchjmmjaaDoor
