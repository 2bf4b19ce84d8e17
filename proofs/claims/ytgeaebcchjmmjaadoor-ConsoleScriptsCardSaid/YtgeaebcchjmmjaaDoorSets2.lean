/- What And, Or, Not and Of of package byteset do to sets that are told as numbers. -/
import Derived.Test.YtgeaebcchjmmjaaDoorSets
namespace Go.Proofs.YtgeaebcchjmmjaaDoor
open Go.RowKit
set_option maxRecDepth 100000 in
theorem and_any (a b : Nat) (w : World) : Calls Tryd.prog 12 #[sv a, sv b] w fun e w' => e = .returned (sv (a &&& b)) ∧ Below w.heap.size w w' := by
  unfold sv
  go_enter Tryd.func12, Tryd.ntmps12
  go_wp2_with (go_at_call 40; refine (each_any 41 (fun x y => bits .and .u64 x y) and1_call and1 _ _ _ _ _ _ _ _ _).mono ?_; rintro e w1 ⟨rfl, hb⟩; obtain ⟨hc, hf⟩ := bcell hb)
  refine bodyPost_ret (v := sv (a &&& b)) (by simp [results, Tryd.results12, go_sem, hc, wd_and]) rfl ⟨rfl, ?_⟩
  repeat (with_reducible first | exact Below.refl _ _ | refine blw_drew ?_ | refine blw_alloc ?_ _ | refine blw_set ?_ (by simp; omega) _ | refine blw_then ?_ hb)
set_option maxRecDepth 100000 in
theorem or_any (a b : Nat) (w : World) : Calls Tryd.prog 35 #[sv a, sv b] w fun e w' => e = .returned (sv (a ||| b)) ∧ Below w.heap.size w w' := by
  unfold sv
  go_enter Tryd.func35, Tryd.ntmps35
  go_wp2_with (go_at_call 40; refine (each_any 68 (fun x y => bits .or .u64 x y) or1_call or1 _ _ _ _ _ _ _ _ _).mono ?_; rintro e w1 ⟨rfl, hb⟩; obtain ⟨hc, hf⟩ := bcell hb)
  refine bodyPost_ret (v := sv (a ||| b)) (by simp [results, Tryd.results35, go_sem, hc, wd_or]) rfl ⟨rfl, ?_⟩
  repeat (with_reducible first | exact Below.refl _ _ | refine blw_drew ?_ | refine blw_alloc ?_ _ | refine blw_set ?_ (by simp; omega) _ | refine blw_then ?_ hb)
set_option maxRecDepth 100000 in
theorem not_any (a : Nat) (w : World) : Calls Tryd.prog 42 #[sv a] w fun e w' => e = .returned (sv (allB ^^^ a)) ∧ Below w.heap.size w w' := by
  have e0 := wd_not a 0 (by decide)
  have e1 := wd_not a 1 (by decide)
  have e2 := wd_not a 2 (by decide)
  have e3 := wd_not a 3 (by decide)
  have H := Lib.hid (And.intro e0 (And.intro e1 (And.intro e2 e3)))
  clear e0 e1 e2 e3
  unfold sv
  go_enter Tryd.func42, Tryd.ntmps42
  go_wp2_with (go_at_call 40; refine (each_any 69 (fun x y => bits .xor .u64 IntKind.u64.max x) not1_call not1 _ _ _ _ _ _ _ _ _).mono ?_; rintro e w1 ⟨rfl, hb⟩; obtain ⟨hc, hf⟩ := bcell hb)
  refine bodyPost_ret (v := sv (allB ^^^ a)) (by simp [results, Tryd.results42, go_sem, hc, H.out]) rfl ⟨rfl, ?_⟩
  repeat (with_reducible first | exact Below.refl _ _ | refine blw_drew ?_ | refine blw_alloc ?_ _ | refine blw_set ?_ (by simp) _ | refine blw_then ?_ hb)
/-- The cells of a set. -/
def sc (n : Nat) : Array Value := #[.int .u64 (wd n 0), .int .u64 (wd n 1), .int .u64 (wd n 2), .int .u64 (wd n 3)]
theorem sc_at (n j : Nat) (h : j < 4) : (sc n)[j]? = some (.int .u64 (wd n j)) := by
  match j, h with
  | 0, _ => rfl
  | 1, _ => rfl
  | 2, _ => rfl
  | 3, _ => rfl
theorem sc_put (n k : Nat) (h : k < 256) : (sc n).setIfInBounds (k / 64) (.int .u64 (wd (n ||| 2 ^ k) (k / 64))) = sc (n ||| 2 ^ k) := by
  have hj : k / 64 < 4 := by omega
  have h0 : ∀ j, j ≠ k / 64 → wd (n ||| 2 ^ k) j = wd n j := wd_put_other n k
  unfold sc
  generalize hq : k / 64 = q at *
  match q, hj with
  | 0, _ => rw [h0 1 (by omega), h0 2 (by omega), h0 3 (by omega)]; rfl
  | 1, _ => rw [h0 0 (by omega), h0 2 (by omega), h0 3 (by omega)]; rfl
  | 2, _ => rw [h0 0 (by omega), h0 1 (by omega), h0 3 (by omega)]; rfl
  | 3, _ => rw [h0 0 (by omega), h0 1 (by omega), h0 2 (by omega)]; rfl
theorem sc_cells {W : World} {g n : Nat} {t : TypeId} (h : W.heap[g]? = some (.cells (sc n) t (0, 0))) :
    W.cell? ⟨g, 0, none⟩ = some (.int .u64 (wd n 0)) ∧ W.cell? ⟨g, 1, none⟩ = some (.int .u64 (wd n 1)) ∧ W.cell? ⟨g, 2, none⟩ = some (.int .u64 (wd n 2)) ∧ W.cell? ⟨g, 3, none⟩ = some (.int .u64 (wd n 3)) ∧ (∀ i, W.frozen? ⟨g, i, none⟩ = false) :=
  ⟨bk_cell h 0, bk_cell h 1, bk_cell h 2, bk_cell h 3, bk_free h⟩
theorem sc_zero : sc 0 = #[.int .u64 0, .int .u64 0, .int .u64 0, .int .u64 0] := by simp [sc, wd_zero]
/-- A byte is put into a set that lies in a block. -/
theorem sc_store {W : World} {g n m : Nat} {t : TypeId} (h : W.heap[g]? = some (.cells (sc n) t (0, 0))) (hm : m < 256) :
    (W.setCell ⟨g, m / 64, none⟩ (.int .u64 (wd (n ||| 2 ^ m) (m / 64)))).heap[g]? = some (.cells (sc (n ||| 2 ^ m)) t (0, 0)) := by
  rw [← sc_put n m hm]; exact bk_set h _ _
theorem sc_store4 {W : World} {g n m : Nat} {t : TypeId} (h : W.heap[g]? = some (.cells (sc n) t (0, 0))) :
    ((((W.setCell ⟨g, 0, none⟩ (.int .u64 (wd m 0))).setCell ⟨g, 1, none⟩ (.int .u64 (wd m 1))).setCell ⟨g, 2, none⟩ (.int .u64 (wd m 2))).setCell ⟨g, 3, none⟩ (.int .u64 (wd m 3))).heap[g]? = some (.cells (sc m) t (0, 0)) :=
  bk_set (bk_set (bk_set (bk_set h 0 _) 1 _) 2 _) 3 _
/-- The bytes of a list, as a set. -/
def ofN (l : List Int) : Nat := l.foldl (fun n b => n ||| 2 ^ b.toNat) 0
theorem ofN_snoc (l : List Int) (k : Nat) (h : k < l.length) : ofN (l.take (k + 1)) = ofN (l.take k) ||| 2 ^ (l.getD k 0).toNat := by
  unfold ofN
  rw [List.take_succ_eq_append_getElem h, List.foldl_append]
  simp [List.getD_eq_getElem?_getD, h]
set_option maxRecDepth 100000 in
set_option maxHeartbeats 1000000 in
theorem of_any (l : List Int) (b c : Nat) (w : World) (hl : l.length ≤ 1000) (hb : ∀ k, k < l.length → 0 ≤ l.getD k 0 ∧ l.getD k 0 < 256)
    (hc : ∀ k, k < l.length → w.cell? ⟨b, k, none⟩ = some (.int .u8 (l.getD k 0))) :
    Calls Tryd.prog 32 #[.slice (some ⟨b, 0, none⟩) l.length c] w fun e w' => e = .returned (sv (ofN l)) ∧ Below w.heap.size w w' := by
  have Hb := Lib.hid hb
  have Hc := Lib.hid hc
  clear hb hc
  unfold sv
  go_enter Tryd.func32, Tryd.ntmps32
  go_wp2
  go_loopw [8] (fun i wr => ∃ k : Nat, k ≤ l.length ∧ i = .int .i64 k ∧ wr.heap[w.heap.size]? = some (.cells #[.int .u64 0, .int .u64 0, .int .u64 0, .int .u64 0] 24 (0, 0)) ∧
      wr.heap[w.heap.size + 1]? = some (.cells (sc (ofN (l.take k))) 24 (0, 0)) ∧ Below w.heap.size w wr) (fun i _ => l.length - (intOf i).toNat)
  case atStart =>
    refine ⟨0, Nat.zero_le _, rfl, ?_, ?_, ?_⟩
    · exact bk_alloc (bk_new _ _) _
    · have := bk_new (w.alloc (.cells #[.int .u64 0, .int .u64 0, .int .u64 0, .int .u64 0] 24)) (.cells #[.int .u64 0, .int .u64 0, .int .u64 0, .int .u64 0] 24)
      simpa [sc, ofN, wd_zero] using this
    · exact blw_alloc (blw_alloc (Below.refl _ _) _) _
  case round =>
    obtain ⟨k, hk, rfl, h0, h1, hbel⟩ := hrel
    have H0 := Lib.hid h0
    have H1 := Lib.hid h1
    obtain ⟨c0, c1, c2, c3, cf⟩ := sc_cells h1
    rw [← sc_zero] at h0
    obtain ⟨d0, d1, d2, d3, df⟩ := sc_cells h0
    clear h0 h1
    by_cases hlt : k < l.length
    · have hx := Hb.out k hlt
      have hcell : wr.cell? ⟨b, k, none⟩ = some (.int .u8 (l.getD k 0)) := cell_below hbel (Hc.out k hlt)
      have HS := Lib.hid (ofN_snoc l k hlt)
      generalize l.getD k 0 = x at *
      obtain ⟨m, rfl⟩ := Int.eq_ofNat_of_zero_le hx.1
      have hm : m < 256 := by omega
      have hix : wr.cell? ⟨w.heap.size + 1, m / 64, none⟩ = some (.int .u64 (wd (ofN (l.take k)) (m / 64))) := (bk_cell H1.out _).trans (sc_at _ _ (by omega))
      clear c0 c1 c2 c3 d0 d1 d2 d3 df
      go_wp2
      go_roundw
      case rel =>
        rw [wd_put_or']
        exact ⟨k + 1, by omega, by go_num, bk_far H0.out (by simp) _, by rw [HS.out]; exact sc_store H1.out hm, blw_set hbel (by simp) _⟩
      case measure => simp [intOf]; omega
    · go_wp2
      have hkl : k = l.length := by omega
      subst hkl
      refine bodyPost_ret (v := sv (ofN l)) (by simp [results, Tryd.results32, go_sem, d0, d1, d2, d3]) rfl ⟨rfl, ?_⟩
      repeat (with_reducible first | exact hbel | refine blw_set ?_ (by simp) _)
end Go.Proofs.YtgeaebcchjmmjaaDoor
