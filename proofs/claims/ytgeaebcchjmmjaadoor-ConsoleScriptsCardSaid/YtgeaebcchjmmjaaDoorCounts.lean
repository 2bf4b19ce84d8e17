/- Which numbers of a kind count, in the page's words. -/
import Derived.Test.YtgeaebcchjmmjaaDoorOpOf3
namespace Go.Proofs.YtgeaebcchjmmjaaDoor
open Go.RowKit
def cS (i : Nat) : Bool := (opS i).data.toList.contains 83
def cA (i : Nat) : Bool := (opS i).data.toList.contains 65
def cL (i : Nat) : Bool := (opS i).data.toList.contains 76
theorem store4 {W : World} {g : Nat} {t : TypeId} {a b c d x y z u : Value} (h : W.heap[g]? = some (.cells #[a, b, c, d] t (0, 0))) : ((((W.setCell ⟨g, 0, none⟩ x).setCell ⟨g, 1, none⟩ y).setCell ⟨g, 2, none⟩ z).setCell ⟨g, 3, none⟩ u).heap[g]? = some (.cells #[x, y, z, u] t (0, 0)) :=
  bk_set (bk_set (bk_set (bk_set h 0 x) 1 y) 2 z) 3 u
theorem res128 {W : World} {g p : Nat} {a b c d : Value} {fn : Func} {tmps : Array Value} (hr : fn.results = #[.cell p 128]) (hp : tmps.getD p undef = .pointer (some ⟨g, 0, none⟩)) (hg : W.heap[g]? = some (.cells #[a, b, c, d] 128 (0, 0))) :
    (results fn tmps).run Tryd.prog W = .ok (.agg #[a, b, c, d]) W := by
  have c0 := bk_cell hg 0
  have c1 := bk_cell hg 1
  have c2 := bk_cell hg 2
  have c3 := bk_cell hg 3
  have hp' : tmps[p]?.getD undef = .pointer (some ⟨g, 0, none⟩) := by simpa using hp
  simp at c0 c1 c2 c3
  simp [results, hr, hp', go_sem, c0, c1, c2, c3]
set_option maxRecDepth 100000 in
set_option maxHeartbeats 4000000 in
theorem counts_0 (w : World) : Calls Tryd.prog 82 #[.int .i64 1] w fun e w' => e = .returned (.agg #[.bool false, .bool true, .bool false, .bool true]) ∧ Below w.heap.size w w' := by
  go_enter Tryd.func82, Tryd.ntmps82
  go_wp2
  refine bodyPost_ret (v := .agg #[.bool false, .bool true, .bool false, .bool true]) (res128 rfl rfl (bk_new _ _)) rfl ⟨rfl, ?_⟩
  repeat (with_reducible first | exact Below.refl _ _ | refine blw_alloc ?_ _ | refine blw_set ?_ (by simp) _)
set_option maxRecDepth 100000 in
set_option maxHeartbeats 4000000 in
theorem counts_1 (w : World) : Calls Tryd.prog 82 #[.int .i64 2] w fun e w' => e = .returned (.agg #[.bool false, .bool true, .bool true, .bool false]) ∧ Below w.heap.size w w' := by
  go_enter Tryd.func82, Tryd.ntmps82
  go_wp2
  refine bodyPost_ret (v := .agg #[.bool false, .bool true, .bool true, .bool false]) (res128 rfl rfl (bk_new _ _)) rfl ⟨rfl, ?_⟩
  repeat (with_reducible first | exact Below.refl _ _ | refine blw_alloc ?_ _ | refine blw_set ?_ (by simp) _)
set_option maxRecDepth 100000 in
set_option maxHeartbeats 4000000 in
theorem counts_2 (w : World) : Calls Tryd.prog 82 #[.int .i64 3] w fun e w' => e = .returned (.agg #[.bool false, .bool true, .bool true, .bool true]) ∧ Below w.heap.size w w' := by
  go_enter Tryd.func82, Tryd.ntmps82
  go_wp2
  refine bodyPost_ret (v := .agg #[.bool false, .bool true, .bool true, .bool true]) (res128 rfl rfl (bk_new _ _)) rfl ⟨rfl, ?_⟩
  repeat (with_reducible first | exact Below.refl _ _ | refine blw_alloc ?_ _ | refine blw_set ?_ (by simp) _)
set_option maxRecDepth 100000 in
set_option maxHeartbeats 4000000 in
theorem counts_3 (w : World) : Calls Tryd.prog 82 #[.int .i64 4] w fun e w' => e = .returned (.agg #[.bool false, .bool false, .bool false, .bool false]) ∧ Below w.heap.size w w' := by
  go_enter Tryd.func82, Tryd.ntmps82
  go_wp2
  refine bodyPost_ret (v := .agg #[.bool false, .bool false, .bool false, .bool false]) (res128 rfl rfl (bk_new _ _)) rfl ⟨rfl, ?_⟩
  repeat (with_reducible first | exact Below.refl _ _ | refine blw_alloc ?_ _ | refine blw_set ?_ (by simp) _)
set_option maxRecDepth 100000 in
set_option maxHeartbeats 4000000 in
theorem counts_4 (w : World) : Calls Tryd.prog 82 #[.int .i64 5] w fun e w' => e = .returned (.agg #[.bool false, .bool false, .bool false, .bool false]) ∧ Below w.heap.size w w' := by
  go_enter Tryd.func82, Tryd.ntmps82
  go_wp2
  refine bodyPost_ret (v := .agg #[.bool false, .bool false, .bool false, .bool false]) (res128 rfl rfl (bk_new _ _)) rfl ⟨rfl, ?_⟩
  repeat (with_reducible first | exact Below.refl _ _ | refine blw_alloc ?_ _ | refine blw_set ?_ (by simp) _)
set_option maxRecDepth 100000 in
set_option maxHeartbeats 4000000 in
theorem counts_5 (w : World) : Calls Tryd.prog 82 #[.int .i64 6] w fun e w' => e = .returned (.agg #[.bool false, .bool false, .bool false, .bool true]) ∧ Below w.heap.size w w' := by
  go_enter Tryd.func82, Tryd.ntmps82
  go_wp2
  refine bodyPost_ret (v := .agg #[.bool false, .bool false, .bool false, .bool true]) (res128 rfl rfl (bk_new _ _)) rfl ⟨rfl, ?_⟩
  repeat (with_reducible first | exact Below.refl _ _ | refine blw_alloc ?_ _ | refine blw_set ?_ (by simp) _)
set_option maxRecDepth 100000 in
set_option maxHeartbeats 4000000 in
theorem counts_6 (w : World) : Calls Tryd.prog 82 #[.int .i64 7] w fun e w' => e = .returned (.agg #[.bool true, .bool false, .bool false, .bool false]) ∧ Below w.heap.size w w' := by
  go_enter Tryd.func82, Tryd.ntmps82
  go_wp2
  refine bodyPost_ret (v := .agg #[.bool true, .bool false, .bool false, .bool false]) (res128 rfl rfl (bk_new _ _)) rfl ⟨rfl, ?_⟩
  repeat (with_reducible first | exact Below.refl _ _ | refine blw_alloc ?_ _ | refine blw_set ?_ (by simp) _)
set_option maxRecDepth 100000 in
set_option maxHeartbeats 4000000 in
theorem counts_7 (w : World) : Calls Tryd.prog 82 #[.int .i64 8] w fun e w' => e = .returned (.agg #[.bool true, .bool false, .bool false, .bool false]) ∧ Below w.heap.size w w' := by
  go_enter Tryd.func82, Tryd.ntmps82
  go_wp2
  refine bodyPost_ret (v := .agg #[.bool true, .bool false, .bool false, .bool false]) (res128 rfl rfl (bk_new _ _)) rfl ⟨rfl, ?_⟩
  repeat (with_reducible first | exact Below.refl _ _ | refine blw_alloc ?_ _ | refine blw_set ?_ (by simp) _)
set_option maxRecDepth 100000 in
set_option maxHeartbeats 4000000 in
theorem counts_8 (w : World) : Calls Tryd.prog 82 #[.int .i64 9] w fun e w' => e = .returned (.agg #[.bool true, .bool true, .bool false, .bool false]) ∧ Below w.heap.size w w' := by
  go_enter Tryd.func82, Tryd.ntmps82
  go_wp2
  refine bodyPost_ret (v := .agg #[.bool true, .bool true, .bool false, .bool false]) (res128 rfl rfl (bk_new _ _)) rfl ⟨rfl, ?_⟩
  repeat (with_reducible first | exact Below.refl _ _ | refine blw_alloc ?_ _ | refine blw_set ?_ (by simp) _)
set_option maxRecDepth 100000 in
set_option maxHeartbeats 4000000 in
theorem counts_9 (w : World) : Calls Tryd.prog 82 #[.int .i64 10] w fun e w' => e = .returned (.agg #[.bool true, .bool true, .bool false, .bool false]) ∧ Below w.heap.size w w' := by
  go_enter Tryd.func82, Tryd.ntmps82
  go_wp2
  refine bodyPost_ret (v := .agg #[.bool true, .bool true, .bool false, .bool false]) (res128 rfl rfl (bk_new _ _)) rfl ⟨rfl, ?_⟩
  repeat (with_reducible first | exact Below.refl _ _ | refine blw_alloc ?_ _ | refine blw_set ?_ (by simp) _)
set_option maxRecDepth 100000 in
set_option maxHeartbeats 4000000 in
theorem counts_10 (w : World) : Calls Tryd.prog 82 #[.int .i64 11] w fun e w' => e = .returned (.agg #[.bool true, .bool true, .bool true, .bool false]) ∧ Below w.heap.size w w' := by
  go_enter Tryd.func82, Tryd.ntmps82
  go_wp2
  refine bodyPost_ret (v := .agg #[.bool true, .bool true, .bool true, .bool false]) (res128 rfl rfl (bk_new _ _)) rfl ⟨rfl, ?_⟩
  repeat (with_reducible first | exact Below.refl _ _ | refine blw_alloc ?_ _ | refine blw_set ?_ (by simp) _)
set_option maxRecDepth 100000 in
set_option maxHeartbeats 4000000 in
theorem counts_11 (w : World) : Calls Tryd.prog 82 #[.int .i64 12] w fun e w' => e = .returned (.agg #[.bool true, .bool false, .bool false, .bool false]) ∧ Below w.heap.size w w' := by
  go_enter Tryd.func82, Tryd.ntmps82
  go_wp2
  refine bodyPost_ret (v := .agg #[.bool true, .bool false, .bool false, .bool false]) (res128 rfl rfl (bk_new _ _)) rfl ⟨rfl, ?_⟩
  repeat (with_reducible first | exact Below.refl _ _ | refine blw_alloc ?_ _ | refine blw_set ?_ (by simp) _)
set_option maxRecDepth 100000 in
set_option maxHeartbeats 4000000 in
theorem counts_12 (w : World) : Calls Tryd.prog 82 #[.int .i64 13] w fun e w' => e = .returned (.agg #[.bool true, .bool true, .bool false, .bool false]) ∧ Below w.heap.size w w' := by
  go_enter Tryd.func82, Tryd.ntmps82
  go_wp2
  refine bodyPost_ret (v := .agg #[.bool true, .bool true, .bool false, .bool false]) (res128 rfl rfl (bk_new _ _)) rfl ⟨rfl, ?_⟩
  repeat (with_reducible first | exact Below.refl _ _ | refine blw_alloc ?_ _ | refine blw_set ?_ (by simp) _)
set_option maxRecDepth 100000 in
set_option maxHeartbeats 4000000 in
theorem counts_13 (w : World) : Calls Tryd.prog 82 #[.int .i64 14] w fun e w' => e = .returned (.agg #[.bool false, .bool true, .bool true, .bool false]) ∧ Below w.heap.size w w' := by
  go_enter Tryd.func82, Tryd.ntmps82
  go_wp2
  refine bodyPost_ret (v := .agg #[.bool false, .bool true, .bool true, .bool false]) (res128 rfl rfl (bk_new _ _)) rfl ⟨rfl, ?_⟩
  repeat (with_reducible first | exact Below.refl _ _ | refine blw_alloc ?_ _ | refine blw_set ?_ (by simp) _)
set_option maxRecDepth 100000 in
set_option maxHeartbeats 4000000 in
theorem counts_14 (w : World) : Calls Tryd.prog 82 #[.int .i64 15] w fun e w' => e = .returned (.agg #[.bool false, .bool false, .bool false, .bool false]) ∧ Below w.heap.size w w' := by
  go_enter Tryd.func82, Tryd.ntmps82
  go_wp2
  refine bodyPost_ret (v := .agg #[.bool false, .bool false, .bool false, .bool false]) (res128 rfl rfl (bk_new _ _)) rfl ⟨rfl, ?_⟩
  repeat (with_reducible first | exact Below.refl _ _ | refine blw_alloc ?_ _ | refine blw_set ?_ (by simp) _)
set_option maxRecDepth 100000 in
set_option maxHeartbeats 4000000 in
theorem counts_15 (w : World) : Calls Tryd.prog 82 #[.int .i64 16] w fun e w' => e = .returned (.agg #[.bool false, .bool true, .bool false, .bool false]) ∧ Below w.heap.size w w' := by
  go_enter Tryd.func82, Tryd.ntmps82
  go_wp2
  refine bodyPost_ret (v := .agg #[.bool false, .bool true, .bool false, .bool false]) (res128 rfl rfl (bk_new _ _)) rfl ⟨rfl, ?_⟩
  repeat (with_reducible first | exact Below.refl _ _ | refine blw_alloc ?_ _ | refine blw_set ?_ (by simp) _)
set_option maxRecDepth 100000 in
set_option maxHeartbeats 4000000 in
theorem counts_16 (w : World) : Calls Tryd.prog 82 #[.int .i64 17] w fun e w' => e = .returned (.agg #[.bool false, .bool true, .bool true, .bool false]) ∧ Below w.heap.size w w' := by
  go_enter Tryd.func82, Tryd.ntmps82
  go_wp2
  refine bodyPost_ret (v := .agg #[.bool false, .bool true, .bool true, .bool false]) (res128 rfl rfl (bk_new _ _)) rfl ⟨rfl, ?_⟩
  repeat (with_reducible first | exact Below.refl _ _ | refine blw_alloc ?_ _ | refine blw_set ?_ (by simp) _)
set_option maxRecDepth 100000 in
set_option maxHeartbeats 4000000 in
theorem counts_17 (w : World) : Calls Tryd.prog 82 #[.int .i64 18] w fun e w' => e = .returned (.agg #[.bool true, .bool false, .bool false, .bool true]) ∧ Below w.heap.size w w' := by
  go_enter Tryd.func82, Tryd.ntmps82
  go_wp2
  refine bodyPost_ret (v := .agg #[.bool true, .bool false, .bool false, .bool true]) (res128 rfl rfl (bk_new _ _)) rfl ⟨rfl, ?_⟩
  repeat (with_reducible first | exact Below.refl _ _ | refine blw_alloc ?_ _ | refine blw_set ?_ (by simp) _)
set_option maxRecDepth 100000 in
set_option maxHeartbeats 4000000 in
theorem counts_18 (w : World) : Calls Tryd.prog 82 #[.int .i64 19] w fun e w' => e = .returned (.agg #[.bool false, .bool true, .bool true, .bool false]) ∧ Below w.heap.size w w' := by
  go_enter Tryd.func82, Tryd.ntmps82
  go_wp2
  refine bodyPost_ret (v := .agg #[.bool false, .bool true, .bool true, .bool false]) (res128 rfl rfl (bk_new _ _)) rfl ⟨rfl, ?_⟩
  repeat (with_reducible first | exact Below.refl _ _ | refine blw_alloc ?_ _ | refine blw_set ?_ (by simp) _)
set_option maxRecDepth 100000 in
set_option maxHeartbeats 4000000 in
theorem counts_19 (w : World) : Calls Tryd.prog 82 #[.int .i64 20] w fun e w' => e = .returned (.agg #[.bool true, .bool false, .bool false, .bool false]) ∧ Below w.heap.size w w' := by
  go_enter Tryd.func82, Tryd.ntmps82
  go_wp2
  refine bodyPost_ret (v := .agg #[.bool true, .bool false, .bool false, .bool false]) (res128 rfl rfl (bk_new _ _)) rfl ⟨rfl, ?_⟩
  repeat (with_reducible first | exact Below.refl _ _ | refine blw_alloc ?_ _ | refine blw_set ?_ (by simp) _)
set_option maxRecDepth 100000 in
set_option maxHeartbeats 4000000 in
theorem counts_20 (w : World) : Calls Tryd.prog 82 #[.int .i64 21] w fun e w' => e = .returned (.agg #[.bool true, .bool false, .bool true, .bool false]) ∧ Below w.heap.size w w' := by
  go_enter Tryd.func82, Tryd.ntmps82
  go_wp2
  refine bodyPost_ret (v := .agg #[.bool true, .bool false, .bool true, .bool false]) (res128 rfl rfl (bk_new _ _)) rfl ⟨rfl, ?_⟩
  repeat (with_reducible first | exact Below.refl _ _ | refine blw_alloc ?_ _ | refine blw_set ?_ (by simp) _)
set_option maxRecDepth 100000 in
set_option maxHeartbeats 4000000 in
theorem counts_21 (w : World) : Calls Tryd.prog 82 #[.int .i64 22] w fun e w' => e = .returned (.agg #[.bool false, .bool true, .bool true, .bool false]) ∧ Below w.heap.size w w' := by
  go_enter Tryd.func82, Tryd.ntmps82
  go_wp2
  refine bodyPost_ret (v := .agg #[.bool false, .bool true, .bool true, .bool false]) (res128 rfl rfl (bk_new _ _)) rfl ⟨rfl, ?_⟩
  repeat (with_reducible first | exact Below.refl _ _ | refine blw_alloc ?_ _ | refine blw_set ?_ (by simp) _)
set_option maxRecDepth 100000 in
set_option maxHeartbeats 4000000 in
theorem counts_22 (w : World) : Calls Tryd.prog 82 #[.int .i64 23] w fun e w' => e = .returned (.agg #[.bool false, .bool false, .bool true, .bool false]) ∧ Below w.heap.size w w' := by
  go_enter Tryd.func82, Tryd.ntmps82
  go_wp2
  refine bodyPost_ret (v := .agg #[.bool false, .bool false, .bool true, .bool false]) (res128 rfl rfl (bk_new _ _)) rfl ⟨rfl, ?_⟩
  repeat (with_reducible first | exact Below.refl _ _ | refine blw_alloc ?_ _ | refine blw_set ?_ (by simp) _)
set_option maxRecDepth 100000 in
set_option maxHeartbeats 4000000 in
theorem counts_23 (w : World) : Calls Tryd.prog 82 #[.int .i64 24] w fun e w' => e = .returned (.agg #[.bool false, .bool false, .bool false, .bool false]) ∧ Below w.heap.size w w' := by
  go_enter Tryd.func82, Tryd.ntmps82
  go_wp2
  refine bodyPost_ret (v := .agg #[.bool false, .bool false, .bool false, .bool false]) (res128 rfl rfl (bk_new _ _)) rfl ⟨rfl, ?_⟩
  repeat (with_reducible first | exact Below.refl _ _ | refine blw_alloc ?_ _ | refine blw_set ?_ (by simp) _)
theorem counts_any (i : Nat) (hi : i < 24) (w : World) : Calls Tryd.prog 82 #[.int .i64 ((i : Int) + 1)] w fun e w' => e = .returned (.agg #[.bool (cS i), .bool (cA i), .bool (cL i), .bool (opT i)]) ∧ Below w.heap.size w w' := by
  match i, hi with
  | 0, _ => exact counts_0 w
  | 1, _ => exact counts_1 w
  | 2, _ => exact counts_2 w
  | 3, _ => exact counts_3 w
  | 4, _ => exact counts_4 w
  | 5, _ => exact counts_5 w
  | 6, _ => exact counts_6 w
  | 7, _ => exact counts_7 w
  | 8, _ => exact counts_8 w
  | 9, _ => exact counts_9 w
  | 10, _ => exact counts_10 w
  | 11, _ => exact counts_11 w
  | 12, _ => exact counts_12 w
  | 13, _ => exact counts_13 w
  | 14, _ => exact counts_14 w
  | 15, _ => exact counts_15 w
  | 16, _ => exact counts_16 w
  | 17, _ => exact counts_17 w
  | 18, _ => exact counts_18 w
  | 19, _ => exact counts_19 w
  | 20, _ => exact counts_20 w
  | 21, _ => exact counts_21 w
  | 22, _ => exact counts_22 w
  | 23, _ => exact counts_23 w
  | n + 24, h => exact absurd h (by omega)
end Go.Proofs.YtgeaebcchjmmjaaDoor
