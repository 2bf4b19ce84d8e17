/- What Escape of package named answers, case by case. -/
import Derived.Test.YtgeaebcchjmmjaaDoorEscape
namespace Go.Proofs.YtgeaebcchjmmjaaDoor
open Go.RowKit
def sDigit : ByteArray := ⟨#[100, 105, 103, 105, 116]⟩
def sSpace : ByteArray := ⟨#[115, 112, 97, 99, 101]⟩
def sAlnum : ByteArray := ⟨#[97, 108, 110, 117, 109]⟩
def sAlpha : ByteArray := ⟨#[97, 108, 112, 104, 97]⟩
set_option maxRecDepth 100000 in
set_option maxHeartbeats 1000000 in
theorem esc_n (w : World) : Calls Tryd.prog 13 #[.int .u8 110] w fun e w' => e = .returned (.tuple #[sv 1024, .bool true]) ∧ Below w.heap.size w w' := by
  unfold sv
  go_enter Tryd.func13, Tryd.ntmps13
  go_wp2_with fail
  refine (of1_any 10 (by decide) _ _ _ (by simp)).mono ?_
  rintro e w1 ⟨rfl, hb⟩
  have hz := bk_below (bk_alloc (zsc w) _) hb
  obtain ⟨e0, e1, e2, e3, ef⟩ := sc_cells hz
  go_wp2
  have hB := blw_then (blw_alloc (blw_alloc (Below.refl w.heap.size w) _) _) hb
  refine bodyPost_ret (v := .tuple #[sv 1024, .bool true]) (res_sv2 rfl rfl rfl (sc_store4 hz)) rfl ⟨rfl, ?_⟩
  repeat (with_reducible first | exact hB | refine blw_alloc ?_ _ | refine blw_set ?_ (by simp) _)

set_option maxRecDepth 100000 in
set_option maxHeartbeats 1000000 in
theorem esc_t (w : World) : Calls Tryd.prog 13 #[.int .u8 116] w fun e w' => e = .returned (.tuple #[sv 512, .bool true]) ∧ Below w.heap.size w w' := by
  unfold sv
  go_enter Tryd.func13, Tryd.ntmps13
  go_wp2_with fail
  refine (of1_any 9 (by decide) _ _ _ (by simp)).mono ?_
  rintro e w1 ⟨rfl, hb⟩
  have hz := bk_below (bk_alloc (zsc w) _) hb
  obtain ⟨e0, e1, e2, e3, ef⟩ := sc_cells hz
  go_wp2
  have hB := blw_then (blw_alloc (blw_alloc (Below.refl w.heap.size w) _) _) hb
  refine bodyPost_ret (v := .tuple #[sv 512, .bool true]) (res_sv2 rfl rfl rfl (sc_store4 hz)) rfl ⟨rfl, ?_⟩
  repeat (with_reducible first | exact hB | refine blw_alloc ?_ _ | refine blw_set ?_ (by simp) _)

set_option maxRecDepth 100000 in
set_option maxHeartbeats 1000000 in
theorem esc_r (w : World) : Calls Tryd.prog 13 #[.int .u8 114] w fun e w' => e = .returned (.tuple #[sv 8192, .bool true]) ∧ Below w.heap.size w w' := by
  unfold sv
  go_enter Tryd.func13, Tryd.ntmps13
  go_wp2_with fail
  refine (of1_any 13 (by decide) _ _ _ (by simp)).mono ?_
  rintro e w1 ⟨rfl, hb⟩
  have hz := bk_below (bk_alloc (zsc w) _) hb
  obtain ⟨e0, e1, e2, e3, ef⟩ := sc_cells hz
  go_wp2
  have hB := blw_then (blw_alloc (blw_alloc (Below.refl w.heap.size w) _) _) hb
  refine bodyPost_ret (v := .tuple #[sv 8192, .bool true]) (res_sv2 rfl rfl rfl (sc_store4 hz)) rfl ⟨rfl, ?_⟩
  repeat (with_reducible first | exact hB | refine blw_alloc ?_ _ | refine blw_set ?_ (by simp) _)

set_option maxRecDepth 100000 in
set_option maxHeartbeats 1000000 in
theorem esc_d (w : World) : Calls Tryd.prog 13 #[.int .u8 100] w fun e w' => e = .returned (.tuple #[sv (clsN sDigit), .bool true]) ∧ Below w.heap.size w w' := by
  unfold sv
  go_enter Tryd.func13, Tryd.ntmps13
  go_wp2_with fail
  refine (nof_any sDigit _).mono ?_
  rintro e w1 ⟨rfl, hb⟩
  have hz := bk_below (zsc w) hb
  obtain ⟨e0, e1, e2, e3, ef⟩ := sc_cells hz
  go_wp2
  have hB := blw_then (blw_alloc (Below.refl w.heap.size w) _) hb
  refine bodyPost_ret (v := .tuple #[sv (clsN sDigit), .bool true]) (res_sv2 rfl rfl rfl (sc_store4 hz)) rfl ⟨rfl, ?_⟩
  repeat (with_reducible first | exact hB | refine blw_alloc ?_ _ | refine blw_set ?_ (by simp) _)

set_option maxRecDepth 100000 in
set_option maxHeartbeats 1000000 in
theorem esc_s (w : World) : Calls Tryd.prog 13 #[.int .u8 115] w fun e w' => e = .returned (.tuple #[sv (clsN sSpace), .bool true]) ∧ Below w.heap.size w w' := by
  unfold sv
  go_enter Tryd.func13, Tryd.ntmps13
  go_wp2_with fail
  refine (nof_any sSpace _).mono ?_
  rintro e w1 ⟨rfl, hb⟩
  have hz := bk_below (zsc w) hb
  obtain ⟨e0, e1, e2, e3, ef⟩ := sc_cells hz
  go_wp2
  have hB := blw_then (blw_alloc (Below.refl w.heap.size w) _) hb
  refine bodyPost_ret (v := .tuple #[sv (clsN sSpace), .bool true]) (res_sv2 rfl rfl rfl (sc_store4 hz)) rfl ⟨rfl, ?_⟩
  repeat (with_reducible first | exact hB | refine blw_alloc ?_ _ | refine blw_set ?_ (by simp) _)

set_option maxRecDepth 100000 in
set_option maxHeartbeats 1000000 in
theorem esc_w (w : World) : Calls Tryd.prog 13 #[.int .u8 119] w fun e w' => e = .returned (.tuple #[sv (clsN sAlnum ||| 39614081257132168796771975168), .bool true]) ∧ Below w.heap.size w w' := by
  unfold sv
  go_enter Tryd.func13, Tryd.ntmps13
  go_wp2_with fail
  refine (nof_any sAlnum _).mono ?_
  rintro e w1 ⟨rfl, hb⟩
  go_wp2_with fail
  refine (of1_any 95 (by decide) _ _ _ (by simp)).mono ?_
  rintro e w2 ⟨rfl, hb2⟩
  go_wp2_with fail
  refine (or_any (clsN sAlnum) 39614081257132168796771975168 _).mono ?_
  rintro e w3 ⟨rfl, hb3⟩
  have hz := bk_below (bk_below (bk_alloc (bk_below (zsc w) hb) _) hb2) hb3
  obtain ⟨e0, e1, e2, e3, ef⟩ := sc_cells hz
  go_wp2
  have hB := blw_then (blw_then (blw_alloc (blw_then (blw_alloc (Below.refl w.heap.size w) _) hb) _) hb2) hb3
  refine bodyPost_ret (v := .tuple #[sv (clsN sAlnum ||| 39614081257132168796771975168), .bool true]) (res_sv2 rfl rfl rfl (sc_store4 hz)) rfl ⟨rfl, ?_⟩
  repeat (with_reducible first | exact hB | refine blw_alloc ?_ _ | refine blw_set ?_ (by simp) _)

set_option maxRecDepth 100000 in
set_option maxHeartbeats 1000000 in
theorem esc_D (w : World) : Calls Tryd.prog 13 #[.int .u8 68] w fun e w' => e = .returned (.tuple #[sv (allB ^^^ clsN sDigit), .bool true]) ∧ Below w.heap.size w w' := by
  unfold sv
  go_enter Tryd.func13, Tryd.ntmps13
  go_wp2_with fail
  refine (esc_d _).mono ?_
  rintro e w1 ⟨rfl, hb⟩
  have hz1 := bk_below (zsc w) hb
  have hB1 := blw_then (blw_alloc (Below.refl w.heap.size w) _) hb
  go_wp2_with fail
  refine (not_any (clsN sDigit) _).mono ?_
  rintro e w2 ⟨rfl, hb2⟩
  have hz := bk_below (bk_alloc hz1 _) hb2
  obtain ⟨e0, e1, e2, e3, ef⟩ := sc_cells hz
  go_wp2
  have hB := blw_then (blw_alloc hB1 _) hb2
  refine bodyPost_ret (v := .tuple #[sv (allB ^^^ (clsN sDigit)), .bool true]) (res_sv2 rfl rfl rfl (sc_store4 hz)) rfl ⟨rfl, ?_⟩
  repeat (with_reducible first | exact hB | refine blw_alloc ?_ _ | refine blw_set ?_ (by simp) _)

set_option maxRecDepth 100000 in
set_option maxHeartbeats 1000000 in
theorem esc_S (w : World) : Calls Tryd.prog 13 #[.int .u8 83] w fun e w' => e = .returned (.tuple #[sv (allB ^^^ clsN sSpace), .bool true]) ∧ Below w.heap.size w w' := by
  unfold sv
  go_enter Tryd.func13, Tryd.ntmps13
  go_wp2_with fail
  refine (esc_s _).mono ?_
  rintro e w1 ⟨rfl, hb⟩
  have hz1 := bk_below (zsc w) hb
  have hB1 := blw_then (blw_alloc (Below.refl w.heap.size w) _) hb
  go_wp2_with fail
  refine (not_any (clsN sSpace) _).mono ?_
  rintro e w2 ⟨rfl, hb2⟩
  have hz := bk_below (bk_alloc hz1 _) hb2
  obtain ⟨e0, e1, e2, e3, ef⟩ := sc_cells hz
  go_wp2
  have hB := blw_then (blw_alloc hB1 _) hb2
  refine bodyPost_ret (v := .tuple #[sv (allB ^^^ (clsN sSpace)), .bool true]) (res_sv2 rfl rfl rfl (sc_store4 hz)) rfl ⟨rfl, ?_⟩
  repeat (with_reducible first | exact hB | refine blw_alloc ?_ _ | refine blw_set ?_ (by simp) _)

set_option maxRecDepth 100000 in
set_option maxHeartbeats 1000000 in
theorem esc_W (w : World) : Calls Tryd.prog 13 #[.int .u8 87] w fun e w' => e = .returned (.tuple #[sv (allB ^^^ (clsN sAlnum ||| 39614081257132168796771975168)), .bool true]) ∧ Below w.heap.size w w' := by
  unfold sv
  go_enter Tryd.func13, Tryd.ntmps13
  go_wp2_with fail
  refine (esc_w _).mono ?_
  rintro e w1 ⟨rfl, hb⟩
  have hz1 := bk_below (zsc w) hb
  have hB1 := blw_then (blw_alloc (Below.refl w.heap.size w) _) hb
  go_wp2_with fail
  refine (not_any (clsN sAlnum ||| 39614081257132168796771975168) _).mono ?_
  rintro e w2 ⟨rfl, hb2⟩
  have hz := bk_below (bk_alloc hz1 _) hb2
  obtain ⟨e0, e1, e2, e3, ef⟩ := sc_cells hz
  go_wp2
  have hB := blw_then (blw_alloc hB1 _) hb2
  refine bodyPost_ret (v := .tuple #[sv (allB ^^^ (clsN sAlnum ||| 39614081257132168796771975168)), .bool true]) (res_sv2 rfl rfl rfl (sc_store4 hz)) rfl ⟨rfl, ?_⟩
  repeat (with_reducible first | exact hB | refine blw_alloc ?_ _ | refine blw_set ?_ (by simp) _)

set_option maxRecDepth 100000 in
set_option maxHeartbeats 1000000 in
theorem esc_no (c : Nat) (hc : c < 256) (h110 : ((c : Int) == 110) = false) (h116 : ((c : Int) == 116) = false) (h114 : ((c : Int) == 114) = false) (h100 : ((c : Int) == 100) = false) (h115 : ((c : Int) == 115) = false) (h119 : ((c : Int) == 119) = false) (h68 : ((c : Int) == 68) = false) (h83 : ((c : Int) == 83) = false) (h87 : ((c : Int) == 87) = false) (ht : (clsN sAlnum).testBit c = true) (w : World) :
    Calls Tryd.prog 13 #[.int .u8 c] w fun e w' => e = .returned (.tuple #[sv 0, .bool false]) ∧ Below w.heap.size w w' := by
  have HT := Lib.hid ht
  clear ht
  unfold sv
  go_enter Tryd.func13, Tryd.ntmps13
  go_wp2_with fail
  refine (nof_any sAlnum _).mono ?_
  rintro e w1 ⟨rfl, hb⟩
  go_wp2_with fail
  refine (has_any (clsN sAlnum) c _ (by omega) (by omega)).mono ?_
  rw [Int.toNat_natCast, HT.out]
  rintro e w2 ⟨rfl, hb2⟩
  have hB2 := blw_then (blw_then (blw_alloc (Below.refl w.heap.size w) _) hb) hb2
  have hz2 := bk_below (bk_below (zsc w) hb) hb2
  have hz := hz2
  obtain ⟨e0, e1, e2, e3, ef⟩ := sc_cells hz
  go_wp2
  have z0 : (0 : Int) = wd 0 0 := (wd_zero 0).symm
  have z1 : (0 : Int) = wd 0 1 := (wd_zero 1).symm
  have z2 : (0 : Int) = wd 0 2 := (wd_zero 2).symm
  have z3 : (0 : Int) = wd 0 3 := (wd_zero 3).symm
  refine bodyPost_ret (v := .tuple #[sv 0, .bool false]) (res_sv2 rfl rfl rfl ?_) rfl ⟨rfl, ?_⟩
  · have := sc_store4 (m := 0) hz
    rw [← z0, ← z1, ← z2, ← z3] at this
    exact this
  · repeat (with_reducible first | exact hB2 | refine blw_alloc ?_ _ | refine blw_set ?_ (by simp) _)

set_option maxRecDepth 100000 in
set_option maxHeartbeats 1000000 in
theorem esc_yes (c : Nat) (hc : c < 256) (h110 : ((c : Int) == 110) = false) (h116 : ((c : Int) == 116) = false) (h114 : ((c : Int) == 114) = false) (h100 : ((c : Int) == 100) = false) (h115 : ((c : Int) == 115) = false) (h119 : ((c : Int) == 119) = false) (h68 : ((c : Int) == 68) = false) (h83 : ((c : Int) == 83) = false) (h87 : ((c : Int) == 87) = false) (ht : (clsN sAlnum).testBit c = false) (w : World) :
    Calls Tryd.prog 13 #[.int .u8 c] w fun e w' => e = .returned (.tuple #[sv (2 ^ c), .bool true]) ∧ Below w.heap.size w w' := by
  have HT := Lib.hid ht
  clear ht
  unfold sv
  go_enter Tryd.func13, Tryd.ntmps13
  go_wp2_with fail
  refine (nof_any sAlnum _).mono ?_
  rintro e w1 ⟨rfl, hb⟩
  go_wp2_with fail
  refine (has_any (clsN sAlnum) c _ (by omega) (by omega)).mono ?_
  rw [Int.toNat_natCast, HT.out]
  rintro e w2 ⟨rfl, hb2⟩
  have hB2 := blw_then (blw_then (blw_alloc (Below.refl w.heap.size w) _) hb) hb2
  have hz2 := bk_below (bk_below (zsc w) hb) hb2
  go_wp2_with fail
  refine (of1_any c hc _ _ _ (by simp)).mono ?_
  rintro e w3 ⟨rfl, hb3⟩
  have hz := bk_below (bk_alloc hz2 _) hb3
  obtain ⟨e0, e1, e2, e3, ef⟩ := sc_cells hz
  go_wp2
  have hB := blw_then (blw_alloc hB2 _) hb3
  refine bodyPost_ret (v := .tuple #[sv (2 ^ c), .bool true]) (res_sv2 rfl rfl rfl (sc_store4 hz)) rfl ⟨rfl, ?_⟩
  repeat (with_reducible first | exact hB | refine blw_alloc ?_ _ | refine blw_set ?_ (by simp) _)

end Go.Proofs.YtgeaebcchjmmjaaDoor
