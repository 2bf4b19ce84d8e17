/- What the page answers for Escape, case by case: the rounds. -/
import Derived.Test.YtgeaebcchjmmjaaDoorRefEsc
namespace Go.Proofs.YtgeaebcchjmmjaaDoor
open Go.RowKit
def qEq (c k : Nat) : Bool := decide (k = c)
def qDg (k : Nat) : Bool := dgB k
def qNd (k : Nat) : Bool := !dgB k
def qSp (k : Nat) : Bool := spB k
def qNs (k : Nat) : Bool := !spB k
def qW (k : Nat) : Bool := alB k || decide (k = 95)
def qNw (k : Nat) : Bool := !alB k && !decide (k = 95)
def qDef (c k : Nat) : Bool := decide (k = c) && !alB k
set_option maxRecDepth 100000 in
set_option maxHeartbeats 4000000 in
theorem refEsc_n (w : World) : Calls Tryd.prog 14 #[.int .i64 110] w fun e w' => e = .returned (.tuple #[sv (col (qEq 10) 256), .bool (!(col (qEq 10) 256 == 0))]) ∧ Below w.heap.size w w' := by
  have hne := neq_zero (col (qEq 10) 256) (col_lt _)
  unfold sv
  go_enter Tryd.func14, Tryd.ntmps14
  go_wp2
  go_loopw [5] (fun i wr => ∃ k : Nat, k ≤ 256 ∧ i = .int .i64 k ∧ wr.heap[w.heap.size]? = some (.cells (sc 0) 24 (0, 0)) ∧ wr.heap[w.heap.size + 1]? = some (.cells (sc (col (qEq 10) k)) 24 (0, 0)) ∧ Below w.heap.size w wr) (fun i _ => 256 - (intOf i).toNat)
  case atStart =>
    refine ⟨0, Nat.zero_le _, rfl, ?_, ?_, ?_⟩
    · rw [sc_zero]; exact bk_alloc (bk_new _ _) _
    · have := bk_new (w.alloc (.cells #[.int .u64 0, .int .u64 0, .int .u64 0, .int .u64 0] 24)) (.cells #[.int .u64 0, .int .u64 0, .int .u64 0, .int .u64 0] 24)
      simpa [sc, col, wd_zero] using this
    · exact blw_alloc (blw_alloc (Below.refl _ _) _) _
  case round =>
    obtain ⟨k, hk, rfl, hz, hs, hbel⟩ := hrel
    have HZ := Lib.hid hz
    have HS := Lib.hid hs
    clear hz hs
    by_cases hlt : k < 256
    · clear hne
      by_cases hq : k = 10
      · have hq1 : ((k : Int) == 10) = true := by simp [hq]
        have hQ := Lib.hid hq
        clear hq
        have hp : (qEq 10) k = true := by simp [qEq, hQ.out]
        have hr : Hid (col (qEq 10) (k + 1) = col (qEq 10) k ||| 2 ^ k) := Lib.hid (by rw [col, if_pos hp])
        clear hp
        obtain ⟨m, HM⟩ : ∃ m, Hid (col (qEq 10) k = m) := ⟨_, Lib.hid rfl⟩
        have hs := HS.out
        rw [HM.out] at hs
        obtain ⟨c0, c1, c2, c3, cf⟩ := sc_cells hs
        have HS2 := Lib.hid hs
        clear hs
        go_wp2_with fail
        refine (is_alnum k _).mono ?_
        rintro e w1 ⟨rfl, rfl⟩
        go_wp2_with fail
        refine (is_space k _).mono ?_
        rintro e w2 ⟨rfl, rfl⟩
        go_wp2_with fail
        refine (refPut_any m k _ hlt).mono ?_
        rintro e w3 ⟨rfl, hb3⟩
        have hs3 := bk_below HS2.out hb3
        obtain ⟨e0, e1, e2, e3, ef⟩ := sc_cells hs3
        go_wp2
        go_roundw
        case rel =>
          refine ⟨k + 1, by omega, by go_num, ?_, by rw [hr.out, HM.out]; exact sc_store4 hs3, ?_⟩
          · exact bk_far (bk_far (bk_far (bk_far (bk_below HZ.out hb3) (by simp <;> omega) _) (by simp <;> omega) _) (by simp <;> omega) _) (by simp <;> omega) _
          · exact blw_set (blw_set (blw_set (blw_set (blw_then hbel hb3) (by simp <;> omega) _) (by simp <;> omega) _) (by simp <;> omega) _) (by simp <;> omega) _
        case measure => simp [intOf]; omega
      · have hq1 : ((k : Int) == 10) = false := by rw [beq_eq_false_iff_ne]; omega
        have hQ := Lib.hid hq
        clear hq
        have hp : (qEq 10) k = false := by simp [qEq, hQ.out]
        have hr : Hid (col (qEq 10) (k + 1) = col (qEq 10) k) := Lib.hid (by rw [col, if_neg (by simp [hp])])
        clear hp
        go_wp2_with fail
        refine (is_alnum k _).mono ?_
        rintro e w1 ⟨rfl, rfl⟩
        go_wp2_with fail
        refine (is_space k _).mono ?_
        rintro e w2 ⟨rfl, rfl⟩
        go_wp2
        go_roundw
        case rel => exact ⟨k + 1, by omega, by go_num, HZ.out, by rw [hr.out]; exact HS.out, hbel⟩
        case measure => simp [intOf]; omega
    · obtain ⟨d0, d1, d2, d3, df⟩ := sc_cells HZ.out
      have hkl : k = 256 := by omega
      subst hkl
      obtain ⟨c0, c1, c2, c3, cf⟩ := sc_cells HS.out
      go_wp2
      go_region
      all_goals
        go_wp2
        refine bodyPost_ret (v := .tuple #[sv (col (qEq 10) 256), .bool (!(col (qEq 10) 256 == 0))]) (res_sv2 rfl rfl rfl (bk_drew (sc_store4 HZ.out))) rfl ⟨rfl, ?_⟩
        repeat (with_reducible first | exact hbel | refine blw_drew ?_ | refine blw_set ?_ (by simp <;> omega) _)

set_option maxRecDepth 100000 in
set_option maxHeartbeats 4000000 in
theorem refEsc_t (w : World) : Calls Tryd.prog 14 #[.int .i64 116] w fun e w' => e = .returned (.tuple #[sv (col (qEq 9) 256), .bool (!(col (qEq 9) 256 == 0))]) ∧ Below w.heap.size w w' := by
  have hne := neq_zero (col (qEq 9) 256) (col_lt _)
  unfold sv
  go_enter Tryd.func14, Tryd.ntmps14
  go_wp2
  go_loopw [5] (fun i wr => ∃ k : Nat, k ≤ 256 ∧ i = .int .i64 k ∧ wr.heap[w.heap.size]? = some (.cells (sc 0) 24 (0, 0)) ∧ wr.heap[w.heap.size + 1]? = some (.cells (sc (col (qEq 9) k)) 24 (0, 0)) ∧ Below w.heap.size w wr) (fun i _ => 256 - (intOf i).toNat)
  case atStart =>
    refine ⟨0, Nat.zero_le _, rfl, ?_, ?_, ?_⟩
    · rw [sc_zero]; exact bk_alloc (bk_new _ _) _
    · have := bk_new (w.alloc (.cells #[.int .u64 0, .int .u64 0, .int .u64 0, .int .u64 0] 24)) (.cells #[.int .u64 0, .int .u64 0, .int .u64 0, .int .u64 0] 24)
      simpa [sc, col, wd_zero] using this
    · exact blw_alloc (blw_alloc (Below.refl _ _) _) _
  case round =>
    obtain ⟨k, hk, rfl, hz, hs, hbel⟩ := hrel
    have HZ := Lib.hid hz
    have HS := Lib.hid hs
    clear hz hs
    by_cases hlt : k < 256
    · clear hne
      by_cases hq : k = 9
      · have hq1 : ((k : Int) == 9) = true := by simp [hq]
        have hQ := Lib.hid hq
        clear hq
        have hp : (qEq 9) k = true := by simp [qEq, hQ.out]
        have hr : Hid (col (qEq 9) (k + 1) = col (qEq 9) k ||| 2 ^ k) := Lib.hid (by rw [col, if_pos hp])
        clear hp
        obtain ⟨m, HM⟩ : ∃ m, Hid (col (qEq 9) k = m) := ⟨_, Lib.hid rfl⟩
        have hs := HS.out
        rw [HM.out] at hs
        obtain ⟨c0, c1, c2, c3, cf⟩ := sc_cells hs
        have HS2 := Lib.hid hs
        clear hs
        go_wp2_with fail
        refine (is_alnum k _).mono ?_
        rintro e w1 ⟨rfl, rfl⟩
        go_wp2_with fail
        refine (is_space k _).mono ?_
        rintro e w2 ⟨rfl, rfl⟩
        go_wp2_with fail
        refine (refPut_any m k _ hlt).mono ?_
        rintro e w3 ⟨rfl, hb3⟩
        have hs3 := bk_below HS2.out hb3
        obtain ⟨e0, e1, e2, e3, ef⟩ := sc_cells hs3
        go_wp2
        go_roundw
        case rel =>
          refine ⟨k + 1, by omega, by go_num, ?_, by rw [hr.out, HM.out]; exact sc_store4 hs3, ?_⟩
          · exact bk_far (bk_far (bk_far (bk_far (bk_below HZ.out hb3) (by simp <;> omega) _) (by simp <;> omega) _) (by simp <;> omega) _) (by simp <;> omega) _
          · exact blw_set (blw_set (blw_set (blw_set (blw_then hbel hb3) (by simp <;> omega) _) (by simp <;> omega) _) (by simp <;> omega) _) (by simp <;> omega) _
        case measure => simp [intOf]; omega
      · have hq1 : ((k : Int) == 9) = false := by rw [beq_eq_false_iff_ne]; omega
        have hQ := Lib.hid hq
        clear hq
        have hp : (qEq 9) k = false := by simp [qEq, hQ.out]
        have hr : Hid (col (qEq 9) (k + 1) = col (qEq 9) k) := Lib.hid (by rw [col, if_neg (by simp [hp])])
        clear hp
        go_wp2_with fail
        refine (is_alnum k _).mono ?_
        rintro e w1 ⟨rfl, rfl⟩
        go_wp2_with fail
        refine (is_space k _).mono ?_
        rintro e w2 ⟨rfl, rfl⟩
        go_wp2
        go_roundw
        case rel => exact ⟨k + 1, by omega, by go_num, HZ.out, by rw [hr.out]; exact HS.out, hbel⟩
        case measure => simp [intOf]; omega
    · obtain ⟨d0, d1, d2, d3, df⟩ := sc_cells HZ.out
      have hkl : k = 256 := by omega
      subst hkl
      obtain ⟨c0, c1, c2, c3, cf⟩ := sc_cells HS.out
      go_wp2
      go_region
      all_goals
        go_wp2
        refine bodyPost_ret (v := .tuple #[sv (col (qEq 9) 256), .bool (!(col (qEq 9) 256 == 0))]) (res_sv2 rfl rfl rfl (bk_drew (sc_store4 HZ.out))) rfl ⟨rfl, ?_⟩
        repeat (with_reducible first | exact hbel | refine blw_drew ?_ | refine blw_set ?_ (by simp <;> omega) _)

set_option maxRecDepth 100000 in
set_option maxHeartbeats 4000000 in
theorem refEsc_r (w : World) : Calls Tryd.prog 14 #[.int .i64 114] w fun e w' => e = .returned (.tuple #[sv (col (qEq 13) 256), .bool (!(col (qEq 13) 256 == 0))]) ∧ Below w.heap.size w w' := by
  have hne := neq_zero (col (qEq 13) 256) (col_lt _)
  unfold sv
  go_enter Tryd.func14, Tryd.ntmps14
  go_wp2
  go_loopw [5] (fun i wr => ∃ k : Nat, k ≤ 256 ∧ i = .int .i64 k ∧ wr.heap[w.heap.size]? = some (.cells (sc 0) 24 (0, 0)) ∧ wr.heap[w.heap.size + 1]? = some (.cells (sc (col (qEq 13) k)) 24 (0, 0)) ∧ Below w.heap.size w wr) (fun i _ => 256 - (intOf i).toNat)
  case atStart =>
    refine ⟨0, Nat.zero_le _, rfl, ?_, ?_, ?_⟩
    · rw [sc_zero]; exact bk_alloc (bk_new _ _) _
    · have := bk_new (w.alloc (.cells #[.int .u64 0, .int .u64 0, .int .u64 0, .int .u64 0] 24)) (.cells #[.int .u64 0, .int .u64 0, .int .u64 0, .int .u64 0] 24)
      simpa [sc, col, wd_zero] using this
    · exact blw_alloc (blw_alloc (Below.refl _ _) _) _
  case round =>
    obtain ⟨k, hk, rfl, hz, hs, hbel⟩ := hrel
    have HZ := Lib.hid hz
    have HS := Lib.hid hs
    clear hz hs
    by_cases hlt : k < 256
    · clear hne
      by_cases hq : k = 13
      · have hq1 : ((k : Int) == 13) = true := by simp [hq]
        have hQ := Lib.hid hq
        clear hq
        have hp : (qEq 13) k = true := by simp [qEq, hQ.out]
        have hr : Hid (col (qEq 13) (k + 1) = col (qEq 13) k ||| 2 ^ k) := Lib.hid (by rw [col, if_pos hp])
        clear hp
        obtain ⟨m, HM⟩ : ∃ m, Hid (col (qEq 13) k = m) := ⟨_, Lib.hid rfl⟩
        have hs := HS.out
        rw [HM.out] at hs
        obtain ⟨c0, c1, c2, c3, cf⟩ := sc_cells hs
        have HS2 := Lib.hid hs
        clear hs
        go_wp2_with fail
        refine (is_alnum k _).mono ?_
        rintro e w1 ⟨rfl, rfl⟩
        go_wp2_with fail
        refine (is_space k _).mono ?_
        rintro e w2 ⟨rfl, rfl⟩
        go_wp2_with fail
        refine (refPut_any m k _ hlt).mono ?_
        rintro e w3 ⟨rfl, hb3⟩
        have hs3 := bk_below HS2.out hb3
        obtain ⟨e0, e1, e2, e3, ef⟩ := sc_cells hs3
        go_wp2
        go_roundw
        case rel =>
          refine ⟨k + 1, by omega, by go_num, ?_, by rw [hr.out, HM.out]; exact sc_store4 hs3, ?_⟩
          · exact bk_far (bk_far (bk_far (bk_far (bk_below HZ.out hb3) (by simp <;> omega) _) (by simp <;> omega) _) (by simp <;> omega) _) (by simp <;> omega) _
          · exact blw_set (blw_set (blw_set (blw_set (blw_then hbel hb3) (by simp <;> omega) _) (by simp <;> omega) _) (by simp <;> omega) _) (by simp <;> omega) _
        case measure => simp [intOf]; omega
      · have hq1 : ((k : Int) == 13) = false := by rw [beq_eq_false_iff_ne]; omega
        have hQ := Lib.hid hq
        clear hq
        have hp : (qEq 13) k = false := by simp [qEq, hQ.out]
        have hr : Hid (col (qEq 13) (k + 1) = col (qEq 13) k) := Lib.hid (by rw [col, if_neg (by simp [hp])])
        clear hp
        go_wp2_with fail
        refine (is_alnum k _).mono ?_
        rintro e w1 ⟨rfl, rfl⟩
        go_wp2_with fail
        refine (is_space k _).mono ?_
        rintro e w2 ⟨rfl, rfl⟩
        go_wp2
        go_roundw
        case rel => exact ⟨k + 1, by omega, by go_num, HZ.out, by rw [hr.out]; exact HS.out, hbel⟩
        case measure => simp [intOf]; omega
    · obtain ⟨d0, d1, d2, d3, df⟩ := sc_cells HZ.out
      have hkl : k = 256 := by omega
      subst hkl
      obtain ⟨c0, c1, c2, c3, cf⟩ := sc_cells HS.out
      go_wp2
      go_region
      all_goals
        go_wp2
        refine bodyPost_ret (v := .tuple #[sv (col (qEq 13) 256), .bool (!(col (qEq 13) 256 == 0))]) (res_sv2 rfl rfl rfl (bk_drew (sc_store4 HZ.out))) rfl ⟨rfl, ?_⟩
        repeat (with_reducible first | exact hbel | refine blw_drew ?_ | refine blw_set ?_ (by simp <;> omega) _)

set_option maxRecDepth 100000 in
set_option maxHeartbeats 4000000 in
theorem refEsc_d (w : World) : Calls Tryd.prog 14 #[.int .i64 100] w fun e w' => e = .returned (.tuple #[sv (col qDg 256), .bool (!(col qDg 256 == 0))]) ∧ Below w.heap.size w w' := by
  have hne := neq_zero (col qDg 256) (col_lt _)
  unfold sv
  go_enter Tryd.func14, Tryd.ntmps14
  go_wp2
  go_loopw [5] (fun i wr => ∃ k : Nat, k ≤ 256 ∧ i = .int .i64 k ∧ wr.heap[w.heap.size]? = some (.cells (sc 0) 24 (0, 0)) ∧ wr.heap[w.heap.size + 1]? = some (.cells (sc (col qDg k)) 24 (0, 0)) ∧ Below w.heap.size w wr) (fun i _ => 256 - (intOf i).toNat)
  case atStart =>
    refine ⟨0, Nat.zero_le _, rfl, ?_, ?_, ?_⟩
    · rw [sc_zero]; exact bk_alloc (bk_new _ _) _
    · have := bk_new (w.alloc (.cells #[.int .u64 0, .int .u64 0, .int .u64 0, .int .u64 0] 24)) (.cells #[.int .u64 0, .int .u64 0, .int .u64 0, .int .u64 0] 24)
      simpa [sc, col, wd_zero] using this
    · exact blw_alloc (blw_alloc (Below.refl _ _) _) _
  case round =>
    obtain ⟨k, hk, rfl, hz, hs, hbel⟩ := hrel
    have HZ := Lib.hid hz
    have HS := Lib.hid hs
    clear hz hs
    by_cases hlt : k < 256
    · clear hne
      by_cases hq : dgB k = true
      · have HP := Lib.hid hq
        clear hq
        have hp : qDg k = true := by simp [qDg, HP.out]
        have hr : Hid (col qDg (k + 1) = col qDg k ||| 2 ^ k) := Lib.hid (by rw [col, if_pos hp])
        clear hp
        obtain ⟨m, HM⟩ : ∃ m, Hid (col qDg k = m) := ⟨_, Lib.hid rfl⟩
        have hs := HS.out
        rw [HM.out] at hs
        obtain ⟨c0, c1, c2, c3, cf⟩ := sc_cells hs
        have HS2 := Lib.hid hs
        clear hs
        go_wp2_with fail
        refine (is_alnum k _).mono ?_
        rintro e w1 ⟨rfl, rfl⟩
        go_wp2_with fail
        refine (is_space k _).mono ?_
        rintro e w2 ⟨rfl, rfl⟩
        go_wp2_with fail
        refine (digit_any k _).mono ?_
        rw [HP.out]
        rintro e w2 ⟨rfl, rfl⟩
        go_wp2_with fail
        refine (refPut_any m k _ hlt).mono ?_
        rintro e w3 ⟨rfl, hb3⟩
        have hs3 := bk_below HS2.out hb3
        obtain ⟨e0, e1, e2, e3, ef⟩ := sc_cells hs3
        go_wp2
        go_roundw
        case rel =>
          refine ⟨k + 1, by omega, by go_num, ?_, by rw [hr.out, HM.out]; exact sc_store4 hs3, ?_⟩
          · exact bk_far (bk_far (bk_far (bk_far (bk_below HZ.out hb3) (by simp <;> omega) _) (by simp <;> omega) _) (by simp <;> omega) _) (by simp <;> omega) _
          · exact blw_set (blw_set (blw_set (blw_set (blw_then hbel hb3) (by simp <;> omega) _) (by simp <;> omega) _) (by simp <;> omega) _) (by simp <;> omega) _
        case measure => simp [intOf]; omega
      · have HP := Lib.hid (show dgB k = false by simpa using hq)
        clear hq
        have hp : qDg k = false := by simp [qDg, HP.out]
        have hr : Hid (col qDg (k + 1) = col qDg k) := Lib.hid (by rw [col, if_neg (by simp [hp])])
        clear hp
        go_wp2_with fail
        refine (is_alnum k _).mono ?_
        rintro e w1 ⟨rfl, rfl⟩
        go_wp2_with fail
        refine (is_space k _).mono ?_
        rintro e w2 ⟨rfl, rfl⟩
        go_wp2_with fail
        refine (digit_any k _).mono ?_
        rw [HP.out]
        rintro e w2 ⟨rfl, rfl⟩
        go_wp2
        go_roundw
        case rel => exact ⟨k + 1, by omega, by go_num, HZ.out, by rw [hr.out]; exact HS.out, hbel⟩
        case measure => simp [intOf]; omega
    · obtain ⟨d0, d1, d2, d3, df⟩ := sc_cells HZ.out
      have hkl : k = 256 := by omega
      subst hkl
      obtain ⟨c0, c1, c2, c3, cf⟩ := sc_cells HS.out
      go_wp2
      go_region
      all_goals
        go_wp2
        refine bodyPost_ret (v := .tuple #[sv (col qDg 256), .bool (!(col qDg 256 == 0))]) (res_sv2 rfl rfl rfl (bk_drew (sc_store4 HZ.out))) rfl ⟨rfl, ?_⟩
        repeat (with_reducible first | exact hbel | refine blw_drew ?_ | refine blw_set ?_ (by simp <;> omega) _)

set_option maxRecDepth 100000 in
set_option maxHeartbeats 4000000 in
theorem refEsc_D (w : World) : Calls Tryd.prog 14 #[.int .i64 68] w fun e w' => e = .returned (.tuple #[sv (col qNd 256), .bool (!(col qNd 256 == 0))]) ∧ Below w.heap.size w w' := by
  have hne := neq_zero (col qNd 256) (col_lt _)
  unfold sv
  go_enter Tryd.func14, Tryd.ntmps14
  go_wp2
  go_loopw [5] (fun i wr => ∃ k : Nat, k ≤ 256 ∧ i = .int .i64 k ∧ wr.heap[w.heap.size]? = some (.cells (sc 0) 24 (0, 0)) ∧ wr.heap[w.heap.size + 1]? = some (.cells (sc (col qNd k)) 24 (0, 0)) ∧ Below w.heap.size w wr) (fun i _ => 256 - (intOf i).toNat)
  case atStart =>
    refine ⟨0, Nat.zero_le _, rfl, ?_, ?_, ?_⟩
    · rw [sc_zero]; exact bk_alloc (bk_new _ _) _
    · have := bk_new (w.alloc (.cells #[.int .u64 0, .int .u64 0, .int .u64 0, .int .u64 0] 24)) (.cells #[.int .u64 0, .int .u64 0, .int .u64 0, .int .u64 0] 24)
      simpa [sc, col, wd_zero] using this
    · exact blw_alloc (blw_alloc (Below.refl _ _) _) _
  case round =>
    obtain ⟨k, hk, rfl, hz, hs, hbel⟩ := hrel
    have HZ := Lib.hid hz
    have HS := Lib.hid hs
    clear hz hs
    by_cases hlt : k < 256
    · clear hne
      by_cases hq : dgB k = true
      · have HP := Lib.hid hq
        clear hq
        have hp : qNd k = false := by simp [qNd, HP.out]
        have hr : Hid (col qNd (k + 1) = col qNd k) := Lib.hid (by rw [col, if_neg (by simp [hp])])
        clear hp
        go_wp2_with fail
        refine (is_alnum k _).mono ?_
        rintro e w1 ⟨rfl, rfl⟩
        go_wp2_with fail
        refine (is_space k _).mono ?_
        rintro e w2 ⟨rfl, rfl⟩
        go_wp2_with fail
        refine (digit_any k _).mono ?_
        rw [HP.out]
        rintro e w2 ⟨rfl, rfl⟩
        go_wp2
        go_roundw
        case rel => exact ⟨k + 1, by omega, by go_num, HZ.out, by rw [hr.out]; exact HS.out, hbel⟩
        case measure => simp [intOf]; omega
      · have HP := Lib.hid (show dgB k = false by simpa using hq)
        clear hq
        have hp : qNd k = true := by simp [qNd, HP.out]
        have hr : Hid (col qNd (k + 1) = col qNd k ||| 2 ^ k) := Lib.hid (by rw [col, if_pos hp])
        clear hp
        obtain ⟨m, HM⟩ : ∃ m, Hid (col qNd k = m) := ⟨_, Lib.hid rfl⟩
        have hs := HS.out
        rw [HM.out] at hs
        obtain ⟨c0, c1, c2, c3, cf⟩ := sc_cells hs
        have HS2 := Lib.hid hs
        clear hs
        go_wp2_with fail
        refine (is_alnum k _).mono ?_
        rintro e w1 ⟨rfl, rfl⟩
        go_wp2_with fail
        refine (is_space k _).mono ?_
        rintro e w2 ⟨rfl, rfl⟩
        go_wp2_with fail
        refine (digit_any k _).mono ?_
        rw [HP.out]
        rintro e w2 ⟨rfl, rfl⟩
        go_wp2_with fail
        refine (refPut_any m k _ hlt).mono ?_
        rintro e w3 ⟨rfl, hb3⟩
        have hs3 := bk_below HS2.out hb3
        obtain ⟨e0, e1, e2, e3, ef⟩ := sc_cells hs3
        go_wp2
        go_roundw
        case rel =>
          refine ⟨k + 1, by omega, by go_num, ?_, by rw [hr.out, HM.out]; exact sc_store4 hs3, ?_⟩
          · exact bk_far (bk_far (bk_far (bk_far (bk_below HZ.out hb3) (by simp <;> omega) _) (by simp <;> omega) _) (by simp <;> omega) _) (by simp <;> omega) _
          · exact blw_set (blw_set (blw_set (blw_set (blw_then hbel hb3) (by simp <;> omega) _) (by simp <;> omega) _) (by simp <;> omega) _) (by simp <;> omega) _
        case measure => simp [intOf]; omega
    · obtain ⟨d0, d1, d2, d3, df⟩ := sc_cells HZ.out
      have hkl : k = 256 := by omega
      subst hkl
      obtain ⟨c0, c1, c2, c3, cf⟩ := sc_cells HS.out
      go_wp2
      go_region
      all_goals
        go_wp2
        refine bodyPost_ret (v := .tuple #[sv (col qNd 256), .bool (!(col qNd 256 == 0))]) (res_sv2 rfl rfl rfl (bk_drew (sc_store4 HZ.out))) rfl ⟨rfl, ?_⟩
        repeat (with_reducible first | exact hbel | refine blw_drew ?_ | refine blw_set ?_ (by simp <;> omega) _)

set_option maxRecDepth 100000 in
set_option maxHeartbeats 4000000 in
theorem refEsc_s (w : World) : Calls Tryd.prog 14 #[.int .i64 115] w fun e w' => e = .returned (.tuple #[sv (col qSp 256), .bool (!(col qSp 256 == 0))]) ∧ Below w.heap.size w w' := by
  have hne := neq_zero (col qSp 256) (col_lt _)
  unfold sv
  go_enter Tryd.func14, Tryd.ntmps14
  go_wp2
  go_loopw [5] (fun i wr => ∃ k : Nat, k ≤ 256 ∧ i = .int .i64 k ∧ wr.heap[w.heap.size]? = some (.cells (sc 0) 24 (0, 0)) ∧ wr.heap[w.heap.size + 1]? = some (.cells (sc (col qSp k)) 24 (0, 0)) ∧ Below w.heap.size w wr) (fun i _ => 256 - (intOf i).toNat)
  case atStart =>
    refine ⟨0, Nat.zero_le _, rfl, ?_, ?_, ?_⟩
    · rw [sc_zero]; exact bk_alloc (bk_new _ _) _
    · have := bk_new (w.alloc (.cells #[.int .u64 0, .int .u64 0, .int .u64 0, .int .u64 0] 24)) (.cells #[.int .u64 0, .int .u64 0, .int .u64 0, .int .u64 0] 24)
      simpa [sc, col, wd_zero] using this
    · exact blw_alloc (blw_alloc (Below.refl _ _) _) _
  case round =>
    obtain ⟨k, hk, rfl, hz, hs, hbel⟩ := hrel
    have HZ := Lib.hid hz
    have HS := Lib.hid hs
    clear hz hs
    by_cases hlt : k < 256
    · clear hne
      by_cases hq : spB k = true
      · have HP := Lib.hid hq
        clear hq
        have hp : qSp k = true := by simp [qSp, HP.out]
        have hr : Hid (col qSp (k + 1) = col qSp k ||| 2 ^ k) := Lib.hid (by rw [col, if_pos hp])
        clear hp
        obtain ⟨m, HM⟩ : ∃ m, Hid (col qSp k = m) := ⟨_, Lib.hid rfl⟩
        have hs := HS.out
        rw [HM.out] at hs
        obtain ⟨c0, c1, c2, c3, cf⟩ := sc_cells hs
        have HS2 := Lib.hid hs
        clear hs
        go_wp2_with fail
        refine (is_alnum k _).mono ?_
        rintro e w1 ⟨rfl, rfl⟩
        go_wp2_with fail
        refine (is_space k _).mono ?_
        rw [HP.out]
        rintro e w2 ⟨rfl, rfl⟩
        go_wp2_with fail
        refine (refPut_any m k _ hlt).mono ?_
        rintro e w3 ⟨rfl, hb3⟩
        have hs3 := bk_below HS2.out hb3
        obtain ⟨e0, e1, e2, e3, ef⟩ := sc_cells hs3
        go_wp2
        go_roundw
        case rel =>
          refine ⟨k + 1, by omega, by go_num, ?_, by rw [hr.out, HM.out]; exact sc_store4 hs3, ?_⟩
          · exact bk_far (bk_far (bk_far (bk_far (bk_below HZ.out hb3) (by simp <;> omega) _) (by simp <;> omega) _) (by simp <;> omega) _) (by simp <;> omega) _
          · exact blw_set (blw_set (blw_set (blw_set (blw_then hbel hb3) (by simp <;> omega) _) (by simp <;> omega) _) (by simp <;> omega) _) (by simp <;> omega) _
        case measure => simp [intOf]; omega
      · have HP := Lib.hid (show spB k = false by simpa using hq)
        clear hq
        have hp : qSp k = false := by simp [qSp, HP.out]
        have hr : Hid (col qSp (k + 1) = col qSp k) := Lib.hid (by rw [col, if_neg (by simp [hp])])
        clear hp
        go_wp2_with fail
        refine (is_alnum k _).mono ?_
        rintro e w1 ⟨rfl, rfl⟩
        go_wp2_with fail
        refine (is_space k _).mono ?_
        rw [HP.out]
        rintro e w2 ⟨rfl, rfl⟩
        go_wp2
        go_roundw
        case rel => exact ⟨k + 1, by omega, by go_num, HZ.out, by rw [hr.out]; exact HS.out, hbel⟩
        case measure => simp [intOf]; omega
    · obtain ⟨d0, d1, d2, d3, df⟩ := sc_cells HZ.out
      have hkl : k = 256 := by omega
      subst hkl
      obtain ⟨c0, c1, c2, c3, cf⟩ := sc_cells HS.out
      go_wp2
      go_region
      all_goals
        go_wp2
        refine bodyPost_ret (v := .tuple #[sv (col qSp 256), .bool (!(col qSp 256 == 0))]) (res_sv2 rfl rfl rfl (bk_drew (sc_store4 HZ.out))) rfl ⟨rfl, ?_⟩
        repeat (with_reducible first | exact hbel | refine blw_drew ?_ | refine blw_set ?_ (by simp <;> omega) _)

set_option maxRecDepth 100000 in
set_option maxHeartbeats 4000000 in
theorem refEsc_S (w : World) : Calls Tryd.prog 14 #[.int .i64 83] w fun e w' => e = .returned (.tuple #[sv (col qNs 256), .bool (!(col qNs 256 == 0))]) ∧ Below w.heap.size w w' := by
  have hne := neq_zero (col qNs 256) (col_lt _)
  unfold sv
  go_enter Tryd.func14, Tryd.ntmps14
  go_wp2
  go_loopw [5] (fun i wr => ∃ k : Nat, k ≤ 256 ∧ i = .int .i64 k ∧ wr.heap[w.heap.size]? = some (.cells (sc 0) 24 (0, 0)) ∧ wr.heap[w.heap.size + 1]? = some (.cells (sc (col qNs k)) 24 (0, 0)) ∧ Below w.heap.size w wr) (fun i _ => 256 - (intOf i).toNat)
  case atStart =>
    refine ⟨0, Nat.zero_le _, rfl, ?_, ?_, ?_⟩
    · rw [sc_zero]; exact bk_alloc (bk_new _ _) _
    · have := bk_new (w.alloc (.cells #[.int .u64 0, .int .u64 0, .int .u64 0, .int .u64 0] 24)) (.cells #[.int .u64 0, .int .u64 0, .int .u64 0, .int .u64 0] 24)
      simpa [sc, col, wd_zero] using this
    · exact blw_alloc (blw_alloc (Below.refl _ _) _) _
  case round =>
    obtain ⟨k, hk, rfl, hz, hs, hbel⟩ := hrel
    have HZ := Lib.hid hz
    have HS := Lib.hid hs
    clear hz hs
    by_cases hlt : k < 256
    · clear hne
      by_cases hq : spB k = true
      · have HP := Lib.hid hq
        clear hq
        have hp : qNs k = false := by simp [qNs, HP.out]
        have hr : Hid (col qNs (k + 1) = col qNs k) := Lib.hid (by rw [col, if_neg (by simp [hp])])
        clear hp
        go_wp2_with fail
        refine (is_alnum k _).mono ?_
        rintro e w1 ⟨rfl, rfl⟩
        go_wp2_with fail
        refine (is_space k _).mono ?_
        rw [HP.out]
        rintro e w2 ⟨rfl, rfl⟩
        go_wp2
        go_roundw
        case rel => exact ⟨k + 1, by omega, by go_num, HZ.out, by rw [hr.out]; exact HS.out, hbel⟩
        case measure => simp [intOf]; omega
      · have HP := Lib.hid (show spB k = false by simpa using hq)
        clear hq
        have hp : qNs k = true := by simp [qNs, HP.out]
        have hr : Hid (col qNs (k + 1) = col qNs k ||| 2 ^ k) := Lib.hid (by rw [col, if_pos hp])
        clear hp
        obtain ⟨m, HM⟩ : ∃ m, Hid (col qNs k = m) := ⟨_, Lib.hid rfl⟩
        have hs := HS.out
        rw [HM.out] at hs
        obtain ⟨c0, c1, c2, c3, cf⟩ := sc_cells hs
        have HS2 := Lib.hid hs
        clear hs
        go_wp2_with fail
        refine (is_alnum k _).mono ?_
        rintro e w1 ⟨rfl, rfl⟩
        go_wp2_with fail
        refine (is_space k _).mono ?_
        rw [HP.out]
        rintro e w2 ⟨rfl, rfl⟩
        go_wp2_with fail
        refine (refPut_any m k _ hlt).mono ?_
        rintro e w3 ⟨rfl, hb3⟩
        have hs3 := bk_below HS2.out hb3
        obtain ⟨e0, e1, e2, e3, ef⟩ := sc_cells hs3
        go_wp2
        go_roundw
        case rel =>
          refine ⟨k + 1, by omega, by go_num, ?_, by rw [hr.out, HM.out]; exact sc_store4 hs3, ?_⟩
          · exact bk_far (bk_far (bk_far (bk_far (bk_below HZ.out hb3) (by simp <;> omega) _) (by simp <;> omega) _) (by simp <;> omega) _) (by simp <;> omega) _
          · exact blw_set (blw_set (blw_set (blw_set (blw_then hbel hb3) (by simp <;> omega) _) (by simp <;> omega) _) (by simp <;> omega) _) (by simp <;> omega) _
        case measure => simp [intOf]; omega
    · obtain ⟨d0, d1, d2, d3, df⟩ := sc_cells HZ.out
      have hkl : k = 256 := by omega
      subst hkl
      obtain ⟨c0, c1, c2, c3, cf⟩ := sc_cells HS.out
      go_wp2
      go_region
      all_goals
        go_wp2
        refine bodyPost_ret (v := .tuple #[sv (col qNs 256), .bool (!(col qNs 256 == 0))]) (res_sv2 rfl rfl rfl (bk_drew (sc_store4 HZ.out))) rfl ⟨rfl, ?_⟩
        repeat (with_reducible first | exact hbel | refine blw_drew ?_ | refine blw_set ?_ (by simp <;> omega) _)

set_option maxRecDepth 100000 in
set_option maxHeartbeats 4000000 in
theorem refEsc_w (w : World) : Calls Tryd.prog 14 #[.int .i64 119] w fun e w' => e = .returned (.tuple #[sv (col qW 256), .bool (!(col qW 256 == 0))]) ∧ Below w.heap.size w w' := by
  have hne := neq_zero (col qW 256) (col_lt _)
  unfold sv
  go_enter Tryd.func14, Tryd.ntmps14
  go_wp2
  go_loopw [5] (fun i wr => ∃ k : Nat, k ≤ 256 ∧ i = .int .i64 k ∧ wr.heap[w.heap.size]? = some (.cells (sc 0) 24 (0, 0)) ∧ wr.heap[w.heap.size + 1]? = some (.cells (sc (col qW k)) 24 (0, 0)) ∧ Below w.heap.size w wr) (fun i _ => 256 - (intOf i).toNat)
  case atStart =>
    refine ⟨0, Nat.zero_le _, rfl, ?_, ?_, ?_⟩
    · rw [sc_zero]; exact bk_alloc (bk_new _ _) _
    · have := bk_new (w.alloc (.cells #[.int .u64 0, .int .u64 0, .int .u64 0, .int .u64 0] 24)) (.cells #[.int .u64 0, .int .u64 0, .int .u64 0, .int .u64 0] 24)
      simpa [sc, col, wd_zero] using this
    · exact blw_alloc (blw_alloc (Below.refl _ _) _) _
  case round =>
    obtain ⟨k, hk, rfl, hz, hs, hbel⟩ := hrel
    have HZ := Lib.hid hz
    have HS := Lib.hid hs
    clear hz hs
    by_cases hlt : k < 256
    · clear hne
      by_cases hq : alB k = true
      · have HA := Lib.hid hq
        clear hq
        have hp : qW k = true := by simp [qW, HA.out]
        have hr : Hid (col qW (k + 1) = col qW k ||| 2 ^ k) := Lib.hid (by rw [col, if_pos hp])
        clear hp
        obtain ⟨m, HM⟩ : ∃ m, Hid (col qW k = m) := ⟨_, Lib.hid rfl⟩
        have hs := HS.out
        rw [HM.out] at hs
        obtain ⟨c0, c1, c2, c3, cf⟩ := sc_cells hs
        have HS2 := Lib.hid hs
        clear hs
        go_wp2_with fail
        refine (is_alnum k _).mono ?_
        rw [HA.out]
        rintro e w1 ⟨rfl, rfl⟩
        go_wp2_with fail
        refine (is_space k _).mono ?_
        rintro e w2 ⟨rfl, rfl⟩
        go_wp2_with fail
        refine (refPut_any m k _ hlt).mono ?_
        rintro e w3 ⟨rfl, hb3⟩
        have hs3 := bk_below HS2.out hb3
        obtain ⟨e0, e1, e2, e3, ef⟩ := sc_cells hs3
        go_wp2
        go_roundw
        case rel =>
          refine ⟨k + 1, by omega, by go_num, ?_, by rw [hr.out, HM.out]; exact sc_store4 hs3, ?_⟩
          · exact bk_far (bk_far (bk_far (bk_far (bk_below HZ.out hb3) (by simp <;> omega) _) (by simp <;> omega) _) (by simp <;> omega) _) (by simp <;> omega) _
          · exact blw_set (blw_set (blw_set (blw_set (blw_then hbel hb3) (by simp <;> omega) _) (by simp <;> omega) _) (by simp <;> omega) _) (by simp <;> omega) _
        case measure => simp [intOf]; omega
      · have HA := Lib.hid (show alB k = false by simpa using hq)
        clear hq
        by_cases hq : k = 95
        · have hq1 : ((k : Int) == 95) = true := by simp [hq]
          have hq2 : ((k : Int) != 95) = false := by simp [hq]
          have hQ := Lib.hid hq
          clear hq
          have hp : qW k = true := by simp [qW, hQ.out]
          have hr : Hid (col qW (k + 1) = col qW k ||| 2 ^ k) := Lib.hid (by rw [col, if_pos hp])
          clear hp
          obtain ⟨m, HM⟩ : ∃ m, Hid (col qW k = m) := ⟨_, Lib.hid rfl⟩
          have hs := HS.out
          rw [HM.out] at hs
          obtain ⟨c0, c1, c2, c3, cf⟩ := sc_cells hs
          have HS2 := Lib.hid hs
          clear hs
          go_wp2_with fail
          refine (is_alnum k _).mono ?_
          rw [HA.out]
          rintro e w1 ⟨rfl, rfl⟩
          go_wp2_with fail
          refine (is_space k _).mono ?_
          rintro e w2 ⟨rfl, rfl⟩
          go_wp2_with fail
          refine (refPut_any m k _ hlt).mono ?_
          rintro e w3 ⟨rfl, hb3⟩
          have hs3 := bk_below HS2.out hb3
          obtain ⟨e0, e1, e2, e3, ef⟩ := sc_cells hs3
          go_wp2
          go_roundw
          case rel =>
            refine ⟨k + 1, by omega, by go_num, ?_, by rw [hr.out, HM.out]; exact sc_store4 hs3, ?_⟩
            · exact bk_far (bk_far (bk_far (bk_far (bk_below HZ.out hb3) (by simp <;> omega) _) (by simp <;> omega) _) (by simp <;> omega) _) (by simp <;> omega) _
            · exact blw_set (blw_set (blw_set (blw_set (blw_then hbel hb3) (by simp <;> omega) _) (by simp <;> omega) _) (by simp <;> omega) _) (by simp <;> omega) _
          case measure => simp [intOf]; omega
        · have hq1 : ((k : Int) == 95) = false := by rw [beq_eq_false_iff_ne]; omega
          have hq2 : ((k : Int) != 95) = true := by rw [bne_iff_ne]; omega
          have hQ := Lib.hid hq
          clear hq
          have hp : qW k = false := by simp [qW, HA.out, hQ.out]
          have hr : Hid (col qW (k + 1) = col qW k) := Lib.hid (by rw [col, if_neg (by simp [hp])])
          clear hp
          go_wp2_with fail
          refine (is_alnum k _).mono ?_
          rw [HA.out]
          rintro e w1 ⟨rfl, rfl⟩
          go_wp2_with fail
          refine (is_space k _).mono ?_
          rintro e w2 ⟨rfl, rfl⟩
          go_wp2
          go_roundw
          case rel => exact ⟨k + 1, by omega, by go_num, HZ.out, by rw [hr.out]; exact HS.out, hbel⟩
          case measure => simp [intOf]; omega
    · obtain ⟨d0, d1, d2, d3, df⟩ := sc_cells HZ.out
      have hkl : k = 256 := by omega
      subst hkl
      obtain ⟨c0, c1, c2, c3, cf⟩ := sc_cells HS.out
      go_wp2
      go_region
      all_goals
        go_wp2
        refine bodyPost_ret (v := .tuple #[sv (col qW 256), .bool (!(col qW 256 == 0))]) (res_sv2 rfl rfl rfl (bk_drew (sc_store4 HZ.out))) rfl ⟨rfl, ?_⟩
        repeat (with_reducible first | exact hbel | refine blw_drew ?_ | refine blw_set ?_ (by simp <;> omega) _)

set_option maxRecDepth 100000 in
set_option maxHeartbeats 4000000 in
theorem refEsc_W (w : World) : Calls Tryd.prog 14 #[.int .i64 87] w fun e w' => e = .returned (.tuple #[sv (col qNw 256), .bool (!(col qNw 256 == 0))]) ∧ Below w.heap.size w w' := by
  have hne := neq_zero (col qNw 256) (col_lt _)
  unfold sv
  go_enter Tryd.func14, Tryd.ntmps14
  go_wp2
  go_loopw [5] (fun i wr => ∃ k : Nat, k ≤ 256 ∧ i = .int .i64 k ∧ wr.heap[w.heap.size]? = some (.cells (sc 0) 24 (0, 0)) ∧ wr.heap[w.heap.size + 1]? = some (.cells (sc (col qNw k)) 24 (0, 0)) ∧ Below w.heap.size w wr) (fun i _ => 256 - (intOf i).toNat)
  case atStart =>
    refine ⟨0, Nat.zero_le _, rfl, ?_, ?_, ?_⟩
    · rw [sc_zero]; exact bk_alloc (bk_new _ _) _
    · have := bk_new (w.alloc (.cells #[.int .u64 0, .int .u64 0, .int .u64 0, .int .u64 0] 24)) (.cells #[.int .u64 0, .int .u64 0, .int .u64 0, .int .u64 0] 24)
      simpa [sc, col, wd_zero] using this
    · exact blw_alloc (blw_alloc (Below.refl _ _) _) _
  case round =>
    obtain ⟨k, hk, rfl, hz, hs, hbel⟩ := hrel
    have HZ := Lib.hid hz
    have HS := Lib.hid hs
    clear hz hs
    by_cases hlt : k < 256
    · clear hne
      by_cases hq : alB k = true
      · have HA := Lib.hid hq
        clear hq
        have hp : qNw k = false := by simp [qNw, HA.out]
        have hr : Hid (col qNw (k + 1) = col qNw k) := Lib.hid (by rw [col, if_neg (by simp [hp])])
        clear hp
        go_wp2_with fail
        refine (is_alnum k _).mono ?_
        rw [HA.out]
        rintro e w1 ⟨rfl, rfl⟩
        go_wp2_with fail
        refine (is_space k _).mono ?_
        rintro e w2 ⟨rfl, rfl⟩
        go_wp2
        go_roundw
        case rel => exact ⟨k + 1, by omega, by go_num, HZ.out, by rw [hr.out]; exact HS.out, hbel⟩
        case measure => simp [intOf]; omega
      · have HA := Lib.hid (show alB k = false by simpa using hq)
        clear hq
        by_cases hq : k = 95
        · have hq1 : ((k : Int) == 95) = true := by simp [hq]
          have hq2 : ((k : Int) != 95) = false := by simp [hq]
          have hQ := Lib.hid hq
          clear hq
          have hp : qNw k = false := by simp [qNw, hQ.out]
          have hr : Hid (col qNw (k + 1) = col qNw k) := Lib.hid (by rw [col, if_neg (by simp [hp])])
          clear hp
          go_wp2_with fail
          refine (is_alnum k _).mono ?_
          rw [HA.out]
          rintro e w1 ⟨rfl, rfl⟩
          go_wp2_with fail
          refine (is_space k _).mono ?_
          rintro e w2 ⟨rfl, rfl⟩
          go_wp2
          go_roundw
          case rel => exact ⟨k + 1, by omega, by go_num, HZ.out, by rw [hr.out]; exact HS.out, hbel⟩
          case measure => simp [intOf]; omega
        · have hq1 : ((k : Int) == 95) = false := by rw [beq_eq_false_iff_ne]; omega
          have hq2 : ((k : Int) != 95) = true := by rw [bne_iff_ne]; omega
          have hQ := Lib.hid hq
          clear hq
          have hp : qNw k = true := by simp [qNw, HA.out, hQ.out]
          have hr : Hid (col qNw (k + 1) = col qNw k ||| 2 ^ k) := Lib.hid (by rw [col, if_pos hp])
          clear hp
          obtain ⟨m, HM⟩ : ∃ m, Hid (col qNw k = m) := ⟨_, Lib.hid rfl⟩
          have hs := HS.out
          rw [HM.out] at hs
          obtain ⟨c0, c1, c2, c3, cf⟩ := sc_cells hs
          have HS2 := Lib.hid hs
          clear hs
          go_wp2_with fail
          refine (is_alnum k _).mono ?_
          rw [HA.out]
          rintro e w1 ⟨rfl, rfl⟩
          go_wp2_with fail
          refine (is_space k _).mono ?_
          rintro e w2 ⟨rfl, rfl⟩
          go_wp2_with fail
          refine (refPut_any m k _ hlt).mono ?_
          rintro e w3 ⟨rfl, hb3⟩
          have hs3 := bk_below HS2.out hb3
          obtain ⟨e0, e1, e2, e3, ef⟩ := sc_cells hs3
          go_wp2
          go_roundw
          case rel =>
            refine ⟨k + 1, by omega, by go_num, ?_, by rw [hr.out, HM.out]; exact sc_store4 hs3, ?_⟩
            · exact bk_far (bk_far (bk_far (bk_far (bk_below HZ.out hb3) (by simp <;> omega) _) (by simp <;> omega) _) (by simp <;> omega) _) (by simp <;> omega) _
            · exact blw_set (blw_set (blw_set (blw_set (blw_then hbel hb3) (by simp <;> omega) _) (by simp <;> omega) _) (by simp <;> omega) _) (by simp <;> omega) _
          case measure => simp [intOf]; omega
    · obtain ⟨d0, d1, d2, d3, df⟩ := sc_cells HZ.out
      have hkl : k = 256 := by omega
      subst hkl
      obtain ⟨c0, c1, c2, c3, cf⟩ := sc_cells HS.out
      go_wp2
      go_region
      all_goals
        go_wp2
        refine bodyPost_ret (v := .tuple #[sv (col qNw 256), .bool (!(col qNw 256 == 0))]) (res_sv2 rfl rfl rfl (bk_drew (sc_store4 HZ.out))) rfl ⟨rfl, ?_⟩
        repeat (with_reducible first | exact hbel | refine blw_drew ?_ | refine blw_set ?_ (by simp <;> omega) _)

set_option maxRecDepth 100000 in
set_option maxHeartbeats 4000000 in
theorem refEsc_def (c : Nat) (h110 : ((c : Int) == 110) = false) (h116 : ((c : Int) == 116) = false) (h114 : ((c : Int) == 114) = false) (h100 : ((c : Int) == 100) = false) (h115 : ((c : Int) == 115) = false) (h119 : ((c : Int) == 119) = false) (h68 : ((c : Int) == 68) = false) (h83 : ((c : Int) == 83) = false) (h87 : ((c : Int) == 87) = false) (w : World) : Calls Tryd.prog 14 #[.int .i64 (c : Int)] w fun e w' => e = .returned (.tuple #[sv (col (qDef c) 256), .bool (!(col (qDef c) 256 == 0))]) ∧ Below w.heap.size w w' := by
  have hne := neq_zero (col (qDef c) 256) (col_lt _)
  unfold sv
  go_enter Tryd.func14, Tryd.ntmps14
  go_wp2
  go_loopw [5] (fun i wr => ∃ k : Nat, k ≤ 256 ∧ i = .int .i64 k ∧ wr.heap[w.heap.size]? = some (.cells (sc 0) 24 (0, 0)) ∧ wr.heap[w.heap.size + 1]? = some (.cells (sc (col (qDef c) k)) 24 (0, 0)) ∧ Below w.heap.size w wr) (fun i _ => 256 - (intOf i).toNat)
  case atStart =>
    refine ⟨0, Nat.zero_le _, rfl, ?_, ?_, ?_⟩
    · rw [sc_zero]; exact bk_alloc (bk_new _ _) _
    · have := bk_new (w.alloc (.cells #[.int .u64 0, .int .u64 0, .int .u64 0, .int .u64 0] 24)) (.cells #[.int .u64 0, .int .u64 0, .int .u64 0, .int .u64 0] 24)
      simpa [sc, col, wd_zero] using this
    · exact blw_alloc (blw_alloc (Below.refl _ _) _) _
  case round =>
    obtain ⟨k, hk, rfl, hz, hs, hbel⟩ := hrel
    have HZ := Lib.hid hz
    have HS := Lib.hid hs
    clear hz hs
    by_cases hlt : k < 256
    · clear hne
      by_cases hq : k = c
      · have hq1 : ((k : Int) == (c : Int)) = true := by simp [hq]
        have hQ := Lib.hid hq
        clear hq
        by_cases hq : alB k = true
        · have HA := Lib.hid hq
          clear hq
          have hp : (qDef c) k = false := by simp [qDef, HA.out]
          have hr : Hid (col (qDef c) (k + 1) = col (qDef c) k) := Lib.hid (by rw [col, if_neg (by simp [hp])])
          clear hp
          go_wp2_with fail
          refine (is_alnum k _).mono ?_
          rw [HA.out]
          rintro e w1 ⟨rfl, rfl⟩
          go_wp2_with fail
          refine (is_space k _).mono ?_
          rintro e w2 ⟨rfl, rfl⟩
          go_wp2
          go_roundw
          case rel => exact ⟨k + 1, by omega, by go_num, HZ.out, by rw [hr.out]; exact HS.out, hbel⟩
          case measure => simp [intOf]; omega
        · have HA := Lib.hid (show alB k = false by simpa using hq)
          clear hq
          have hp : (qDef c) k = true := by unfold qDef; rw [HA.out]; simp [hQ.out]
          have hr : Hid (col (qDef c) (k + 1) = col (qDef c) k ||| 2 ^ k) := Lib.hid (by rw [col, if_pos hp])
          clear hp
          obtain ⟨m, HM⟩ : ∃ m, Hid (col (qDef c) k = m) := ⟨_, Lib.hid rfl⟩
          have hs := HS.out
          rw [HM.out] at hs
          obtain ⟨c0, c1, c2, c3, cf⟩ := sc_cells hs
          have HS2 := Lib.hid hs
          clear hs
          go_wp2_with fail
          refine (is_alnum k _).mono ?_
          rw [HA.out]
          rintro e w1 ⟨rfl, rfl⟩
          go_wp2_with fail
          refine (is_space k _).mono ?_
          rintro e w2 ⟨rfl, rfl⟩
          go_wp2_with fail
          refine (refPut_any m k _ hlt).mono ?_
          rintro e w3 ⟨rfl, hb3⟩
          have hs3 := bk_below HS2.out hb3
          obtain ⟨e0, e1, e2, e3, ef⟩ := sc_cells hs3
          go_wp2
          go_roundw
          case rel =>
            refine ⟨k + 1, by omega, by go_num, ?_, by rw [hr.out, HM.out]; exact sc_store4 hs3, ?_⟩
            · exact bk_far (bk_far (bk_far (bk_far (bk_below HZ.out hb3) (by simp <;> omega) _) (by simp <;> omega) _) (by simp <;> omega) _) (by simp <;> omega) _
            · exact blw_set (blw_set (blw_set (blw_set (blw_then hbel hb3) (by simp <;> omega) _) (by simp <;> omega) _) (by simp <;> omega) _) (by simp <;> omega) _
          case measure => simp [intOf]; omega
      · have hq1 : ((k : Int) == (c : Int)) = false := by rw [beq_eq_false_iff_ne]; omega
        have hQ := Lib.hid hq
        clear hq
        have hp : (qDef c) k = false := by simp [qDef, hQ.out]
        have hr : Hid (col (qDef c) (k + 1) = col (qDef c) k) := Lib.hid (by rw [col, if_neg (by simp [hp])])
        clear hp
        go_wp2_with fail
        refine (is_alnum k _).mono ?_
        rintro e w1 ⟨rfl, rfl⟩
        go_wp2_with fail
        refine (is_space k _).mono ?_
        rintro e w2 ⟨rfl, rfl⟩
        go_wp2
        go_roundw
        case rel => exact ⟨k + 1, by omega, by go_num, HZ.out, by rw [hr.out]; exact HS.out, hbel⟩
        case measure => simp [intOf]; omega
    · obtain ⟨d0, d1, d2, d3, df⟩ := sc_cells HZ.out
      have hkl : k = 256 := by omega
      subst hkl
      obtain ⟨c0, c1, c2, c3, cf⟩ := sc_cells HS.out
      go_wp2
      go_region
      all_goals
        go_wp2
        refine bodyPost_ret (v := .tuple #[sv (col (qDef c) 256), .bool (!(col (qDef c) 256 == 0))]) (res_sv2 rfl rfl rfl (bk_drew (sc_store4 HZ.out))) rfl ⟨rfl, ?_⟩
        repeat (with_reducible first | exact hbel | refine blw_drew ?_ | refine blw_set ?_ (by simp <;> omega) _)

end Go.Proofs.YtgeaebcchjmmjaaDoor
