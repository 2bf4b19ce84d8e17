/- What the page answers for Fold: byte by byte. -/
import Derived.Test.YtgeaebcchjmmjaaDoorEscape
namespace Go.Proofs.YtgeaebcchjmmjaaDoor
open Go.RowKit
def upB (b : Int) : Bool := decide (65 ≤ b) && decide (b ≤ 90)
def loB (b : Int) : Bool := decide (97 ≤ b) && decide (b ≤ 122)
def dgB (b : Int) : Bool := decide (48 ≤ b) && decide (b ≤ 57)
theorem upper_any (b : Int) (w : World) : Calls Tryd.prog 37 #[.int .i64 b] w fun e w' => e = .returned (.bool (upB b)) ∧ w = w' := by
  by_cases h : 65 ≤ b
  · go_enter Tryd.func37, Tryd.ntmps37
    go_wp2
    all_goals (go_ret; exact ⟨by first | (simp [upB, *]; done) | (simp [upB, *]; omega), rfl⟩)
  · go_enter Tryd.func37, Tryd.ntmps37
    go_wp2
    all_goals (go_ret; exact ⟨by first | (simp [upB, *]; done) | (simp [upB, *]; omega), rfl⟩)
theorem lower_any (b : Int) (w : World) : Calls Tryd.prog 39 #[.int .i64 b] w fun e w' => e = .returned (.bool (loB b)) ∧ w = w' := by
  by_cases h : 97 ≤ b
  · go_enter Tryd.func39, Tryd.ntmps39
    go_wp2
    all_goals (go_ret; exact ⟨by first | (simp [loB, *]; done) | (simp [loB, *]; omega), rfl⟩)
  · go_enter Tryd.func39, Tryd.ntmps39
    go_wp2
    all_goals (go_ret; exact ⟨by first | (simp [loB, *]; done) | (simp [loB, *]; omega), rfl⟩)
theorem digit_any (b : Int) (w : World) : Calls Tryd.prog 44 #[.int .i64 b] w fun e w' => e = .returned (.bool (dgB b)) ∧ w = w' := by
  by_cases h : 48 ≤ b
  · go_enter Tryd.func44, Tryd.ntmps44
    go_wp2
    all_goals (go_ret; exact ⟨by first | (simp [dgB, *]; done) | (simp [dgB, *]; omega), rfl⟩)
  · go_enter Tryd.func44, Tryd.ntmps44
    go_wp2
    all_goals (go_ret; exact ⟨by first | (simp [dgB, *]; done) | (simp [dgB, *]; omega), rfl⟩)
/-- One byte's step of the page's fold. -/
def rstep (n m b : Nat) : Nat :=
  if n.testBit b = true then (if upB b = true then m ||| 2 ^ (b + 32) else if loB b = true then m ||| 2 ^ (b - 32) else m) else m
def rfold (n : Nat) : Nat → Nat
  | 0 => n
  | k + 1 => rstep n (rfold n k) k
set_option maxRecDepth 100000 in
set_option maxHeartbeats 4000000 in
theorem refFold_any (n : Nat) (w : World) :
    Calls Tryd.prog 11 #[sv n] w fun e w' => e = .returned (sv (rfold n 256)) ∧ Below w.heap.size w w' := by
  unfold sv
  go_enter Tryd.func11, Tryd.ntmps11
  go_wp2
  go_loopw [4] (fun i wr => ∃ k : Nat, k ≤ 256 ∧ i = .int .i64 k ∧ wr.heap[w.heap.size]? = some (.cells (sc n) 24 (0, 0)) ∧ wr.heap[w.heap.size + 1]? = some (.cells (sc 0) 24 (0, 0)) ∧
      wr.heap[w.heap.size + 1 + 1]? = some (.cells (sc (rfold n k)) 24 (0, 0)) ∧ Below w.heap.size w wr) (fun i _ => 256 - (intOf i).toNat)
  case atStart =>
    refine ⟨0, by omega, rfl, bk_alloc (bk_alloc (bk_new _ _) _) _, ?_, ?_, ?_⟩
    · rw [sc_zero]
      have := bk_new (w.alloc (.cells (sc n) 24)) (.cells #[.int .u64 0, .int .u64 0, .int .u64 0, .int .u64 0] 24)
      exact bk_alloc (by simpa [sc] using this) _
    · have := bk_new ((w.alloc (.cells (sc n) 24)).alloc (.cells #[.int .u64 0, .int .u64 0, .int .u64 0, .int .u64 0] 24)) (.cells (sc n) 24)
      simpa [sc, rfold] using this
    · exact blw_alloc (blw_alloc (blw_alloc (Below.refl _ _) _) _) _
  case round =>
    obtain ⟨k, hk, rfl, hn, hz, hs, hbel⟩ := hrel
    have HN := Lib.hid hn
    have HZ := Lib.hid hz
    have HS := Lib.hid hs
    obtain ⟨a0, a1, a2, a3, af⟩ := sc_cells hn
    obtain ⟨c0, c1, c2, c3, cf⟩ := sc_cells hs
    clear hn hz hs
    by_cases hlt : k < 256
    · by_cases hb : n.testBit k = true
      · have HBF := Lib.hid hb
        obtain ⟨m, HM⟩ : ∃ m, Hid (rfold n k = m) := ⟨_, Lib.hid rfl⟩
        have hs' := HS.out
        rw [HM.out] at hs'
        have HS2 := Lib.hid hs'
        clear hb hs' c0 c1 c2 c3 cf
        by_cases hu : upB k = true
        · have hr : Hid (rfold n (k + 1) = m ||| 2 ^ (k + 32)) := Lib.hid (by rw [rfold, rstep, if_pos HBF.out, if_pos hu, HM.out])
          have hk32 : k + 32 < 256 := by unfold upB at hu; simp at hu; omega
          have hlo : loB k = false := by unfold upB at hu; unfold loB; simp at hu ⊢; omega
          have HU := Lib.hid hu
          have HL := Lib.hid hlo
          clear hu hlo
          go_wp2_with fail
          refine (refHas_any n k _ hlt).mono ?_
          rw [HBF.out]
          rintro e w1 ⟨rfl, hb1⟩
          have hs1 := bk_below HS2.out hb1
          obtain ⟨f0, f1, f2, f3, ff⟩ := sc_cells hs1
          go_wp2_with fail
          refine (upper_any k _).mono ?_
          rw [HU.out]
          rintro e w2 ⟨rfl, rfl⟩
          go_wp2_with fail
          refine (refPut_any m (k + 32) _ hk32).mono ?_
          rintro e w3 ⟨rfl, hb3⟩
          have hs3 := bk_below hs1 hb3
          obtain ⟨e0, e1, e2, e3, ef⟩ := sc_cells hs3
          go_wp2_with fail
          refine (lower_any k _).mono ?_
          rw [HL.out]
          rintro e w4 ⟨rfl, rfl⟩
          go_wp2
          go_roundw
          case rel =>
            refine ⟨k + 1, by omega, by go_num, ?_, ?_, by rw [hr.out]; exact sc_store4 hs3, ?_⟩
            · exact bk_far (bk_far (bk_far (bk_far (bk_below (bk_below HN.out hb1) hb3) (by simp <;> omega) _) (by simp <;> omega) _) (by simp <;> omega) _) (by simp <;> omega) _
            · exact bk_far (bk_far (bk_far (bk_far (bk_below (bk_below HZ.out hb1) hb3) (by simp <;> omega) _) (by simp <;> omega) _) (by simp <;> omega) _) (by simp <;> omega) _
            · exact blw_set (blw_set (blw_set (blw_set (blw_then (blw_then hbel hb1) hb3) (by simp <;> omega) _) (by simp <;> omega) _) (by simp <;> omega) _) (by simp <;> omega) _
          case measure => simp [intOf]; omega
        · by_cases hl : loB k = true
          · have hr : Hid (rfold n (k + 1) = m ||| 2 ^ (k - 32)) := Lib.hid (by rw [rfold, rstep, if_pos HBF.out, if_neg hu, if_pos hl, HM.out])
            have hk32 : k - 32 < 256 := by omega
            have hk97 : 97 ≤ k := by unfold loB at hl; simp at hl; omega
            have HU := Lib.hid (show upB k = false by simpa using hu)
            have HL := Lib.hid hl
            have ek : (k : Int) - 32 = ((k - 32 : Nat) : Int) := by omega
            clear hu hl
            go_wp2_with fail
            refine (refHas_any n k _ hlt).mono ?_
            rw [HBF.out]
            rintro e w1 ⟨rfl, hb1⟩
            have hs1 := bk_below HS2.out hb1
            obtain ⟨f0, f1, f2, f3, ff⟩ := sc_cells hs1
            go_wp2_with fail
            refine (upper_any k _).mono ?_
            rw [HU.out]
            rintro e w2 ⟨rfl, rfl⟩
            go_wp2_with fail
            refine (lower_any k _).mono ?_
            rw [HL.out]
            rintro e w2 ⟨rfl, rfl⟩
            go_wp2_with fail
            refine (refPut_any m (k - 32) _ hk32).mono ?_
            rintro e w3 ⟨rfl, hb3⟩
            have hs3 := bk_below hs1 hb3
            obtain ⟨e0, e1, e2, e3, ef⟩ := sc_cells hs3
            go_wp2
            go_roundw
            case rel =>
              refine ⟨k + 1, by omega, by go_num, ?_, ?_, by rw [hr.out]; exact sc_store4 hs3, ?_⟩
              · exact bk_far (bk_far (bk_far (bk_far (bk_below (bk_below HN.out hb1) hb3) (by simp <;> omega) _) (by simp <;> omega) _) (by simp <;> omega) _) (by simp <;> omega) _
              · exact bk_far (bk_far (bk_far (bk_far (bk_below (bk_below HZ.out hb1) hb3) (by simp <;> omega) _) (by simp <;> omega) _) (by simp <;> omega) _) (by simp <;> omega) _
              · exact blw_set (blw_set (blw_set (blw_set (blw_then (blw_then hbel hb1) hb3) (by simp <;> omega) _) (by simp <;> omega) _) (by simp <;> omega) _) (by simp <;> omega) _
            case measure => simp [intOf]; omega
          · have hr : Hid (rfold n (k + 1) = m) := Lib.hid (by rw [rfold, rstep, if_pos HBF.out, if_neg hu, if_neg hl, HM.out])
            have HU := Lib.hid (show upB k = false by simpa using hu)
            have HL := Lib.hid (show loB k = false by simpa using hl)
            clear hu hl
            go_wp2_with fail
            refine (refHas_any n k _ hlt).mono ?_
            rw [HBF.out]
            rintro e w1 ⟨rfl, hb1⟩
            go_wp2_with fail
            refine (upper_any k _).mono ?_
            rw [HU.out]
            rintro e w2 ⟨rfl, rfl⟩
            go_wp2_with fail
            refine (lower_any k _).mono ?_
            rw [HL.out]
            rintro e w2 ⟨rfl, rfl⟩
            go_wp2
            go_roundw
            case rel => exact ⟨k + 1, by omega, by go_num, bk_below HN.out hb1, bk_below HZ.out hb1, by rw [hr.out]; exact bk_below HS2.out hb1, blw_then hbel hb1⟩
            case measure => simp [intOf]; omega
      · have hr : Hid (rfold n (k + 1) = rfold n k) := Lib.hid (by rw [rfold, rstep, if_neg hb])
        have hbf : n.testBit k = false := by simpa using hb
        have HBF := Lib.hid hbf
        clear hb hbf
        go_wp2_with fail
        refine (refHas_any n k _ hlt).mono ?_
        rw [HBF.out]
        rintro e w1 ⟨rfl, hb1⟩
        go_wp2
        go_roundw
        case rel => exact ⟨k + 1, by omega, by go_num, bk_below HN.out hb1, bk_below HZ.out hb1, by rw [hr.out]; exact bk_below HS.out hb1, blw_then hbel hb1⟩
        case measure => simp [intOf]; omega
    · obtain ⟨d0, d1, d2, d3, df⟩ := sc_cells HZ.out
      go_wp2
      have hkl : k = 256 := by omega
      subst hkl
      refine bodyPost_ret (v := sv (rfold n 256)) (res_sv rfl rfl (sc_store4 HZ.out)) rfl ⟨rfl, ?_⟩
      repeat (with_reducible first | exact hbel | refine blw_set ?_ (by simp <;> omega) _)
end Go.Proofs.YtgeaebcchjmmjaaDoor
