/- What the page's Class answers. -/
import Derived.Test.YtgeaebcchjmmjaaDoorRefIs
import Derived.Test.YtgeaebcchjmmjaaDoorNames
namespace Go.Proofs.YtgeaebcchjmmjaaDoor
open Go.RowKit
/-- What the page knows of a name. -/
structure IsAs (s : ByteArray) (p : Int → Bool) (ok : Bool) : Prop where
  go : ∀ (b : Int) (w : World), Calls Tryd.prog 43 #[.string s, .int .i64 b] w fun e w' => e = .returned (.tuple #[.bool (p b), .bool ok]) ∧ w = w'
set_option maxRecDepth 100000 in
set_option maxHeartbeats 4000000 in
theorem is_none (s : ByteArray) (h : findN s 12 = none) : IsAs s (fun _ => false) false := by
  have key : ∀ (i : Nat), i < 12 → ((s.toList == nmL i) = false) := fun i hi => by
    rw [beq_eq_false_iff_ne]
    intro he
    have he : s = nmS i := tl_inj (he.trans (by rw [Lib.toList_data]; rfl))
    subst he
    match i, hi with
    | 0, _ | 1, _ | 2, _ | 3, _ | 4, _ | 5, _ | 6, _ | 7, _ | 8, _ | 9, _ | 10, _ | 11, _ => revert h; decide +kernel
  have h0 := key 0 (by decide)
  have h1 := key 1 (by decide)
  have h2 := key 2 (by decide)
  have h3 := key 3 (by decide)
  have h4 := key 4 (by decide)
  have h5 := key 5 (by decide)
  have h6 := key 6 (by decide)
  have h7 := key 7 (by decide)
  have h8 := key 8 (by decide)
  have h9 := key 9 (by decide)
  have h10 := key 10 (by decide)
  have h11 := key 11 (by decide)
  simp only [nmL, nmTab, List.getD_cons_zero, List.getD_cons_succ] at h0 h1 h2 h3 h4 h5 h6 h7 h8 h9 h10 h11
  clear key h
  refine ⟨fun b w => ?_⟩
  go_enter Tryd.func43, Tryd.ntmps43
  go_wp2
  go_ret2
  exact ⟨rfl, rfl⟩
theorem findN_spec (s : ByteArray) (i : Nat) : ∀ k, k ≤ 12 → findN s k = some i → i < 12 ∧ nmS i = s
  | 0, _, h => by cases h
  | k + 1, hk, h => by
    rw [findN] at h
    by_cases hs : nmS (11 - k) = s
    · rw [if_pos hs] at h
      cases h
      exact ⟨by omega, hs⟩
    · rw [if_neg hs] at h
      exact findN_spec s i k (by omega) h
theorem is_name (s : ByteArray) (i : Nat) (h : findN s 12 = some i) : IsAs s (isP i) true ∧ i < 12 ∧ nmS i = s := by
  have e := findN_spec s i 12 (by decide) h
  obtain ⟨hi, hs⟩ := e
  refine ⟨⟨fun b w => ?_⟩, hi, hs⟩
  subst hs
  clear h
  match i, hi with
  | 0, _ => exact is_0 b w
  | 1, _ => exact is_1 b w
  | 2, _ => exact is_2 b w
  | 3, _ => exact is_3 b w
  | 4, _ => exact is_4 b w
  | 5, _ => exact is_5 b w
  | 6, _ => exact is_6 b w
  | 7, _ => exact is_7 b w
  | 8, _ => exact is_8 b w
  | 9, _ => exact is_9 b w
  | 10, _ => exact is_10 b w
  | 11, _ => exact is_11 b w
theorem cls_col : ∀ i : Nat, i < 12 → unN (nmR i) = col (fun k => isP i k) 256 := by decide +kernel
/-- The page's set of a name. -/
theorem cls_is (s : ByteArray) : ∃ p, IsAs s p (findN s 12).isSome ∧ clsN s = col (fun k => p k) 256 := by
  cases h : findN s 12 with
  | none =>
    refine ⟨_, is_none s h, ?_⟩
    unfold clsN
    rw [h]
    symm
    refine Nat.eq_of_testBit_eq fun i => ?_
    rw [col_bit, Nat.zero_testBit]
    simp
  | some i =>
    obtain ⟨h1, h2, h3⟩ := is_name s i h
    refine ⟨_, h1, ?_⟩
    unfold clsN
    rw [h]
    exact cls_col i h2
set_option maxRecDepth 100000 in
set_option maxHeartbeats 4000000 in
theorem refClass_any (s : ByteArray) (w : World) :
    Calls Tryd.prog 19 #[.string s] w fun e w' => e = .returned (.tuple #[sv (clsN s), .bool (findN s 12).isSome]) ∧ Below w.heap.size w w' := by
  obtain ⟨p, HI, hc⟩ := cls_is s
  rw [hc]
  generalize (findN s 12).isSome = ok at *
  clear hc
  unfold sv
  go_enter Tryd.func19, Tryd.ntmps19
  go_wp2_with fail
  refine (HI.go _ _).mono ?_
  rintro e w0 ⟨rfl, rfl⟩
  go_wp2
  go_loopw [7] (fun i wr => ∃ k : Nat, k ≤ 256 ∧ i = .int .i64 k ∧ wr.heap[w.heap.size]? = some (.cells (sc 0) 24 (0, 0)) ∧ wr.heap[w.heap.size + 1]? = some (.cells (sc (col (fun k => p k) k)) 24 (0, 0)) ∧ Below w.heap.size w wr) (fun i _ => 256 - (intOf i).toNat)
  case atStart =>
    refine ⟨0, Nat.zero_le _, rfl, ?_, ?_, ?_⟩
    · rw [sc_zero]; exact bk_alloc (bk_new _ _) _
    · have := bk_new (w.alloc (.cells #[.int .u64 0, .int .u64 0, .int .u64 0, .int .u64 0] 24)) (.cells #[.int .u64 0, .int .u64 0, .int .u64 0, .int .u64 0] 24)
      simpa [sc, col, wd_zero] using this
    · exact blw_alloc (blw_alloc (Below.refl _ _) _) _
  case round =>
    obtain ⟨k, hk, rfl, hz, hs, hbel⟩ := hrel
    have HZ := Lib.hid hz
    have HS := Lib.hid hs
    clear hz hs
    by_cases hlt : k < 256
    · cases hq : p k
      · have hr : Hid (col (fun k => p k) (k + 1) = col (fun k => p k) k) := Lib.hid (by rw [col, if_neg (by simp [hq])])
        go_wp2_with fail
        refine (HI.go k _).mono ?_
        rw [hq]
        rintro e w1 ⟨rfl, rfl⟩
        go_wp2
        go_roundw
        case rel => exact ⟨k + 1, by omega, by go_num, HZ.out, by rw [hr.out]; exact HS.out, hbel⟩
        case measure => simp [intOf]; omega
      · have hr : Hid (col (fun k => p k) (k + 1) = col (fun k => p k) k ||| 2 ^ k) := Lib.hid (by rw [col, if_pos hq])
        obtain ⟨m, HM⟩ : ∃ m, Hid (col (fun k => p k) k = m) := ⟨_, Lib.hid rfl⟩
        have hs := HS.out
        rw [HM.out] at hs
        obtain ⟨c0, c1, c2, c3, cf⟩ := sc_cells hs
        have HS2 := Lib.hid hs
        clear hs
        go_wp2_with fail
        refine (HI.go k _).mono ?_
        rw [hq]
        rintro e w1 ⟨rfl, rfl⟩
        go_wp2_with fail
        refine (refPut_any m k _ hlt).mono ?_
        rintro e w3 ⟨rfl, hb3⟩
        have hs3 := bk_below HS2.out hb3
        obtain ⟨e0, e1, e2, e3, ef⟩ := sc_cells hs3
        go_wp2
        go_roundw
        case rel =>
          refine ⟨k + 1, by omega, by go_num, ?_, by rw [hr.out, HM.out]; exact sc_store4 hs3, ?_⟩
          · exact bk_far (bk_far (bk_far (bk_far (bk_below HZ.out hb3) (by simp <;> omega) _) (by simp <;> omega) _) (by simp <;> omega) _) (by simp <;> omega) _
          · exact blw_set (blw_set (blw_set (blw_set (blw_then hbel hb3) (by simp <;> omega) _) (by simp <;> omega) _) (by simp <;> omega) _) (by simp <;> omega) _
        case measure => simp [intOf]; omega
    · have hk2 : k = 256 := by omega
      subst hk2
      obtain ⟨c0, c1, c2, c3, cf⟩ := sc_cells HS.out
      obtain ⟨d0, d1, d2, d3, df⟩ := sc_cells HZ.out
      go_wp2
      refine bodyPost_ret (v := .tuple #[sv (col (fun k => p k) 256), .bool ok]) (res_sv2 rfl rfl rfl (sc_store4 HZ.out)) rfl ⟨rfl, ?_⟩
      repeat (with_reducible first | exact hbel | refine blw_set ?_ (by simp <;> omega) _)
end Go.Proofs.YtgeaebcchjmmjaaDoor
