/- The law NamedClasses returns true for every name. -/
import Derived.Test.YtgeaebcchjmmjaaDoorRefCls
import Derived.Test.YtgeaebcchjmmjaaDoorAwake02
namespace Go.Proofs.YtgeaebcchjmmjaaDoor
open Go.RowKit
def inN (s : ByteArray) : Nat → Bool
  | 0 => false
  | k + 1 => inN s k || ((nmS k).toList == s.toList)
theorem inN_iff (s : ByteArray) : ∀ k, inN s k = true ↔ ∃ j, j < k ∧ nmS j = s
  | 0 => by simp [inN]
  | k + 1 => by
    rw [inN, Bool.or_eq_true, inN_iff s k, beq_iff_eq]
    constructor
    · rintro (⟨j, hj, hs⟩ | h)
      · exact ⟨j, by omega, hs⟩
      · exact ⟨k, by omega, tl_inj h⟩
    · rintro ⟨j, hj, hs⟩
      by_cases h : j = k
      · subst h; right; rw [hs]
      · left; exact ⟨j, by omega, hs⟩
theorem findN_iff (s : ByteArray) : ∀ k, k ≤ 12 → ((findN s k).isSome = true ↔ ∃ j, 12 - k ≤ j ∧ j < 12 ∧ nmS j = s)
  | 0, _ => by simp only [findN]; exact ⟨(fun h => by cases h), (fun ⟨j, h1, h2, _⟩ => by omega)⟩
  | k + 1, hk => by
    rw [findN]
    by_cases hs : nmS (11 - k) = s
    · rw [if_pos hs]
      exact ⟨fun _ => ⟨11 - k, by omega, by omega, hs⟩, fun _ => rfl⟩
    · rw [if_neg hs, findN_iff s k (by omega)]
      constructor
      · rintro ⟨j, h1, h2, h3⟩; exact ⟨j, by omega, h2, h3⟩
      · rintro ⟨j, h1, h2, h3⟩
        by_cases he : j = 11 - k
        · subst he; exact absurd h3 hs
        · exact ⟨j, by omega, h2, h3⟩
theorem inN_find (s : ByteArray) : inN s 12 = (findN s 12).isSome := by
  rw [Bool.eq_iff_iff, inN_iff, findN_iff s 12 (by decide)]
  exact ⟨fun ⟨j, h, h2⟩ => ⟨j, by omega, h, h2⟩, fun ⟨j, _, h, h2⟩ => ⟨j, h, h2⟩⟩
theorem nm_found (k : Nat) (h : k < 12) : (findN (nmS k) 12).isSome = true := (findN_iff _ 12 (by decide)).2 ⟨k, by omega, h, rfl⟩
theorem nm_less : ∀ k : Nat, k < 12 → k ≠ 0 → Op.bytesLess (nmS (k - 1)).toList (nmS k).toList = true := by decide +kernel
theorem clsN_lt (s : ByteArray) : clsN s < 2 ^ 256 := by
  obtain ⟨p, _, h⟩ := cls_is s
  rw [h]; exact col_lt _
set_option maxRecDepth 100000 in
set_option maxHeartbeats 4000000 in
theorem classes_walk (s : ByteArray) (w : World) (hT : Tab w) : Calls Tryd.prog 5 #[.string s] w fun e w' => e = .returned (.bool true) ∧ Below w.heap.size w w' := by
  have heq := eql_sv (clsN s) (clsN s) (clsN_lt s) (clsN_lt s)
  have hin := Lib.hid (inN_find s)
  go_enter Tryd.func5, Tryd.ntmps5
  go_wp2_with fail
  refine (awake02 _ hT).mono ?_
  rintro e w1 ⟨rfl, hb1⟩
  clear hT
  go_wp2_with fail
  refine (class_any s _).mono ?_
  rintro e w2 ⟨rfl, hb2⟩
  have hB2 := blw_then hb1 hb2
  clear hb1 hb2
  go_wp2_with fail
  refine (refClass_any s _).mono ?_
  rintro e w3 ⟨rfl, hb3⟩
  have hB3 := blw_then (blw_alloc hB2 _) hb3
  have HA := Lib.hid (show w3.heap[w2.heap.size]? = some (.cells (sc (clsN s)) 24 (0, 0)) from bk_below (bk_new w2 (.cells (sc (clsN s)) 24)) hb3)
  have hlt : w2.heap.size < w3.heap.size := bk_lt HA.out
  clear hb3
  go_wp2_with fail
  refine (names_any _).mono ?_
  rintro e w4 ⟨g, cap, rfl, hcell, hb4⟩
  have HB := Lib.hid (show w4.heap[w3.heap.size]? = some (.cells (sc (clsN s)) 24 (0, 0)) from bk_below (bk_new w3 (.cells (sc (clsN s)) 24)) hb4)
  have HA2 := Lib.hid (show w4.heap[w2.heap.size]? = some (.cells (sc (clsN s)) 24 (0, 0)) from bk_below (bk_alloc HA.out _) hb4)
  have hB4 := blw_then (blw_alloc hB3 _) hb4
  have HC := Lib.hid hcell
  clear hcell hb4 hB2 hB3
  go_wp2
  go_loopw [8, 9] (fun v i wr => ∃ k : Nat, k ≤ 12 ∧ i = .int .i64 k ∧ v = .bool (inN s k) ∧ Below w4.heap.size w4 wr) (fun _ i _ => 12 - (intOf i).toNat)
  case atStart => exact ⟨0, by omega, rfl, rfl, Below.refl _ _⟩
  case round =>
    obtain ⟨k, hk, rfl, rfl, hbel⟩ := hrel
    by_cases hlt : k < 12
    · have hc := cell_below hbel (HC.out k hlt)
      have hf := nm_found k hlt
      have HI : Hid (inN s (k + 1) = (inN s k || ((nmS k).toList == s.toList))) := Lib.hid rfl
      have hcls := refClass_any (nmS k)
      rw [hf] at hcls
      by_cases h0 : k = 0
      · subst h0
        generalize nmS 0 = nk at *
        generalize inN s 0 = b at *
        have hk0 : decide (0 < 0) = false := rfl
        cases hq : (nk.toList == s.toList) <;> cases b
        all_goals
          go_wp2_with fail
          refine (hcls _).mono ?_
          rintro e w5 ⟨rfl, hb5⟩
          have hcc := cell_below (blw_alloc hb5 (.cells #[.int .u64 (wd (clsN nk) 0), .int .u64 (wd (clsN nk) 1), .int .u64 (wd (clsN nk) 2), .int .u64 (wd (clsN nk) 3)] 24)) hc
          go_wp2
          go_quiet (fail)
          go_wp2
          go_roundw
          case rel => exact ⟨1, by omega, by go_num, by rw [HI.out, hq]; rfl, blw_drewN (blw_alloc (blw_then hbel hb5) _) _⟩
          case measure => simp [intOf]
      · have hc0 := cell_below hbel (HC.out (k - 1) (by omega))
        have hl := nm_less k hlt h0
        obtain ⟨j, hj⟩ : ∃ j, k - 1 = j := ⟨_, rfl⟩
        have hj12 : j < 12 := by omega
        rw [hj] at hc0 hl
        generalize nmS k = nk at *
        generalize nmS j = nk0 at *
        generalize inN s k = b at *
        cases hq : (nk.toList == s.toList) <;> cases b
        all_goals
          go_wp2_with fail
          refine (hcls _).mono ?_
          rintro e w5 ⟨rfl, hb5⟩
          have hcc := cell_below (blw_alloc hb5 (.cells #[.int .u64 (wd (clsN nk) 0), .int .u64 (wd (clsN nk) 1), .int .u64 (wd (clsN nk) 2), .int .u64 (wd (clsN nk) 3)] 24)) hc
          have hcc0 := cell_below (blw_alloc hb5 (.cells #[.int .u64 (wd (clsN nk) 0), .int .u64 (wd (clsN nk) 1), .int .u64 (wd (clsN nk) 2), .int .u64 (wd (clsN nk) 3)] 24)) hc0
          have hk0 : decide (0 < k) = true := decide_eq_true (by omega)
          have hk1 : IntKind.i64.wrap ((k : Int) - 1) = (j : Int) := by rw [IntWalk.i64_in _ (by omega)]; omega
          have hj2 : (j : Int) < 12 := by omega
          have hk2 : (k : Int) < 12 := by omega
          go_wp2
          go_quiet (fail)
          go_wp2
          go_roundw
          case rel => exact ⟨k + 1, by omega, by go_num, by rw [HI.out, hq]; rfl, blw_drewN (blw_alloc (blw_then hbel hb5) _) _⟩
          case measure => simp [intOf]; omega
    · have hk12 : k = 12 := by omega
      subst hk12
      have hA := bk_below HA2.out hbel
      have hB := bk_below HB.out hbel
      obtain ⟨a0, a1, a2, a3, af⟩ := sc_cells hA
      obtain ⟨b0, b1, b2, b3, bf⟩ := sc_cells hB
      rw [hin.out]
      go_wp2
      go_ret
      exact ⟨rfl, hB4.trans (Below.mono hbel hB4.size)⟩
end Go.Proofs.YtgeaebcchjmmjaaDoor
