/- The law ConsoleReads: what awake and the law's function answer. -/
import Derived.Test.YtgeaebcchjmmjaaDoorRRead
import Derived.Test.YtgeaebcchjmmjaaDoorSameRef
namespace Go.Proofs.YtgeaebcchjmmjaaDoor
open Go.RowKit Go.Lib
theorem nm_no (k : Int) (h : okO k = true) : ∀ c ∈ (nmO k).data.toList, c ≠ 32 := by
  have hk : 1 ≤ k ∧ k ≤ 24 := by unfold okO at h; simpa using h
  have hall : ∀ i : Nat, i < 24 → ((opN i).data.toList.all fun c => c != 32) = true := by decide +kernel
  unfold nmO
  rw [h, if_pos rfl]
  intro c hc
  have := List.all_eq_true.1 (hall (k - 1).toNat (by omega)) c hc
  simpa using this
/-- A line that was made is read as what it was made from. -/
theorem read_line (k : Int) (ms : List Int) (t : List UInt8) (he : ofE (k :: ms) (ba t) = 0) (hi : ∀ n ∈ ms, InI n) : readS (lineL (nmO k).data.toList ms t) = (k :: ms, t, 0) := by
  obtain ⟨_, hok, _⟩ := ofE_len he
  have hk : 1 ≤ k ∧ k ≤ 24 := by unfold okO at hok; simpa using hok
  have hw : wdsL (lineL (nmO k).data.toList ms t) = (nmO k).data.toList :: (ms.map itoa ++ txW t) := wds_join _ (by simp [lineW]) (lineW_no _ (nm_no k hok) ms t)
  rw [readS_at hw, ba_data]
  have hkd : kindN (nmO k) = (k - 1).toNat + 1 := by
    refine (kindN_of _ (k - 1).toNat (by omega)).1 ?_
    unfold nmO
    rw [hok, if_pos rfl]
  have hkk : ((kindN (nmO k) : Nat) : Int) = k := by rw [hkd]; omega
  rw [if_neg (by omega), hkk, wordsP_line ms [k] t hi]
  show (if ofE (k :: ms) (ba t) = 0 then _ else _) = _
  rw [if_pos he]
  rfl
theorem next_line : lineL (nmO 9).data.toList [2, 5] [] = [110, 101, 120, 116, 32, 50, 32, 53] := by
  have h2 : itoa 2 = [50] := by unfold itoa; rw [if_neg (by decide), decDigits, dif_pos (by decide)]; rfl
  have h5 : itoa 5 = [53] := by unfold itoa; rw [if_neg (by decide), decDigits, dif_pos (by decide)]; rfl
  unfold lineL lineW
  rw [List.map_cons, List.map_cons, List.map_nil, h2, h5]
  rfl
theorem awake_yes : readS [110, 101, 120, 116, 32, 50, 32, 53] = ([9, 2, 5], [], 0) := by
  rw [← next_line]
  exact read_line 9 [2, 5] [] (by decide +kernel) (by intro n hn; simp at hn; rcases hn with rfl | rfl <;> constructor <;> decide)
theorem awake_line : lineS [9, 2, 5] [] = ([110, 101, 120, 116, 32, 50, 32, 53], 0) := by
  show (if ofE [9, 2, 5] (ba []) = 0 then (lineL (nmO 9).data.toList [2, 5] [], 0) else ([], ofE [9, 2, 5] (ba []))) = _
  rw [if_pos (by decide +kernel), next_line]
theorem awake_no : readS [110, 101, 120, 116, 32, 32, 50, 32, 53] = ([], [], 3) := by
  rw [readS_at (s := [110, 101, 120, 116, 32, 32, 50, 32, 53]) (w0 := [110, 101, 120, 116]) (rest := [[], [50], [53]]) (by decide +kernel)]
  have hk : kindN (ba [110, 101, 120, 116]) = 9 := by decide +kernel
  rw [hk, if_neg (by decide)]
  rfl
set_option maxRecDepth 100000 in
set_option maxHeartbeats 4000000 in
theorem awake43_any (w : World) (henv : CEnv w) : Calls Tryd.prog 21 #[] w fun e w' => e = .returned (.bool true) ∧ Below w.heap.size w w' := by
  have h1 := fun (W : World) (hW : CEnv W) => consoleRead_any ⟨#[110, 101, 120, 116, 32, 50, 32, 53]⟩ (by decide) W hW
  have h2 := fun (W : World) (hW : CEnv W) => consoleRead_any ⟨#[110, 101, 120, 116, 32, 32, 50, 32, 53]⟩ (by decide) W hW
  rw [show (⟨#[110, 101, 120, 116, 32, 50, 32, 53]⟩ : ByteArray).data.toList = [110, 101, 120, 116, 32, 50, 32, 53] from rfl, awake_yes] at h1
  rw [show (⟨#[110, 101, 120, 116, 32, 32, 50, 32, 53]⟩ : ByteArray).data.toList = [110, 101, 120, 116, 32, 32, 50, 32, 53] from rfl, awake_no] at h2
  have H1 := Lib.hid h1
  have H2 := Lib.hid h2
  have HE := Lib.hid henv
  clear h1 h2 henv
  go_enter Tryd.func21, Tryd.ntmps21
  go_wp2_with fail
  refine (H1.out _ HE.out).mono ?_
  rintro e w1 ⟨v, rfl, hro, hb1⟩
  have hia := hro.ints
  clear hro
  obtain ⟨A, cap, rfl⟩ := ints_shape hia
  have HIA := Lib.hid hia
  have HB1 := Lib.hid hb1
  obtain ⟨b, o, rfl, _, _, hc9, hbl, hcm⟩ := ints_cons hia
  have hc2 := hcm 0 2 rfl
  have HL := Lib.hid (fun (W : World) (hI : IntsAt W (.slice (some ⟨b, o, none⟩) 3 cap) [9, 2, 5]) (hW : CEnv W) => consoleLine_any (v := .slice (some ⟨b, o, none⟩) 3 cap) (ns := [9, 2, 5]) (ba []) (w := W) hI (by decide) hW)
  rw [show (ba []).data.toList = [] from rfl, awake_line] at HL
  have HL2 : Hid (∀ (W : World), IntsAt W (.slice (some ⟨b, o, none⟩) 3 cap) [9, 2, 5] → CEnv W → Calls Tryd.prog 26 #[.agg #[.slice (some ⟨b, o, none⟩) 3 cap, .string (ba [])]] W fun e w' => e = .returned (.tuple #[.string ⟨#[110, 101, 120, 116, 32, 50, 32, 53]⟩, .int .i64 0]) ∧ Below W.heap.size W w') := Lib.hid HL.out
  have hbl1 : b < w1.heap.size := hbl
  have hle : (([9, 2, 5] : List Int).length : Int) = 3 := rfl
  clear hia hb1 hcm hc9 hbl
  go_wp2_with fail
  refine (HL2.out _ (HIA.out.below (blw_alloc (Below.refl _ _) _)) ((HE.out.blw HB1.out).blw (blw_alloc (Below.refl _ _) _))).mono ?_
  rintro e w2 ⟨rfl, hb2⟩
  have HB2 := Lib.hid hb2
  have hc2b := cell_below hb2 (cell_below (blw_alloc (Below.refl _ _) _) hc2)
  have HX2 := Lib.hid (bk_below (bk_new w1 (.cells #[.slice (some ⟨b, o, none⟩) 3 cap, .string (ba [])] 42)) hb2)
  clear hb2
  go_wp2_with fail
  refine (H2.out _ (((HE.out.blw HB1.out).blw (blw_alloc (Below.refl _ _) _)).blw HB2.out)).mono ?_
  rintro e w3 ⟨v3, rfl, hro3, hb3⟩
  have hia3 := hro3.ints
  clear hro3
  have hv3 : v3 = .slice none 0 0 ∨ ∃ A c, v3 = .slice A 0 c := by
    obtain ⟨A, c, h⟩ := ints_shape hia3
    exact .inr ⟨A, c, h⟩
  obtain ⟨A3, c3, rfl⟩ := ints_shape hia3
  have hc3 := cell_below hb3 hc2b
  have HX3 := Lib.hid (bk_below HX2.out hb3)
  have HB3 := Lib.hid (blw_then (blw_then (blw_alloc HB1.out _) HB2.out) hb3)
  obtain ⟨x0, x1, xf⟩ := cells2 HX3.out
  have hlt3 := bk_lt HX3.out
  have hs3 : w1.heap.size ≤ w3.heap.size := by omega
  have hb3' : b < w3.heap.size := by omega
  clear hb3 hv3 hia3 hc2 hc2b
  go_wp2
  go_ret
  exact ⟨rfl, blw_alloc HB3.out _⟩
set_option maxRecDepth 100000 in
set_option maxHeartbeats 4000000 in
theorem consoleReads_walk (s : ByteArray) (hs : s.size ≤ 9223372036854775807) (w : World) (henv : CEnv w) : Calls Tryd.prog 6 #[.string s] w fun e w' => e = .returned (.bool true) ∧ Below w.heap.size w w' := by
  have HA := Lib.hid (fun W hW => awake43_any W hW)
  have HE := Lib.hid henv
  clear henv
  obtain ⟨m, hm⟩ : ∃ m : Nat, min s.size 100 = m := ⟨_, rfl⟩
  have hm1 : m ≤ s.size := by omega
  have hm2 : m ≤ 100 := by omega
  have hmin : min (s.size : Int) 100 = (m : Int) := by omega
  have hps : (s.extract 0 m).size ≤ 900 := by rw [ByteArray.size_extract]; omega
  have HC := Lib.hid (fun W hW => consoleRead_any (s.extract 0 m) hps W hW)
  have HR := Lib.hid (fun W => refRead_all (s.extract 0 m) hps W)
  generalize readS (s.extract 0 m).data.toList = r at *
  obtain ⟨ns, t, n⟩ := r
  clear hm hps
  go_enter Tryd.func6, Tryd.ntmps6
  go_wp2_with fail
  refine (HA.out _ HE.out).mono ?_
  rintro e w1 ⟨rfl, hb1⟩
  have HB1 := Lib.hid hb1
  clear hb1
  go_wp2_with fail
  refine (HC.out _ (HE.out.blw HB1.out)).mono ?_
  rintro e w2 ⟨v2, rfl, hro2, hb2⟩
  have hia2 := hro2.ints
  clear hro2
  obtain ⟨A2, c2, rfl⟩ := ints_shape hia2
  have HI2 := Lib.hid hia2
  have HB2 := Lib.hid (blw_then HB1.out hb2)
  clear hia2 hb2
  go_wp2_with fail
  refine (HR.out _).mono ?_
  rintro e w3 ⟨v3, rfl, hro3, hb3⟩
  have hia3 := hro3.ints
  clear hro3
  obtain ⟨A3, c3, rfl⟩ := ints_shape hia3
  have HI3 := Lib.hid hia3
  have HX3 := Lib.hid (bk_below (bk_new w2 (.cells #[.slice A2 ns.length c2, .string (ba t)] 42)) hb3)
  have HI23 := Lib.hid ((HI2.out.below (blw_alloc (Below.refl _ _) _)).below hb3)
  have HB3 := Lib.hid (blw_then (blw_alloc HB2.out _) hb3)
  have HSM := Lib.hid (fun (W : World) (h1 : IntsAt W (.slice A2 ns.length c2) ns) (h2 : IntsAt W (.slice A3 ns.length c3) ns) => refSame_any (v1 := .slice A2 ns.length c2) (v2 := .slice A3 ns.length c3) (ns := ns) (ba t) (w := W) h1 h2)
  obtain ⟨x0, x1, xf⟩ := cells2 HX3.out
  have hlt3 := bk_lt HX3.out
  clear hia3 hb3
  go_wp2_with fail
  refine (HSM.out _ (HI23.out.below (blw_alloc (Below.refl _ _) _)) (HI3.out.below (blw_alloc (Below.refl _ _) _))).mono ?_
  rintro e w4 ⟨rfl, hb4⟩
  go_wp2
  go_ret
  exact ⟨rfl, blw_then (blw_alloc HB3.out _) hb4⟩
end Go.Proofs.YtgeaebcchjmmjaaDoor
