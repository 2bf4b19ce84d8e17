/- The law ConsoleLines: what the law's function answers. -/
import Derived.Test.YtgeaebcchjmmjaaDoorCText
import Derived.Test.YtgeaebcchjmmjaaDoorFew
namespace Go.Proofs.YtgeaebcchjmmjaaDoor
open Go.RowKit Go.Lib
/-- What the law has added up before the k-th operation. -/
def sumR (L : List Raw) (k : Nat) : List UInt8 × Nat × Nat := addGo 0 ([], 0, 0) (L.take k)
theorem sumR_step (L : List Raw) (k : Nat) (r : Raw) (h : L[k]? = some r) : sumR L (k + 1) = addR k (sumR L k) r := by
  unfold sumR
  rw [addGo_step L k 0 _ r h, Nat.zero_add]
theorem text_sum (L : List Raw) : textS L = ((if (sumR L L.length).2.2 ≠ 0 then [] else (sumR L L.length).1), (sumR L L.length).2) := by
  unfold textS sumR
  rw [List.take_length]
  exact text_add L 0 []
theorem addR_bad (k : Nat) (st : List UInt8 × Nat × Nat) (r : Raw) (ln : List UInt8) (ne : Nat) (h : lnR r = (ln, ne)) : addR k st r = if ne = 0 then (st.1 ++ (ln ++ [10]), st.2) else if st.2.2 = 0 then (st.1, k + 1, ne) else st := by
  unfold addR
  rw [h]
set_option maxRecDepth 100000 in
set_option maxHeartbeats 16000000 in
theorem consoleLines_walk {v : Value} {rs : List Raw} {w : World} (h : RawsAt w v rs) (hi : ∀ r ∈ rs, ∀ n ∈ r.1, InI n) (hts : ∀ r ∈ rs, r.2.size ≤ 9223372036854775807) (henv : CEnv w) : Calls Tryd.prog 7 #[v] w fun e w' => e = .returned (.bool true) ∧ Below w.heap.size w w' := by
  obtain ⟨A0, cap0, rfl⟩ := raws_shape h
  have HA := Lib.hid (fun W hW => awake43_any W hW)
  have HF := Lib.hid (fun (W : World) (hW : RawsAt W (.slice A0 rs.length cap0) rs) => few_any (v := .slice A0 rs.length cap0) (rs := rs) (w := W) hW hts)
  have HR := Lib.hid h
  have HE := Lib.hid henv
  have hl12 := few_len rs
  have hok := few_ok rs hi
  generalize fewR rs = L at *
  have HK := Lib.hid hok
  clear h henv hts hi hok
  go_enter Tryd.func7, Tryd.ntmps7
  go_wp2_with fail
  refine (HA.out _ HE.out).mono ?_
  rintro e w1 ⟨rfl, hb1⟩
  have HB1 := Lib.hid hb1
  clear hb1
  go_wp2_with fail
  refine (HF.out _ (HR.out.below HB1.out)).mono ?_
  rintro e w2 ⟨v2, rfl, hra, hb2⟩
  obtain ⟨A, cap, rfl⟩ := raws_shape hra
  have HRA := Lib.hid hra
  have HB2 := Lib.hid (blw_then HB1.out hb2)
  clear hra hb2
  go_wp2
  go_loopw [3, 4, 5, 6] (fun v at_ bad i wr => ∃ (k : Nat), k ≤ L.length ∧ i = .int .i64 (k : Int) ∧ (sumR L k).1.length ≤ 401 * k ∧ v = .string (ba (sumR L k).1) ∧ at_ = .int .i64 ((sumR L k).2.1 : Int) ∧ bad = .int .i64 ((sumR L k).2.2 : Int) ∧ Below w2.heap.size w2 wr) (fun _ _ _ i _ => L.length - (RowKit.intOf i).toNat)
  case atStart => exact ⟨0, by omega, rfl, by simp [sumR, addGo], rfl, rfl, rfl, Below.refl _ _⟩
  case round =>
    obtain ⟨k, hk, rfl, hsl, rfl, rfl, rfl, hbel⟩ := hrel
    have HB := Lib.hid hbel
    have hszr := hbel.size
    clear hbel
    by_cases hlt : k < L.length
    · obtain ⟨r, hr⟩ : ∃ r, L[k]? = some r := ⟨L[k], List.getElem?_eq_getElem hlt⟩
      obtain ⟨b, o, rfl, hbl, hra⟩ := raws_at HRA.out hr
      have HRK := Lib.hid (hra.below HB.out)
      obtain ⟨hin, hts⟩ := HK.out r (List.mem_of_getElem? hr)
      have hll := ln_len r hin hts
      have hrd := ln_read r hin
      have hstep := sumR_step L k r hr
      obtain ⟨ns, t⟩ := r
      obtain ⟨vn, hc0, hia, hc1⟩ := HRK.out
      obtain ⟨An, cn, rfl⟩ := ints_shape hia
      simp only at hc0 hc1 hia hin hts
      have HIA := Lib.hid hia
      have HLN := Lib.hid (fun (W : World) (h1 : IntsAt W (.slice An ns.length cn) ns) (h2 : CEnv W) => consoleLine_any (v := .slice An ns.length cn) (ns := ns) t (w := W) h1 (by omega) h2)
      have HRL := Lib.hid (fun (W : World) (h1 : IntsAt W (.slice An ns.length cn) ns) => refLine_any (v := .slice An ns.length cn) (ns := ns) t (w := W) h1 (by omega))
      have hln : lineS ns t.data.toList = lnR (ns, t) := rfl
      rw [hln] at HLN HRL
      obtain ⟨⟨ln, ne⟩, hlr⟩ : ∃ p, lnR (ns, t) = p := ⟨_, rfl⟩
      rw [hlr] at HLN HRL hll hrd
      simp only at hll hrd
      rw [addR_bad k _ _ ln ne hlr] at hstep
      obtain ⟨⟨W0, at0, bad0⟩, hst0⟩ : ∃ p, sumR L k = p := ⟨_, rfl⟩
      rw [hst0] at hstep hsl ⊢
      simp only at hstep hsl ⊢
      have HST := Lib.hid hstep
      have hlti : (k : Int) < (L.length : Int) := by omega
      have hbl1 : b < wr.heap.size := by omega
      have hseq : ((ba ln).toList == (ba ln).toList) = true := beq_self_eq_true _
      clear hln hlr hr hra hia hst0 hstep
      go_wp2_with fail
      refine (HLN.out _ HIA.out ((HE.out.blw HB2.out).blw HB.out)).mono ?_
      rintro e w3 ⟨rfl, hb3⟩
      have HB3 := Lib.hid (blw_then HB.out hb3)
      have HIA3 := Lib.hid (HIA.out.below hb3)
      have d0 := cell_below hb3 hc0
      have d1 := cell_below hb3 hc1
      clear hb3 hc0 hc1
      go_wp2_with fail
      refine (HRL.out _ HIA3.out).mono ?_
      rintro e w4 ⟨rfl, hb4⟩
      have HB4 := Lib.hid (blw_then HB3.out hb4)
      have HIA4 := Lib.hid (HIA3.out.below hb4)
      have e0 := cell_below hb4 d0
      have e1 := cell_below hb4 d1
      have hsz4 := HB4.out.size
      clear hb4 d0 d1
      by_cases hne : ne = 0
      · subst hne
        have HRD := Lib.hid (hrd rfl)
        have HCR := Lib.hid (fun W hW => consoleRead_any (ba ln) (show ln.length ≤ 900 by omega) W hW)
        have hbd : (ba ln).data.toList = ln := rfl
        rw [hbd, HRD.out] at HCR
        have HST2 : Hid (sumR L (k + 1) = (W0 ++ (ln ++ [10]), at0, bad0)) := Lib.hid (by have := HST.out; rwa [if_pos rfl] at this)
        have had1 := fun w => run_cat ln [10] (by omega) (by decide) w
        have had2 : ∀ w, (Op.stringOp .add (ba W0) (ba (ln ++ [10]))).run Tryd.prog w = .ok (.string (ba (W0 ++ (ln ++ [10])))) w := fun w => run_cat W0 (ln ++ [10]) (by omega) (by rw [List.length_append]; simp; omega) w
        clear hbd hrd
        go_wp2_with fail
        refine (HCR.out _ ((HE.out.blw HB2.out).blw HB4.out)).mono ?_
        rintro e w5 ⟨v5, rfl, hro, hb5⟩
        obtain ⟨A5, c5, rfl⟩ := ints_shape hro.ints
        have HI5 := Lib.hid hro.ints
        have HB5 := Lib.hid (blw_then HB4.out hb5)
        have HIA5 := Lib.hid (HIA4.out.below hb5)
        have f0 := cell_below hb5 e0
        have f1 := cell_below hb5 e1
        have hsz5 := HB5.out.size
        have hbl5 : b < w5.heap.size := by omega
        have HSM := Lib.hid (fun (W : World) (h1 : IntsAt W (.slice A5 ns.length c5) ns) (h2 : IntsAt W (.slice An ns.length cn) ns) => refSame_any (v1 := .slice A5 ns.length c5) (v2 := .slice An ns.length cn) (ns := ns) t (w := W) h1 h2)
        have hbt : ba t.data.toList = t := rfl
        rw [hbt]
        clear hro hb5 e0 e1 hbt
        have HX6 := Lib.hid (bk_new w5 (.cells #[.slice A5 ns.length c5, .string t] 42))
        have HI6 := Lib.hid (HI5.out.below (blw_alloc (Below.refl _ _) (.cells #[.slice A5 ns.length c5, .string t] 42)))
        have HIA6 := Lib.hid (HIA5.out.below (blw_alloc (Below.refl _ _) (.cells #[.slice A5 ns.length c5, .string t] 42)))
        have HB6 := Lib.hid (blw_alloc HB5.out (.cells #[.slice A5 ns.length c5, .string t] 42))
        have g0 := cell_below (blw_alloc (Below.refl w5.heap.size w5) (.cells #[.slice A5 ns.length c5, .string t] 42)) f0
        have g1 := cell_below (blw_alloc (Below.refl w5.heap.size w5) (.cells #[.slice A5 ns.length c5, .string t] 42)) f1
        obtain ⟨x0, x1, xf⟩ := cells2 HX6.out
        have hsz6 : w5.heap.size < (w5.alloc (.cells #[.slice A5 ns.length c5, .string t] 42)).heap.size := by simp
        clear f0 f1 xf
        go_wp2
        generalize w5.alloc (.cells #[.slice A5 ns.length c5, .string t] 42) = w6 at *
        have hk0 : (0 : Int) ≤ (k : Int) := by omega
        have hdr : Below w6.heap.size w6 w6.drew := blw_drew (Below.refl _ _)
        have HDR := Lib.hid hdr
        clear hdr
        go_region_with ((go_at_call 24; refine (HSM.out _ (HI6.out.below (by first | exact Below.refl _ _ | exact HDR.out)) (HIA6.out.below (by first | exact Below.refl _ _ | exact HDR.out))).mono ?_; rintro e w7 ⟨rfl, hb7⟩))
        all_goals
          have HB7 : Hid (Below w2.heap.size w2 w7) := Lib.hid (blw_then (by first | exact HB6.out | exact blw_drew HB6.out) hb7)
          clear hb7
          go_wp2
          go_roundw
          case rel =>
            refine ⟨k + 1, by omega, by go_num, ?_, ?_, ?_, ?_, HB7.out⟩
            · rw [HST2.out]; simp only [List.length_append, List.length_singleton]; omega
            · rw [HST2.out]
            · rw [HST2.out]
            · rw [HST2.out]
          case measure => simp [RowKit.intOf]; omega
      · have hn1 : ((ne : Int) != 0) = true := by rw [bne_iff_ne]; omega
        have HST2 := HST.out
        rw [if_neg hne] at HST2
        by_cases hb0 : bad0 = 0
        · have hb1 : ((bad0 : Int) == 0) = true := by rw [beq_iff_eq]; omega
          have HST3 : Hid (sumR L (k + 1) = (W0, k + 1, ne)) := Lib.hid (by rw [HST2, if_pos hb0])
          clear HST2 hb0 hne hrd
          go_wp2
          go_roundw
          case rel =>
            refine ⟨k + 1, by omega, by go_num, ?_, ?_, ?_, ?_, HB4.out⟩
            · rw [HST3.out]; simp only; omega
            · rw [HST3.out]
            · rw [HST3.out]; simp
            · rw [HST3.out]
          case measure => simp [RowKit.intOf]; omega
        · have hb1 : ((bad0 : Int) == 0) = false := by rw [beq_eq_false_iff_ne]; omega
          have HST3 : Hid (sumR L (k + 1) = (W0, at0, bad0)) := Lib.hid (by rw [HST2, if_neg hb0])
          clear HST2 hb0 hne hrd
          go_wp2
          go_roundw
          case rel =>
            refine ⟨k + 1, by omega, by go_num, ?_, ?_, ?_, ?_, HB4.out⟩
            · rw [HST3.out]; simp only; omega
            · rw [HST3.out]
            · rw [HST3.out]
            · rw [HST3.out]
          case measure => simp [RowKit.intOf]; omega
    · have hke : k = L.length := by omega
      have hlti : ¬ (k : Int) < (L.length : Int) := by omega
      have htx := text_sum L
      rw [← hke] at htx
      have HTX := Lib.hid (text_any (v := .slice A L.length cap) (rs := L) (w := wr) (HRA.out.below HB.out) hl12 HK.out ((HE.out.blw HB2.out).blw HB.out))
      obtain ⟨⟨W0, at0, bad0⟩, hst0⟩ : ∃ p, sumR L k = p := ⟨_, rfl⟩
      rw [hst0] at htx hsl ⊢
      rw [htx] at HTX
      simp only at HTX hsl ⊢
      clear hst0 htx hke hlt
      by_cases hb0 : bad0 = 0
      · subst hb0
        have HTX2 : Hid (Calls Tryd.prog 28 #[.slice A L.length cap] wr (TextEnd (W0, at0, 0) wr)) := Lib.hid (by have := HTX.out; simpa using this)
        have hseq : ((ba W0).toList == (ba W0).toList) = true := beq_self_eq_true _
        clear HTX
        go_wp2_with fail
        refine (HTX2.out).mono ?_
        rintro e w3 ⟨rfl, hb3⟩
        go_wp2
        go_ret
        exact ⟨rfl, blw_then (blw_then HB2.out HB.out) hb3⟩
      · have hb1 : ((bad0 : Int) != 0) = true := by rw [bne_iff_ne]; omega
        have HTX2 : Hid (Calls Tryd.prog 28 #[.slice A L.length cap] wr fun e w' => e = .returned (.tuple #[.string ⟨#[]⟩, .int .i64 at0, .int .i64 bad0]) ∧ Below wr.heap.size wr w') := Lib.hid (by have := HTX.out; rw [if_pos hb0] at this; exact this)
        clear HTX hb0
        go_wp2_with fail
        refine (HTX2.out).mono ?_
        rintro e w3 ⟨rfl, hb3⟩
        go_wp2
        go_ret
        exact ⟨rfl, blw_then (blw_then HB2.out HB.out) hb3⟩
end Go.Proofs.YtgeaebcchjmmjaaDoor
