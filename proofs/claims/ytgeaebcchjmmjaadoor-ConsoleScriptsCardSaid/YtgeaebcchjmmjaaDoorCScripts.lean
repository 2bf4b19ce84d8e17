/- The law ConsoleScripts: what the law's function answers. -/
import Derived.Test.YtgeaebcchjmmjaaDoorCText
import Derived.Test.YtgeaebcchjmmjaaDoorRScript
import Derived.Deep.RegionHeld3
namespace Go.Proofs.YtgeaebcchjmmjaaDoor
open Go.RowKit Go.Lib
theorem run_head (b : List UInt8) (hb : b.length ≤ 1000000) (w : World) : (Op.stringOp .add ⟨#[35, 32, 10, 10]⟩ (ba b)).run Tryd.prog w = .ok (.string (ba ([35, 32, 10, 10] ++ b))) w := run_cat [35, 32, 10, 10] b (by decide) hb w
set_option maxRecDepth 100000 in
set_option maxHeartbeats 16000000 in
theorem consoleScripts_walk (s : ByteArray) (hs : s.size ≤ 9223372036854775807) {v : Value} {rs : List Raw} {w : World} (h : RawsAt w v rs) (hi : ∀ r ∈ rs, ∀ n ∈ r.1, InI n) (hts : ∀ r ∈ rs, r.2.size ≤ 9223372036854775807) (henv : CEnv w) : Calls Tryd.prog 8 #[.string s, v] w fun e w' => e = .returned (.bool true) ∧ Below w.heap.size w w' := by
  obtain ⟨A0, cap0, rfl⟩ := raws_shape h
  have HA := Lib.hid (fun W hW => awake43_any W hW)
  have HF := Lib.hid (fun (W : World) (hW : RawsAt W (.slice A0 rs.length cap0) rs) => few_any (v := .slice A0 rs.length cap0) (rs := rs) (w := W) hW hts)
  have HR := Lib.hid h
  have HE := Lib.hid henv
  have hl12 := few_len rs
  have hok := few_ok rs hi
  generalize fewR rs = L at *
  have HK := Lib.hid hok
  obtain ⟨m, hm⟩ : ∃ m : Nat, min s.size 300 = m := ⟨_, rfl⟩
  have hm1 : m ≤ s.size := by omega
  have hm2 : m ≤ 300 := by omega
  have hmin : min (s.size : Int) 300 = (m : Int) := by omega
  have hps : (s.extract 0 m).size ≤ 300 := by rw [ByteArray.size_extract]; omega
  have hpl : ∀ l ∈ linL (s.extract 0 m).data.toList, l.length ≤ 900 := fun l hl => by
    have h1 := linL_small _ l hl
    have h2 : (s.extract 0 m).data.toList.length = (s.extract 0 m).size := rfl
    omega
  have HC := Lib.hid (fun W hW => consoleScript_any (s.extract 0 m) (by omega) hpl W hW)
  have HRS := Lib.hid (fun W => refScript_any (s.extract 0 m) (by omega) W)
  obtain ⟨⟨x, at0, bad0⟩, hq⟩ : ∃ q, scriptS (s.extract 0 m).data.toList = q := ⟨_, rfl⟩
  rw [hq] at HC HRS
  have hcs : ∀ W, (Instr.slice 9 (.string s) none (some (.int .i64 (m : Int))) none).run Tryd.prog W = .ok (.string (s.extract 0 m)) W := fun W => by
    go_simp
  clear h henv hts hi hok hm hps hpl hq
  go_enter Tryd.func8, Tryd.ntmps8
  go_wp2_with fail
  refine (HA.out _ HE.out).mono ?_
  rintro e w1 ⟨rfl, hb1⟩
  have HB1 := Lib.hid hb1
  have HR1 := Lib.hid (HR.out.below hb1)
  have HDR : Hid (Below w1.heap.size w1 w1.drew) := Lib.hid (blw_drew (Below.refl _ _))
  clear hb1
  go_wp2
  go_region_with ((go_at_call 25; refine (HF.out _ (HR1.out.below (by first | exact Below.refl _ _ | exact HDR.out))).mono ?_; rintro e w2 ⟨v2, rfl, hra, hb2⟩))
  all_goals
    have hb2' : Below w1.heap.size w1 w2 := ⟨hb2.os, hb2.tape, hb2.output, hb2.size, hb2.block⟩
    obtain ⟨A, cap, rfl⟩ := raws_shape hra
    have HRA := Lib.hid hra
    have HB2 := Lib.hid (blw_then HB1.out hb2')
    clear hra hb2 hb2'
    go_wp2_with fail
    first
      | refine (HC.out _ (HE.out.blw HB2.out)).mono ?_
      | refine (HC.out _ (HE.out.blw (blw_drew HB2.out))).mono ?_
    rintro e w3 ⟨v3, rfl, hr3, hb3⟩
    have hb3' : Below w2.heap.size w2 w3 := ⟨hb3.os, hb3.tape, hb3.output, hb3.size, hb3.block⟩
    obtain ⟨A3, c3, rfl⟩ := raws_shape hr3
    have HR3 := Lib.hid hr3
    have HRA3 := Lib.hid (HRA.out.below hb3')
    have HB3 := Lib.hid (blw_then HB2.out hb3')
    clear hr3 hb3 hb3'
    go_wp2_with fail
    refine (HRS.out _).mono ?_
    rintro e w4 ⟨v4, rfl, hr4, hb4⟩
    obtain ⟨A4, c4, rfl⟩ := raws_shape hr4
    have HR4 := Lib.hid hr4
    have HR34 := Lib.hid (HR3.out.below hb4)
    have HRA4 := Lib.hid (HRA3.out.below hb4)
    have HB4 := Lib.hid (blw_then HB3.out hb4)
    have HSM := Lib.hid (refSame43_any (v1 := .slice A3 x.length c3) (v2 := .slice A4 x.length c4) (rs := x) (w := w4) HR34.out HR4.out)
    clear hr4 hb4
    go_wp2_with fail
    refine (HSM.out).mono ?_
    rintro e w5 ⟨rfl, hb5⟩
    have HRA5 := Lib.hid (HRA4.out.below hb5)
    have HB5 := Lib.hid (blw_then HB4.out hb5)
    have HTX := Lib.hid (text_any (v := .slice A L.length cap) (rs := L) (w := w5) HRA5.out hl12 HK.out (HE.out.blw HB5.out))
    obtain ⟨⟨tx, at1, bad1⟩, htx⟩ : ∃ q, textS L = q := ⟨_, rfl⟩
    rw [htx] at HTX
    have HT := Lib.hid htx
    clear hb5 htx
    go_wp2_with fail
    refine (HTX.out).mono ?_
    rintro e w6 ⟨rfl, hb6⟩
    have HRA6 := Lib.hid (HRA5.out.below hb6)
    have HB6 := Lib.hid (blw_then HB5.out hb6)
    clear hb6
    by_cases hb0 : bad1 = 0
    · subst hb0
      have htk := text_ok L 0 [] (by have := HT.out; unfold textS at this; rw [this])
      have hw : tx = wrote L := by
        have h1 := htk.2
        have h2 := HT.out
        unfold textS at h2
        rw [h2] at h1
        simpa using h1
      subst hw
      have hall : ∀ r ∈ L, (lnR r).2 = 0 ∧ (∀ n ∈ r.1, InI n) ∧ r.2.size ≤ 30 := fun r hr => ⟨htk.1 r hr, HK.out r hr⟩
      have hwl := wrote_len L HK.out
      have hbk := script_back L (fun r hr => ⟨(hall r hr).1, (hall r hr).2.1⟩)
      have hll := lin_wrote_len L hall
      have hadd := run_head (wrote L) (by omega)
      have hsz : (ba ([35, 32, 10, 10] ++ wrote L)).size ≤ 100000 := by
        show ([35, 32, 10, 10] ++ wrote L).length ≤ 100000
        rw [List.length_append]; simp; omega
      have HC2 : Hid (∀ W, CEnv W → Calls Tryd.prog 29 #[.string (ba ([35, 32, 10, 10] ++ wrote L))] W (ScriptEnd (L, 0, 0) W)) := Lib.hid (fun W hW => by
        have := consoleScript_any (ba ([35, 32, 10, 10] ++ wrote L)) hsz hll W hW
        rwa [show (ba ([35, 32, 10, 10] ++ wrote L)).data.toList = [35, 32, 10, 10] ++ wrote L from rfl, hbk] at this)
      clear htk hall hwl hbk hll hsz HT
      generalize ba ([35, 32, 10, 10] ++ wrote L) = tt at *
      go_wp2_with fail
      refine (HC2.out _ (HE.out.blw HB6.out)).mono ?_
      rintro e w7 ⟨v7, rfl, hr7, hb7⟩
      obtain ⟨A7, c7, rfl⟩ := raws_shape hr7
      have HR7 := Lib.hid hr7
      have HRA7 := Lib.hid (HRA6.out.below hb7)
      have HB7 := Lib.hid (blw_then HB6.out hb7)
      have HSM2 := Lib.hid (refSame43_any (v1 := .slice A7 L.length c7) (v2 := .slice A L.length cap) (rs := L) (w := w7) HR7.out HRA7.out)
      clear hr7 hb7
      go_wp2_with fail
      refine (HSM2.out).mono ?_
      rintro e w8 ⟨rfl, hb8⟩
      go_wp2
      go_ret
      exact ⟨rfl, blw_then HB7.out hb8⟩
    · have hn1 : ((bad1 : Int) != 0) = true := by rw [bne_iff_ne]; omega
      clear hb0 HT
      go_wp2
      go_ret
      exact ⟨rfl, HB6.out⟩
end Go.Proofs.YtgeaebcchjmmjaaDoor
