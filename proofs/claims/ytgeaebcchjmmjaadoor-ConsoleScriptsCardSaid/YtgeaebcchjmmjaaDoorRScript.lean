/- What Script and Same of the page's layer 43 answer. -/
import Derived.Test.YtgeaebcchjmmjaaDoorCScript
namespace Go.Proofs.YtgeaebcchjmmjaaDoor
open Go.RowKit Go.Lib
theorem linF_zero (s : ByteArray) (k fr : Nat) : linF s 0 k fr = [s.extract fr s.size] := rfl
theorem linF_cut (s : ByteArray) (f k fr : Nat) (h : bat s k = 10) : linF s (f + 1) k fr = s.extract fr k :: linF s f (k + 1) (k + 1) := by rw [linF, if_pos h]
theorem linF_on (s : ByteArray) (f k fr : Nat) (h : bat s k ≠ 10) : linF s (f + 1) k fr = linF s f (k + 1) fr := by rw [linF, if_neg h]
theorem linF_mem (s : ByteArray) (k fr f : Nat) (l : ByteArray) (hf : f + k = s.size) (hfr : fr ≤ k) (hl : l ∈ linF s f k fr) : ∃ a b, l = s.extract a b := by
  induction f generalizing k fr with
  | zero => rw [linF_zero] at hl; exact ⟨_, _, List.mem_singleton.1 hl⟩
  | succ f ih =>
    by_cases h : bat s k = 10
    · rw [linF_cut _ _ _ _ h] at hl
      rcases List.mem_cons.1 hl with rfl | hl
      · exact ⟨_, _, rfl⟩
      · exact ih (k + 1) (k + 1) (by omega) (Nat.le_refl _) hl
    · rw [linF_on _ _ _ _ h] at hl
      exact ih (k + 1) fr (by omega) (by omega) hl
set_option maxRecDepth 100000 in
set_option maxHeartbeats 8000000 in
theorem refScript_any (s : ByteArray) (hs : s.size ≤ 800) (w : World) : Calls Tryd.prog 30 #[.string s] w (ScriptEnd (scriptS s.data.toList) w) := by
  obtain ⟨q, hq⟩ : ∃ q, scriptS s.data.toList = q := ⟨_, rfl⟩
  rw [hq]
  have HQ : Hid (scriptGo 0 [] (dls (linF s s.size 0 0)) = q) := Lib.hid (by rw [lin_list]; exact hq)
  clear hq
  go_enter Tryd.func30, Tryd.ntmps30
  go_wp2
  go_loopw [5, 6, 7, 8] (fun v frm lnn i wr => ∃ (k fr ln n : Nat) (acc : List Raw) (xs : List Value), k ≤ s.size + 1 ∧ fr ≤ k ∧ ln ≤ k ∧ n ≤ k ∧ acc.length = n ∧ i = .int .i64 (k : Int) ∧ frm = .int .i64 (fr : Int) ∧ lnn = .int .i64 (ln : Int) ∧ wr.ownsRow w.heap.size 42 2 v n xs ∧ RawOwns w.heap.size wr xs acc ∧
    ((k ≤ s.size ∧ scriptGo ln acc (dls (linF s (s.size - k) k fr)) = q) ∨ (k = s.size + 1 ∧ q = (acc, 0, 0))) ∧ Below w.heap.size w wr) (fun _ _ _ i _ => s.size + 1 - (RowKit.intOf i).toNat)
  case atStart => exact ⟨0, 0, 0, 0, [], [], by omega, by omega, by omega, by omega, rfl, rfl, rfl, rfl, World.ownsRow_nil _ _ _ _, RawOwns.nil _ _, .inl ⟨by omega, HQ.out⟩, Below.refl _ _⟩
  case round =>
    obtain ⟨k, fr, ln, n, acc, xs, hk, hfr, hlnk, hnk, han, rfl, rfl, rfl, hown, hro, hgo, hbel⟩ := hrel
    have HO := Lib.hid hown
    have HRO := Lib.hid hro
    have HB := Lib.hid hbel
    have HAN := Lib.hid han
    have hszr := hbel.size
    clear hown hro hbel han
    by_cases hlt : k ≤ s.size
    · have hgo2 : scriptGo ln acc (dls (linF s (s.size - k) k fr)) = q := by
        rcases hgo with ⟨_, h⟩ | ⟨h, _⟩
        · exact h
        · omega
      clear hgo
      have hlei : (k : Int) ≤ (s.size : Int) := by omega
      by_cases hon : k < s.size ∧ bat s k ≠ 10
      · obtain ⟨hk1, hne⟩ := hon
        have hlti : (k : Int) < (s.size : Int) := by omega
        have HG : Hid (scriptGo ln acc (dls (linF s (s.size - (k + 1)) (k + 1) fr)) = q) := Lib.hid (by
          rw [show s.size - k = (s.size - (k + 1)) + 1 by omega, linF_on _ _ _ _ hne] at hgo2
          exact hgo2)
        have hix := run_ix s k hk1
        have hnb : ((bat s k : Int) != 10) = true := by rw [bne_iff_ne]; omega
        generalize bat s k = c at *
        clear hgo2 hne
        go_wp2
        go_roundw
        case rel => exact ⟨k + 1, fr, ln, n, acc, xs, by omega, by omega, by omega, by omega, HAN.out, by go_num, rfl, rfl, HO.out, HRO.out, .inl ⟨by omega, HG.out⟩, HB.out⟩
        case measure => simp [RowKit.intOf]; omega
      · have hend : ¬ k < s.size ∨ (k < s.size ∧ bat s k = 10) := by
          by_cases h : k < s.size
          · exact .inr ⟨h, by
              rcases Nat.decEq (bat s k) 10 with h2 | h2
              · exact absurd ⟨h, h2⟩ hon
              · exact h2⟩
          · exact .inl h
        obtain ⟨rest, hrest1, hrest2⟩ : ∃ rest : List (List UInt8), scriptGo ln acc ((s.extract fr k).data.toList :: rest) = q ∧ ∀ ac, scriptGo (ln + 1) ac rest = q → ((k + 1 ≤ s.size ∧ scriptGo (ln + 1) ac (dls (linF s (s.size - (k + 1)) (k + 1) (k + 1))) = q) ∨ (k + 1 = s.size + 1 ∧ q = (ac, 0, 0))) := by
          rcases hend with h | ⟨h, h10⟩
          · have hke : k = s.size := by omega
            refine ⟨[], ?_, fun ac h2 => .inr ⟨by omega, h2.symm⟩⟩
            rw [← hgo2, hke, Nat.sub_self, linF_zero]
            rfl
          · refine ⟨dls (linF s (s.size - (k + 1)) (k + 1) (k + 1)), ?_, fun ac h2 => .inl ⟨by omega, h2⟩⟩
            rw [← hgo2, show s.size - k = (s.size - (k + 1)) + 1 by omega, linF_cut _ _ _ _ h10]
            rfl
        have HR1 := Lib.hid hrest1
        have HR2 := Lib.hid hrest2
        have hxs : (s.extract fr k).size ≤ 800 := by rw [ByteArray.size_extract]; omega
        have hsl : ∀ W, (Instr.slice 9 (.string s) (some (.int .i64 (fr : Int))) (some (.int .i64 (k : Int))) none).run Tryd.prog W = .ok (.string (s.extract fr k)) W := fun W => by
          have := run_slice_string (P := Tryd.prog) W 9 s .i64 .i64 fr (k : Int) Tryd.underlying9 (by omega) (by omega) (by omega)
          rw [this]
          rfl
        clear hrest1 hrest2 hgo2 hon
        generalize s.extract fr k = x at *
        have hsk := skip_bat x
        have hgo := HR1.out
        rw [scriptGo] at hgo
        by_cases hsk1 : skipL x.data.toList = true
        · rw [if_pos hsk1] at hgo
          have HG := Lib.hid (HR2.out _ hgo)
          have hcase := hsk.1 hsk1
          clear hgo hsk hsk1 HR1 HR2
          rcases hcase with h0 | ⟨h0, h35⟩
          · have hb0 : ((x.size : Int) == 0) = true := by rw [beq_iff_eq]; omega
            clear h0
            rcases hend with h | ⟨h, h10⟩
            · have hlti : ¬ (k : Int) < (s.size : Int) := by omega
              go_wp2
              go_roundw
              case rel => exact ⟨k + 1, k + 1, ln + 1, n, acc, xs, by omega, by omega, by omega, by omega, HAN.out, by go_num, by go_num, by go_num, HO.out, HRO.out, HG.out, HB.out⟩
              case measure => simp [RowKit.intOf]; omega
            · have hlti : (k : Int) < (s.size : Int) := by omega
              have hix := run_ix s k h
              rw [h10] at hix
              simp only [Int.cast_ofNat_Int] at hix
              clear h10
              go_wp2
              go_roundw
              case rel => exact ⟨k + 1, k + 1, ln + 1, n, acc, xs, by omega, by omega, by omega, by omega, HAN.out, by go_num, by go_num, by go_num, HO.out, HRO.out, HG.out, HB.out⟩
              case measure => simp [RowKit.intOf]; omega
          · have hb0 : ((x.size : Int) == 0) = false := by rw [beq_eq_false_iff_ne]; omega
            have hixx := run_ix x 0 h0
            rw [h35] at hixx
            simp only [Int.cast_ofNat_Int] at hixx
            clear h35
            rcases hend with h | ⟨h, h10⟩
            · have hlti : ¬ (k : Int) < (s.size : Int) := by omega
              go_wp2
              go_roundw
              case rel => exact ⟨k + 1, k + 1, ln + 1, n, acc, xs, by omega, by omega, by omega, by omega, HAN.out, by go_num, by go_num, by go_num, HO.out, HRO.out, HG.out, HB.out⟩
              case measure => simp [RowKit.intOf]; omega
            · have hlti : (k : Int) < (s.size : Int) := by omega
              have hix := run_ix s k h
              rw [h10] at hix
              simp only [Int.cast_ofNat_Int] at hix
              clear h10
              go_wp2
              go_roundw
              case rel => exact ⟨k + 1, k + 1, ln + 1, n, acc, xs, by omega, by omega, by omega, by omega, HAN.out, by go_num, by go_num, by go_num, HO.out, HRO.out, HG.out, HB.out⟩
              case measure => simp [RowKit.intOf]; omega
        · rw [if_neg hsk1] at hgo
          have h0 : 0 < x.size := by
            rcases Nat.eq_zero_or_pos x.size with h | h
            · exact absurd (hsk.2 (.inl h)) hsk1
            · exact h
          have h35 : ((bat x 0 : Int) == 35) = false := by
            rw [beq_eq_false_iff_ne]
            intro h
            exact hsk1 (hsk.2 (.inr ⟨h0, by omega⟩))
          have hb0 : ((x.size : Int) == 0) = false := by rw [beq_eq_false_iff_ne]; omega
          have hixx := run_ix x 0 h0
          simp only [Int.cast_ofNat_Int] at hixx
          have HRD := Lib.hid (fun W => refRead_all x (by omega) W)
          obtain ⟨⟨ns, t, ne⟩, hr⟩ : ∃ r, readS x.data.toList = r := ⟨_, rfl⟩
          rw [hr] at hgo HRD
          simp only at hgo
          have HGO := Lib.hid hgo
          clear hgo hsk hsk1 hr HR1
          have hends : (¬ (k : Int) < (s.size : Int)) ∨ ((k : Int) < (s.size : Int) ∧ ∀ W, (Instr.index 9 (.string s) (.int .i64 (k : Int))).run Tryd.prog W = .ok (.int .u8 10) W) := by
            rcases hend with h | ⟨h, h10⟩
            · exact .inl (by omega)
            · refine .inr ⟨by omega, fun W => ?_⟩
              have := run_ix s k h W
              rw [h10] at this
              exact this
          clear hend
          rcases hends with hlti | ⟨hlti, hix⟩
          all_goals
            go_wp2_with fail
            refine (HRD.out _).mono ?_
            rintro e w2 ⟨v2, rfl, hro2, hb2⟩
            obtain ⟨A2, c2, rfl⟩ := ints_shape hro2.ints
            have HRR2 := Lib.hid (hro2.less (C := w.heap.size) hszr)
            have HO2 := Lib.hid (own_below HO.out hb2)
            have HRO2 := Lib.hid (HRO.out.below hb2)
            have HB2 := Lib.hid (blw_then HB.out hb2)
            have hsz2 := HB2.out.size
            clear hro2 hb2
            by_cases hne : ne = 0
            · subst hne
              have HG := Lib.hid (HR2.out (acc ++ [(ns, ba t)]) (by have := HGO.out; rwa [if_pos rfl] at this))
              have HX := Lib.hid (bk_new w2 (.cells #[.slice A2 ns.length c2, .string (ba t)] 42))
              have HO3 := Lib.hid (HO2.out.alloc (.cells #[.slice A2 ns.length c2, .string (ba t)] 42))
              have HRO3 := Lib.hid (HRO2.out.below (blw_alloc (Below.refl _ _) (.cells #[.slice A2 ns.length c2, .string (ba t)] 42)))
              have HR3 := Lib.hid (HRR2.out.below (blw_alloc (Below.refl _ _) (.cells #[.slice A2 ns.length c2, .string (ba t)] 42)))
              have HB3 := Lib.hid (blw_alloc HB2.out (.cells #[.slice A2 ns.length c2, .string (ba t)] 42))
              obtain ⟨x0, x1, xf⟩ := cells2 HX.out
              clear xf
              go_wp2_with (at_builtin; refine wpList_append2 rfl _ _ 49 rfl 42 (.agg #[.slice none 0 0, .string ⟨#[]⟩]) 40 Tryd.underlying49 info42 rfl w.heap.size _ n xs (.slice A2 ns.length c2) (.string (ba t)) (w2.alloc (.cells #[.slice A2 ns.length c2, .string (ba t)] 42)) rfl HO3.out (w2.heap.size + 1) 1 (by simp) rfl rfl rfl rfl (by unfold maxLen; omega) (by omega) (by simp; omega) ?_)
              intro q' cp' w4 hown4 hb4 hkeep
              have HO4 := Lib.hid hown4
              have HRO4 := Lib.hid ((HRO3.out.grown HO3.out hkeep).snoc (r := (ns, ba t)) (HR3.out.grown HO3.out hkeep))
              have HB4 := Lib.hid (bw_then HB3.out hb4)
              clear hown4 hb4 hkeep x0 x1
              go_wp2
              go_roundw
              case rel => exact ⟨k + 1, k + 1, ln + 1, n + 1, acc ++ [(ns, ba t)], xs ++ [.slice A2 ns.length c2, .string (ba t)], by omega, by omega, by omega, by omega, by rw [List.length_append, HAN.out]; rfl, by go_num, by go_num, by go_num, HO4.out, HRO4.out, HG.out, HB4.out⟩
              case measure => simp [RowKit.intOf]; omega
            · have hn1 : ((ne : Int) != 0) = true := by rw [bne_iff_ne]; omega
              have e : q = ([], ln + 1, ne) := by have := HGO.out; rw [if_neg hne] at this; exact this.symm
              subst e
              clear hne HQ HGO HR2
              go_wp2
              go_ret3
              exact ⟨_, rfl, nilRaws _, blw_alloc HB2.out _⟩
    · have hlei : ¬ (k : Int) ≤ (s.size : Int) := by omega
      have e : q = (acc, 0, 0) := by
        rcases hgo with ⟨h, _⟩ | ⟨_, h⟩
        · omega
        · exact h
      subst e
      clear HQ hgo
      go_wp2
      go_ret3
      refine ⟨_, rfl, raws_of_own (xs := xs) (rs := acc) (by rw [HAN.out]; exact HO.out) HRO.out.cells (by rw [HAN.out]; omega), HB.out⟩
set_option maxRecDepth 100000 in
set_option maxHeartbeats 8000000 in
theorem refSame43_any {v1 v2 : Value} {rs : List Raw} {w : World} (h1 : RawsAt w v1 rs) (h2 : RawsAt w v2 rs) : Calls Tryd.prog 31 #[v1, v2] w fun e w' => e = .returned (.bool true) ∧ Below w.heap.size w w' := by
  obtain ⟨A1, c1, rfl⟩ := raws_shape h1
  obtain ⟨A2, c2, rfl⟩ := raws_shape h2
  have hrl := h1.1
  have H1 := Lib.hid h1
  have H2 := Lib.hid h2
  clear h1 h2
  go_enter Tryd.func31, Tryd.ntmps31
  go_wp2
  go_loopw [5] (fun i wr => ∃ k : Nat, k ≤ rs.length ∧ i = .int .i64 (k : Int) ∧ Below w.heap.size w wr) (fun i _ => rs.length - (RowKit.intOf i).toNat)
  case atStart => exact ⟨0, by omega, rfl, Below.refl _ _⟩
  case round =>
    obtain ⟨k, hk, rfl, hbel⟩ := hrel
    have HB := Lib.hid hbel
    have hszr := hbel.size
    clear hbel
    by_cases hlt : k < rs.length
    · obtain ⟨r, hr⟩ : ∃ r, rs[k]? = some r := ⟨rs[k], List.getElem?_eq_getElem hlt⟩
      obtain ⟨b1, o1, rfl, hbl1, hra1⟩ := raws_at H1.out hr
      obtain ⟨b2, o2, rfl, hbl2, hra2⟩ := raws_at H2.out hr
      obtain ⟨u1, p0, hi1, p1⟩ := hra1.below HB.out
      obtain ⟨u2, q0, hi2, q1⟩ := hra2.below HB.out
      obtain ⟨B1, d1, rfl⟩ := ints_shape hi1
      obtain ⟨B2, d2, rfl⟩ := ints_shape hi2
      obtain ⟨ns, t⟩ := r
      simp only at p0 p1 q0 q1 hi1 hi2
      have HI1 := Lib.hid hi1
      have HI2 := Lib.hid hi2
      have hlti : (k : Int) < (rs.length : Int) := by omega
      have hk0 : (0 : Int) ≤ (k : Int) := by omega
      have HSM := Lib.hid (fun (W : World) (h1 : IntsAt W (.slice B1 ns.length d1) ns) (h2 : IntsAt W (.slice B2 ns.length d2) ns) => refSame_any (v1 := .slice B1 ns.length d1) (v2 := .slice B2 ns.length d2) (ns := ns) t (w := W) h1 h2)
      have HDR : Hid (Below wr.heap.size wr wr.drew) := Lib.hid (blw_drew (Below.refl _ _))
      clear hi1 hi2 hra1 hra2 hr
      go_wp2
      go_region_with ((go_at_call 24; refine (HSM.out _ (HI1.out.below (by first | exact Below.refl _ _ | exact HDR.out)) (HI2.out.below (by first | exact Below.refl _ _ | exact HDR.out))).mono ?_; rintro e w7 ⟨rfl, hb7⟩))
      all_goals
        have HB7 : Hid (Below w.heap.size w w7) := Lib.hid (blw_then (by first | exact HB.out | exact blw_drew HB.out) hb7)
        clear hb7
        go_wp2
        go_roundw
        case rel => exact ⟨k + 1, by omega, by go_num, HB7.out⟩
        case measure => simp [RowKit.intOf]; omega
    · have hlti : ¬ (k : Int) < (rs.length : Int) := by omega
      go_wp2
      go_ret
      exact ⟨rfl, HB.out⟩
end Go.Proofs.YtgeaebcchjmmjaaDoor
