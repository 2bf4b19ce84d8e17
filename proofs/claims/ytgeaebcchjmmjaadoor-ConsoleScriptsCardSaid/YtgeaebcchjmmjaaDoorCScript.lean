/- What Script of package console answers. -/
import Derived.Test.YtgeaebcchjmmjaaDoorScriptP
import Derived.Test.YtgeaebcchjmmjaaDoorOwn2
import Derived.Test.YtgeaebcchjmmjaaDoorFew
namespace Go.Proofs.YtgeaebcchjmmjaaDoor
open Go.RowKit Go.Lib
def ScriptEnd (q : List Raw × Nat × Nat) (w : World) (e : Ending) (w' : World) : Prop := ∃ v, e = .returned (.tuple #[v, .int .i64 q.2.1, .int .i64 q.2.2]) ∧ RawsAt w' v q.1 ∧ Below w.heap.size w w'
theorem split_lines (s : ByteArray) : dls (splitB ⟨#[10]⟩ 0 (countB s ⟨#[10]⟩) s) = linL s.data.toList := by
  unfold dls
  rw [splitB_data, ← split_lin]
  rfl
theorem skip_bat (x : ByteArray) : (skipL x.data.toList = true ↔ (x.size = 0 ∨ (0 < x.size ∧ bat x 0 = 35))) := by
  have hl : x.data.toList.length = x.size := rfl
  cases e : x.data.toList with
  | nil =>
    rw [e] at hl
    simp at hl
    simp [skipL, ← hl]
  | cons c r =>
    rw [e] at hl
    simp at hl
    have hb : bat x 0 = c.toNat := by unfold bat; rw [e]; rfl
    have h35 : (c = 35) ↔ c.toNat = 35 := ⟨fun h => by rw [h]; rfl, fun h => UInt8.toNat_inj.1 h⟩
    have hp : 0 < x.size := by omega
    unfold skipL
    rw [hb]
    simp only [List.isEmpty_cons, Bool.false_or, List.head?_cons, beq_iff_eq, Option.some.injEq, h35]
    constructor
    · exact fun h => .inr ⟨hp, h⟩
    · rintro (h | ⟨_, h⟩)
      · omega
      · exact h
theorem nilRaws (w : World) : RawsAt w (.slice none 0 0) [] := ⟨by simp, .inl ⟨rfl, none, 0, rfl⟩⟩
set_option maxRecDepth 100000 in
set_option maxHeartbeats 8000000 in
theorem consoleScript_any (s : ByteArray) (hs : s.size ≤ 100000) (hln : ∀ l ∈ linL s.data.toList, l.length ≤ 900) (w : World) (henv : CEnv w) : Calls Tryd.prog 29 #[.string s] w (ScriptEnd (scriptS s.data.toList) w) := by
  have hcnt : countB s ⟨#[10]⟩ ≤ s.size := countB_le ⟨#[10]⟩ (by decide) s.size s (Nat.le_refl _)
  have hall := splitB_all ⟨#[10]⟩ (by decide) 0 _ s rfl
  have hdl := split_lines s
  obtain ⟨ws, hws⟩ : ∃ ws, splitB ⟨#[10]⟩ 0 (countB s ⟨#[10]⟩) s = ws := ⟨_, rfl⟩
  have henv2 := henv
  obtain ⟨_, _, _, ⟨m, hm⟩, h9⟩ := henv2
  have HSP : Hid (Calls Tryd.prog 49 #[.string s, .string ⟨#[10]⟩] w fun e w' => ∃ g, e = .returned (.slice (some ⟨g, 0, none⟩) ws.length ws.length) ∧ w.heap.size ≤ g ∧ g < w'.heap.size ∧ (∀ (j : Nat) x, ws[j]? = some x → w'.cell? ⟨g, j, none⟩ = some (.string x)) ∧ Below w.heap.size w w') := Lib.hid ((Tryd.strings_Split s ⟨#[10]⟩ m w (by omega) hm (by decide)).mono (by
    rintro e w' ⟨he, hw⟩
    rw [hws] at hw hall
    rw [he, hw, hall]
    refine ⟨w.heap.size, rfl, Nat.le_refl _, by simp, fun j x hj => ?_, (Below.refl _ _).alloc (Nat.le_refl _) _⟩
    rw [bk_cell (bk_new w _) j]
    simp [hj]))
  rw [hws] at hall hdl
  have hsz : ∀ x ∈ ws, x.size ≤ 900 := fun x hx => hln x.data.toList (by rw [← hdl]; exact List.mem_map.2 ⟨x, hx, rfl⟩)
  obtain ⟨q, hq⟩ : ∃ q, scriptS s.data.toList = q := ⟨_, rfl⟩
  rw [hq]
  have hq2 : scriptGo 0 [] (dls ws) = q := by rw [hdl]; exact hq
  have HQ := Lib.hid hq2
  have HS := Lib.hid hsz
  have HE := Lib.hid henv
  have hwl : ws.length ≤ 100001 := by omega
  have hng : ¬ (1048576 : Int) < (s.size : Int) := by omega
  clear hq hq2 hdl hws hall hcnt hsz henv hln
  go_enter Tryd.func29, Tryd.ntmps29
  go_wp2_with fail
  refine (HSP.out).mono ?_
  rintro e w1 ⟨g, rfl, hg1, hg2, hcs, hb1⟩
  have HCS := Lib.hid hcs
  have HB1 := Lib.hid hb1
  have hsz1 := hb1.size
  clear hcs hb1 HSP hm
  go_wp2
  go_loopw [5, 16] (fun v i wr => ∃ (k n : Nat) (acc : List Raw) (xs : List Value), k ≤ ws.length ∧ n ≤ k ∧ acc.length = n ∧ i = .int .i64 (k : Int) ∧ wr.ownsRow w1.heap.size 42 2 v n xs ∧ RawOwns w1.heap.size wr xs acc ∧ scriptGo k acc (dls (ws.drop k)) = q ∧ Below w1.heap.size w1 wr) (fun _ i _ => ws.length - (RowKit.intOf i).toNat)
  case atStart => exact ⟨0, 0, [], [], by omega, by omega, rfl, rfl, World.ownsRow_nil _ _ _ _, RawOwns.nil _ _, HQ.out, Below.refl _ _⟩
  case round =>
    obtain ⟨k, n, acc, xs, hk, hnk, han, rfl, hown, hro, hgo, hbel⟩ := hrel
    have HO := Lib.hid hown
    have HRO := Lib.hid hro
    have HG := Lib.hid hgo
    have HB := Lib.hid hbel
    have HAN := Lib.hid han
    have hszr := hbel.size
    clear hown hro hgo hbel han
    by_cases hlt : k < ws.length
    · obtain ⟨x, hx⟩ : ∃ x, ws[k]? = some x := ⟨ws[k], List.getElem?_eq_getElem hlt⟩
      have hcx := cell_below HB.out (HCS.out k x hx)
      have hxs := HS.out x (List.mem_of_getElem? hx)
      have hdrop : dls (ws.drop k) = x.data.toList :: dls (ws.drop (k + 1)) := by
        have := List.getElem?_eq_some_iff.1 hx
        rw [List.drop_eq_getElem_cons hlt, this.2]; rfl
      have hgo := HG.out
      rw [hdrop, scriptGo] at hgo
      have hlti : (k : Int) < (ws.length : Int) := by omega
      have hgr : g < wr.heap.size := by omega
      have hte := nil_beq x
      have hsk := skip_bat x
      clear hx hdrop
      by_cases hsk1 : skipL x.data.toList = true
      · rw [if_pos hsk1] at hgo
        have HGO := Lib.hid hgo
        have hcase := hsk.1 hsk1
        clear hgo hsk hsk1
        rcases hcase with h0 | ⟨h0, h35⟩
        · have htn : x.toList = [] := eq_of_beq (by rw [hte, h0]; rfl)
          have hti : x.toList.isEmpty = true := by rw [htn]; rfl
          clear hte h0
          go_wp2
          go_roundw
          case rel => exact ⟨k + 1, n, acc, xs, by omega, by omega, HAN.out, by go_num, HO.out, HRO.out, HGO.out, HB.out⟩
          case measure => simp [RowKit.intOf]; omega
        · have htn : ¬ x.toList = [] := fun h => by
            have h2 : decide (x.size = 0) = true := by rw [← hte, h]; rfl
            have := of_decide_eq_true h2
            omega
          have hti : x.toList.isEmpty = false := by cases h : x.toList; exact absurd h htn; rfl
          have hix := run_ix x 0 h0
          rw [h35] at hix
          simp only [Int.cast_ofNat_Int] at hix
          clear hte h35
          go_wp2
          go_roundw
          case rel => exact ⟨k + 1, n, acc, xs, by omega, by omega, HAN.out, by go_num, HO.out, HRO.out, HGO.out, HB.out⟩
          case measure => simp [RowKit.intOf]; omega
      · rw [if_neg hsk1] at hgo
        have h0 : 0 < x.size := by
          rcases Nat.eq_zero_or_pos x.size with h | h
          · exact absurd (hsk.2 (.inl h)) hsk1
          · exact h
        have h35 : ((bat x 0 : Int) == 35) = false := by
          rw [beq_eq_false_iff_ne]
          intro h
          exact hsk1 (hsk.2 (.inr ⟨h0, by omega⟩))
        have htn : ¬ x.toList = [] := fun h => by
          have h2 : decide (x.size = 0) = true := by rw [← hte, h]; rfl
          have := of_decide_eq_true h2
          omega
        have hti : x.toList.isEmpty = false := by cases h : x.toList; exact absurd h htn; rfl
        have hix := run_ix x 0 h0
        simp only [Int.cast_ofNat_Int] at hix
        have HRD := Lib.hid (fun W hW => consoleRead_any x (by omega) W hW)
        obtain ⟨⟨ns, t, ne⟩, hr⟩ : ∃ r, readS x.data.toList = r := ⟨_, rfl⟩
        rw [hr] at hgo HRD
        simp only at hgo
        have HGO := Lib.hid hgo
        clear hgo hsk hsk1 hte hr
        go_wp2_with fail
        refine (HRD.out _ ((HE.out.blw HB1.out).blw HB.out)).mono ?_
        rintro e w2 ⟨v2, rfl, hro2, hb2⟩
        obtain ⟨A2, c2, rfl⟩ := ints_shape hro2.ints
        have HR2 := Lib.hid (hro2.less (C := w1.heap.size) hszr)
        have HO2 := Lib.hid (own_below HO.out hb2)
        have HRO2 := Lib.hid (HRO.out.below hb2)
        have HB2 := Lib.hid (blw_then HB.out hb2)
        have hsz2 := HB2.out.size
        clear hro2 hb2
        by_cases hne : ne = 0
        · subst hne
          have HGO2 : Hid (scriptGo (k + 1) (acc ++ [(ns, ba t)]) (dls (ws.drop (k + 1))) = q) := Lib.hid (by have := HGO.out; rwa [if_pos rfl] at this)
          have HX := Lib.hid (bk_new w2 (.cells #[.slice A2 ns.length c2, .string (ba t)] 42))
          have HO3 := Lib.hid (HO2.out.alloc (.cells #[.slice A2 ns.length c2, .string (ba t)] 42))
          have HRO3 := Lib.hid (HRO2.out.below (blw_alloc (Below.refl _ _) (.cells #[.slice A2 ns.length c2, .string (ba t)] 42)))
          have HR3 := Lib.hid (HR2.out.below (blw_alloc (Below.refl _ _) (.cells #[.slice A2 ns.length c2, .string (ba t)] 42)))
          have HB3 := Lib.hid (blw_alloc HB2.out (.cells #[.slice A2 ns.length c2, .string (ba t)] 42))
          obtain ⟨x0, x1, xf⟩ := cells2 HX.out
          clear xf
          go_wp2_with (at_builtin; refine wpList_append2 rfl _ _ 49 rfl 42 (.agg #[.slice none 0 0, .string ⟨#[]⟩]) 40 Tryd.underlying49 info42 rfl w1.heap.size _ n xs (.slice A2 ns.length c2) (.string (ba t)) (w2.alloc (.cells #[.slice A2 ns.length c2, .string (ba t)] 42)) rfl HO3.out (w2.heap.size + 1) 1 (by simp) rfl rfl rfl rfl (by unfold maxLen; omega) (by omega) (by simp; omega) ?_)
          intro q' cp' w4 hown4 hb4 hkeep
          have HO4 := Lib.hid hown4
          have HRO4 := Lib.hid ((HRO3.out.grown HO3.out hkeep).snoc (r := (ns, ba t)) (HR3.out.grown HO3.out hkeep))
          have HB4 := Lib.hid (bw_then HB3.out hb4)
          clear hown4 hb4 hkeep x0 x1
          go_wp2
          go_roundw
          case rel => exact ⟨k + 1, n + 1, acc ++ [(ns, ba t)], xs ++ [.slice A2 ns.length c2, .string (ba t)], by omega, by omega, by rw [List.length_append, HAN.out]; rfl, by go_num, HO4.out, HRO4.out, HGO2.out, HB4.out⟩
          case measure => simp [RowKit.intOf]; omega
        · have hn1 : ((ne : Int) != 0) = true := by rw [bne_iff_ne]; omega
          have e : q = ([], k + 1, ne) := by have := HGO.out; rw [if_neg hne] at this; exact this.symm
          subst e
          clear hne HQ HG HGO
          go_wp2
          go_ret3
          exact ⟨_, rfl, nilRaws _, blw_alloc (blw_then HB1.out HB2.out) _⟩
    · have hlti : ¬ (k : Int) < (ws.length : Int) := by omega
      have e : q = (acc, 0, 0) := by
        rw [← HG.out, List.drop_of_length_le (by omega)]; rfl
      subst e
      clear HQ HG
      go_wp2
      go_ret3
      refine ⟨_, rfl, raws_of_own (xs := xs) (rs := acc) (by rw [HAN.out]; exact HO.out) HRO.out.cells (by rw [HAN.out]; omega), blw_then HB1.out HB.out⟩
end Go.Proofs.YtgeaebcchjmmjaaDoor
