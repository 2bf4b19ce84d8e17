/- What words of package console answers: the numbers and the text behind a kind, or that they are none. -/
import Derived.Test.YtgeaebcchjmmjaaDoorCEnv
import Derived.Test.YtgeaebcchjmmjaaDoorNames
namespace Go.Proofs.YtgeaebcchjmmjaaDoor
open Go.RowKit Go.Lib
def ints (l : List Int) : List Value := l.map (Value.int .i64)
theorem info3 : (Tryd.prog.info? 3).map (fun i => (i.zero, i.size, i.bytes)) = some (some (.int .i64 0), 1, 8) := by kernel_rfl
def dls (l : List ByteArray) : List (List UInt8) := l.map (·.data.toList)
def WordsEnd (B : Nat) (len : Nat) (r : Option (List Int × List UInt8)) (w : World) (e : Ending) (w' : World) : Prop :=
  ∃ v ns t b, e = .returned (.tuple #[.agg #[v, .string t], .bool b]) ∧ w'.ownsRow B 3 1 v ns.length (ints ns) ∧ Below B w w' ∧ (∀ n ∈ ns, InI n) ∧ 0 < ns.length ∧ ns.length ≤ len ∧ t.size ≤ 2000000 ∧
    ((b = true ∧ r = some (ns, t.data.toList)) ∨ (b = false ∧ r = none))
theorem hasEq (x : ByteArray) : Lib.hasPrefix x.data.toList [61] = decide (x.data.toList.head? = some 61) := by
  cases h : x.data.toList with
  | nil => rfl
  | cons c l =>
    show ((61 == c) && true) = _
    by_cases hc : c = 61
    · subst hc; rfl
    · have h1 : (61 == c) = false := by rw [beq_eq_false_iff_ne]; exact fun e => hc e.symm
      have h2 : ¬ (some c = some (61 : UInt8)) := fun e => hc (Option.some.inj e)
      rw [h1]
      simp only [List.head?_cons, h2, decide_false, Bool.false_and]
theorem tail_data (x : ByteArray) : (x.extract 1 x.size).data.toList = x.data.toList.tail := by
  rw [Lib.extract_to_end, List.drop_one]
theorem wordsP_eq (ns : List Int) (x : ByteArray) (h : x.data.toList.head? = some 61) : wordsP ns [x.data.toList] = match bytesG x.data.toList.tail with
    | some t => if t = [] then none else some (ns, t)
    | none => none := by
  rw [wordsP, if_pos ⟨rfl, h⟩]
  rfl
theorem wordsP_num (ns : List Int) (x : List UInt8) (rest : List (List UInt8)) (h : ¬ (rest = [] ∧ x.head? = some 61)) : wordsP ns (x :: rest) = match canL x with
    | some n => wordsP (ns ++ [n]) rest
    | none => none := by
  rw [wordsP, if_neg h]
  rfl
theorem own_slice {w : World} {B n : Nat} {v : Value} {xs : List Value} (h : w.ownsRow B 3 1 v n xs) (hn : 0 < n) : ∃ g cap, v = .slice (some ⟨g, 0, none⟩) n cap := by
  obtain ⟨g, cap, hv, _, _⟩ := h.form hn
  exact ⟨g, cap, hv⟩
section
variable {w w1 : World} {B n g0 g1 : Nat} {v : Value} {xs : List Value} {c0 c1 : Array Value}
theorem out2 (h : w1.ownsRow B 3 1 v n xs) (h1 : w1.heap[g1]? = some (.cells c1 42 (0, 0))) (y z : Value) : ((w1.setCell ⟨g1, 0, none⟩ y).setCell ⟨g1, 1, none⟩ z).ownsRow B 3 1 v n xs :=
  own_set (own_set h (own_ne h h1 (by decide)) 0 y) (own_ne h h1 (by decide)) 1 z
theorem out3 (h : w1.ownsRow B 3 1 v n xs) (h0 : w1.heap[g0]? = some (.cells c0 42 (0, 0))) (h1 : w1.heap[g1]? = some (.cells c1 42 (0, 0))) (x y z : Value) : (((w1.setCell ⟨g0, 1, none⟩ x).setCell ⟨g1, 0, none⟩ y).setCell ⟨g1, 1, none⟩ z).ownsRow B 3 1 v n xs :=
  own_set (own_set (own_set h (own_ne h h0 (by decide)) 1 x) (own_ne h h1 (by decide)) 0 y) (own_ne h h1 (by decide)) 1 z
theorem out3b {a b : Value} (h1 : w1.heap[g1]? = some (.cells #[a, b] 42 (0, 0))) (hne : g1 ≠ g0) (x y z : Value) : (((w1.setCell ⟨g0, 1, none⟩ x).setCell ⟨g1, 0, none⟩ y).setCell ⟨g1, 1, none⟩ z).heap[g1]? = some (.cells #[y, z] 42 (0, 0)) :=
  store2 (bk_far h1 (p := ⟨g0, 1, none⟩) hne x)
theorem bel2 (h : Below B w w1) (hB : B ≤ g1) (y z : Value) : Below B w ((w1.setCell ⟨g1, 0, none⟩ y).setCell ⟨g1, 1, none⟩ z) := (h.setCell (show B ≤ (⟨g1, 0, none⟩ : Addr).block from hB) y).setCell (show B ≤ (⟨g1, 1, none⟩ : Addr).block from hB) z
theorem bel3 (h : Below B w w1) (hA : B ≤ g0) (hB : B ≤ g1) (x y z : Value) : Below B w (((w1.setCell ⟨g0, 1, none⟩ x).setCell ⟨g1, 0, none⟩ y).setCell ⟨g1, 1, none⟩ z) := bel2 (h.setCell (show B ≤ (⟨g0, 1, none⟩ : Addr).block from hA) x) hB y z
end
set_option maxRecDepth 100000 in
set_option maxHeartbeats 4000000 in
theorem words_any (B bl o cap : Nat) (ws : List ByteArray) (v : Value) (ns : List Int) (w : World) (henv : CEnv w) (hB9 : 9 ≤ B) (hB : B ≤ w.heap.size) (hbl : bl < B) (hcells : ∀ (j : Nat) x, ws[j]? = some x → w.cell? ⟨bl, o + j, none⟩ = some (.string x))
    (hown : w.ownsRow B 3 1 v ns.length (ints ns)) (hns : 0 < ns.length) (hin : ∀ n ∈ ns, InI n) (hlen : ns.length + ws.length ≤ 1000) (hsz : ∀ x ∈ ws, x.size ≤ 1000) :
    Calls Tryd.prog 51 #[.agg #[v, .string ⟨#[]⟩], .slice (some ⟨bl, o, none⟩) ws.length cap] w (WordsEnd B (ns.length + ws.length) (wordsP ns (dls ws)) w) := by
  obtain ⟨g0, c0, rfl⟩ := own_slice hown hns
  obtain ⟨r, hr⟩ : ∃ r, wordsP ns (dls ws) = r := ⟨_, rfl⟩
  rw [hr]
  have HR := Lib.hid hr
  have HE := Lib.hid henv
  have HC := Lib.hid hcells
  have HO := Lib.hid hown
  have HI := Lib.hid hin
  have HS := Lib.hid hsz
  clear hr henv hcells hown hin hsz
  go_enter Tryd.func51, Tryd.ntmps51
  go_wp2
  go_loopw [14] (fun i wr => ∃ (k q cp : Nat) (acc : List Int), k ≤ ws.length ∧ i = .int .i64 (k : Int) ∧ acc.length = ns.length + k ∧
    wr.heap[w.heap.size]? = some (.cells #[.slice (some ⟨q, 0, none⟩) acc.length cp, .string ⟨#[]⟩] 42 (0, 0)) ∧ wr.heap[w.heap.size + 1]? = some (.cells #[.slice none 0 0, .string ⟨#[]⟩] 42 (0, 0)) ∧
    wr.ownsRow B 3 1 (.slice (some ⟨q, 0, none⟩) acc.length cp) acc.length (ints acc) ∧ wordsP acc (dls (ws.drop k)) = r ∧ (∀ n ∈ acc, InI n) ∧ Below B w wr) (fun i _ => ws.length - (RowKit.intOf i).toNat)
  case atStart =>
    exact ⟨0, g0, c0, ns, by omega, rfl, by omega, bk_alloc (bk_new _ _) _, bk_new_at _ _ (by simp), (HO.out.alloc _).alloc _, by simpa using HR.out, HI.out, bw_alloc (bw_alloc (Below.refl _ _) _ hB) _ (by simp; omega)⟩
  case round =>
    obtain ⟨k, q, cp, acc, hk, rfl, hacc, hb0, hb1, hown, hrr, hin, hbel⟩ := hrel
    have HB0 := Lib.hid hb0
    have HB1 := Lib.hid hb1
    have HOW := Lib.hid hown
    have HRR := Lib.hid hrr
    have HIN := Lib.hid hin
    have HBL := Lib.hid hbel
    have HA := Lib.hid hacc
    obtain ⟨a0, a1, af⟩ := cells2 hb0
    obtain ⟨d0, d1, df⟩ := cells2 hb1
    have hsz2 := hbel.size
    have hacc2 : acc.length ≤ 1000 := by omega
    clear hb0 hb1 hown hrr hin hbel hacc
    by_cases hlt : k < ws.length
    · obtain ⟨x, hx⟩ : ∃ x, ws[k]? = some x := ⟨ws[k], List.getElem?_eq_getElem hlt⟩
      have hcx := bw_cell HBL.out (by exact hbl) (HC.out k x hx)
      have hxs := HS.out x (List.mem_of_getElem? hx)
      have hlti : (k : Int) < (ws.length : Int) := by omega
      have hdrop : dls (ws.drop k) = x.data.toList :: dls (ws.drop (k + 1)) := by
        have := List.getElem?_eq_some_iff.1 hx
        rw [List.drop_eq_getElem_cons hlt, this.2]; rfl
      have HDR := Lib.hid hdrop
      have HP := Lib.hid (fun W => (Tryd.strings_HasPrefix x ⟨#[61]⟩ W).mono fun _ _ (h : _ ∧ _) => And.intro h.1 h.2.symm)
      have hpe := hasEq x
      clear hdrop hx
      by_cases heq : x.data.toList.head? = some 61 ∧ k + 1 = ws.length
      · obtain ⟨h61, hke⟩ := heq
        have hp2 : Lib.hasPrefix x.data.toList [61] = true := by rw [hpe, decide_eq_true h61]
        have HP2 : Hid (∀ W, Calls Tryd.prog 75 #[.string x, .string ⟨#[61]⟩] W fun e w' => e = .returned (.bool true) ∧ W = w') := Lib.hid (fun W => (HP.out W).mono fun _ _ (h : _ ∧ _) => ⟨by rw [h.1]; exact congrArg (fun b => Ending.returned (.bool b)) hp2, h.2⟩)
        have htl := tail_data x
        have hxp : 0 < x.size := by
          rcases Nat.eq_zero_or_pos x.size with h | h
          · have : x.data.toList = [] := List.eq_nil_of_length_eq_zero h
            rw [this] at h61; cases h61
          · exact h
        have hrest : dls (ws.drop (k + 1)) = [] := by rw [List.drop_of_length_le (by omega)]; rfl
        have hre : r = match bytesG x.data.toList.tail with
          | some t => if t = [] then none else some (acc, t)
          | none => none := by rw [← HRR.out, HDR.out, hrest, wordsP_eq _ _ h61]
        have hkb : ((k : Int) == (ws.length : Int) - 1) = true := by rw [beq_iff_eq]; omega
        have HBG := Lib.hid (fun W => bytesGo_any (x.extract 1 x.size) (by rw [ByteArray.size_extract]; omega) W)
        rw [htl] at HBG
        have HRE := Lib.hid hre
        clear hre hp2 hpe HP htl hrest HDR h61
        cases hbg : bytesG x.data.toList.tail with
        | none =>
          rw [hbg] at HBG HRE
          go_wp2_with fail
          refine (HP2.out _).mono ?_
          rintro e w1 ⟨rfl, rfl⟩
          go_wp2_with fail
          refine (HBG.out _).mono ?_
          rintro e w1 ⟨rfl, hbw⟩
          obtain ⟨a0', a1', af'⟩ := cells2 (bk_below HB0.out hbw)
          obtain ⟨d0', d1', df'⟩ := cells2 (bk_below HB1.out hbw)
          have hbB := bw_more hbw (Nat.le_trans hB hsz2)
          go_wp2
          refine bodyPost_ret (v := .tuple #[.agg #[.slice (some ⟨q, 0, none⟩) acc.length cp, .string ⟨#[]⟩], .bool false]) (res42 rfl rfl rfl (out3b (bk_below HB1.out hbw) (Nat.succ_ne_self _) _ _ _)) rfl ?_
          refine ⟨_, acc, _, false, rfl, out3 (own_below HOW.out hbw) (bk_below HB0.out hbw) (bk_below HB1.out hbw) _ _ _, bel3 (bw_then HBL.out hbB) hB (by omega) _ _ _, HIN.out, by rw [HA.out]; omega, by rw [HA.out]; omega, by decide, .inr ⟨rfl, HRE.out⟩⟩
        | some t =>
          rw [hbg] at HBG HRE
          have hts : t.length ≤ 2000 := by
            have := bytesG_some _ _ hbg
            have h2 := hexL_len t
            rw [show hexL t = hexL' t from rfl, ← this] at h2
            have h3 : x.data.toList.tail.length = x.size - 1 := by rw [List.length_tail]; rfl
            omega
          have htE : (⟨t.toArray⟩ : ByteArray).toList = t := by rw [Lib.toList_data]
          have htD : (⟨t.toArray⟩ : ByteArray).data.toList = t := rfl
          have htS : (⟨t.toArray⟩ : ByteArray).size ≤ 2000000 := by simp [ByteArray.size]; omega
          have HBG2 : Hid (∀ W, Calls Tryd.prog 76 #[.string (x.extract 1 x.size)] W fun e w' => e = .returned (.tuple #[.string ⟨t.toArray⟩, .bool true]) ∧ Below W.heap.size W w') := Lib.hid (fun W => HBG.out W)
          clear HBG hbg
          have HTD := Lib.hid htD
          have HTS := Lib.hid htS
          clear htD htS
          by_cases ht : t = []
          · have e : r = none := by have := HRE.out; simp only [ht, if_pos] at this; exact this
            have htb : (⟨t.toArray⟩ : ByteArray).toList.isEmpty = true := by rw [htE, ht]; rfl
            have htn : (⟨t.toArray⟩ : ByteArray).toList = [] := by rw [htE, ht]
            clear htE HRE ht
            generalize (⟨t.toArray⟩ : ByteArray) = tt at *
            go_wp2_with fail
            refine (HP2.out _).mono ?_
            rintro e w1 ⟨rfl, rfl⟩
            go_wp2_with fail
            refine (HBG2.out _).mono ?_
            rintro e w1 ⟨rfl, hbw⟩
            obtain ⟨a0', a1', af'⟩ := cells2 (bk_below HB0.out hbw)
            obtain ⟨d0', d1', df'⟩ := cells2 (bk_below HB1.out hbw)
            have hbB := bw_more hbw (Nat.le_trans hB hsz2)
            go_wp2
            refine bodyPost_ret (v := .tuple #[.agg #[.slice (some ⟨q, 0, none⟩) acc.length cp, .string tt], .bool false]) (res42 rfl rfl rfl (out3b (bk_below HB1.out hbw) (Nat.succ_ne_self _) _ _ _)) rfl ?_
            refine ⟨_, acc, _, false, rfl, out3 (own_below HOW.out hbw) (bk_below HB0.out hbw) (bk_below HB1.out hbw) _ _ _, bel3 (bw_then HBL.out hbB) hB (by omega) _ _ _, HIN.out, by rw [HA.out]; omega, by rw [HA.out]; omega, HTS.out, .inr ⟨rfl, e⟩⟩
          · have e : r = some (acc, t) := by have := HRE.out; simp only [ht, if_false] at this; exact this
            have htb : (⟨t.toArray⟩ : ByteArray).toList.isEmpty = false := by rw [htE]; cases t; exact absurd rfl ht; rfl
            have htn : ¬ (⟨t.toArray⟩ : ByteArray).toList = [] := by rw [htE]; exact ht
            have E := Lib.hid e
            clear htE HRE ht e
            generalize (⟨t.toArray⟩ : ByteArray) = tt at *
            go_wp2_with fail
            refine (HP2.out _).mono ?_
            rintro e w1 ⟨rfl, rfl⟩
            go_wp2_with fail
            refine (HBG2.out _).mono ?_
            rintro e w1 ⟨rfl, hbw⟩
            obtain ⟨a0', a1', af'⟩ := cells2 (bk_below HB0.out hbw)
            obtain ⟨d0', d1', df'⟩ := cells2 (bk_below HB1.out hbw)
            have hbB := bw_more hbw (Nat.le_trans hB hsz2)
            go_wp2
            refine bodyPost_ret (v := .tuple #[.agg #[.slice (some ⟨q, 0, none⟩) acc.length cp, .string tt], .bool true]) (res42 rfl rfl rfl (out3b (bk_below HB1.out hbw) (Nat.succ_ne_self _) _ _ _)) rfl ?_
            refine ⟨_, acc, _, true, rfl, out3 (own_below HOW.out hbw) (bk_below HB0.out hbw) (bk_below HB1.out hbw) _ _ _, bel3 (bw_then HBL.out hbB) hB (by omega) _ _ _, HIN.out, by rw [HA.out]; omega, by rw [HA.out]; omega, HTS.out, .inl ⟨rfl, by rw [E.out, HTD.out]⟩⟩
      · obtain ⟨pb, hpb⟩ : ∃ pb, Lib.hasPrefix x.data.toList [61] = pb := ⟨_, rfl⟩
        have HP2 : Hid (∀ W, Calls Tryd.prog 75 #[.string x, .string ⟨#[61]⟩] W fun e w' => e = .returned (.bool pb) ∧ W = w') := Lib.hid (fun W => (HP.out W).mono fun _ _ (h : _ ∧ _) => ⟨by rw [h.1]; exact congrArg (fun b => Ending.returned (.bool b)) hpb, h.2⟩)
        have hpk : pb = true → ((k : Int) == (ws.length : Int) - 1) = false := fun h => by
          rw [beq_eq_false_iff_ne]
          intro hk2
          refine heq ⟨?_, by omega⟩
          rw [hpb, h] at hpe
          exact of_decide_eq_true hpe.symm
        have hnl : ¬ (dls (ws.drop (k + 1)) = [] ∧ x.data.toList.head? = some 61) := fun ⟨h1, h2⟩ => heq ⟨h2, by
          have := congrArg List.length h1
          simp [dls] at this
          omega⟩
        have HRE : Hid (r = match canL x.data.toList with
          | some n => wordsP (acc ++ [n]) (dls (ws.drop (k + 1)))
          | none => none) := Lib.hid (by rw [← HRR.out, HDR.out]; exact wordsP_num _ _ _ hnl)
        have HAT := Lib.hid (fun W hW => atoi_any x (by omega) W hW)
        have HXS := Lib.hid hxs
        clear hpe HP hnl HDR heq hpb hxs
        cases pb
        all_goals
          first
            | have hkb := hpk rfl
            | skip
          clear hpk
          go_wp2_with fail
          refine (HP2.out _).mono ?_
          rintro e w1 ⟨rfl, rfl⟩
          go_wp2_with fail
          refine (HAT.out _ (HE.out.below HBL.out hB9)).mono ?_
          rintro e w1 ⟨n, ev, rfl, hbw, hnin, hev⟩
          obtain ⟨a0', a1', af'⟩ := cells2 (bk_below HB0.out hbw)
          obtain ⟨d0', d1', df'⟩ := cells2 (bk_below HB1.out hbw)
          have hbB := bw_more hbw (Nat.le_trans hB hsz2)
          rcases hev with ⟨rfl, hok⟩ | ⟨N, rfl, hno⟩
          · have hitl := itoa_len n hnin
            have HIT := Lib.hid (fun W hW => itoa_any n hnin W hW)
            have HE1 := Lib.hid ((HE.out.below HBL.out hB9).blw hbw)
            have hel : (⟨(itoa n).toArray⟩ : ByteArray).toList = itoa n := by rw [Lib.toList_data]
            have hxl : x.toList = x.data.toList := Lib.toList_data x
            by_cases hcan : itoa n = x.data.toList
            · have heqs : ((⟨(itoa n).toArray⟩ : ByteArray).toList == x.toList) = true := by rw [hel, hxl, beq_iff_eq]; exact hcan
              have HRN : Hid (wordsP (acc ++ [n]) (dls (ws.drop (k + 1))) = r) := Lib.hid (by
                rw [HRE.out]
                have : canL x.data.toList = some n := by
                  unfold canL
                  rw [hok]
                  exact if_pos hcan
                rw [this])
              clear hel hxl hcan hok
              generalize (⟨(itoa n).toArray⟩ : ByteArray) = it at *
              go_wp2_with fail
              refine (HIT.out _ HE1.out).mono ?_
              rintro e w2 ⟨rfl, hbw2⟩
              have hbW := blw_then hbw hbw2
              obtain ⟨a0'', a1'', af''⟩ := cells2 (bk_below HB0.out hbW)
              obtain ⟨d0'', d1'', df''⟩ := cells2 (bk_below HB1.out hbW)
              have hbB2 := bw_more hbW (Nat.le_trans hB hsz2)
              have hs2 := hbW.size
              clear a0' a1' af' d0' d1' df'
              go_wp2_with (at_builtin; refine wpList_append1 rfl _ _ 40 rfl 3 (.int .i64 0) 8 Tryd.underlying40 info3 rfl B _ acc.length (ints acc) (.int .i64 n) w2 rfl (own_below HOW.out hbW) w2.heap.size 1 rfl rfl rfl rfl (by unfold maxLen; omega) (by omega) (by omega) ?_)
              intro q' cp' w3 hown3 hb3 _ hkeep
              have h3a := hkeep _ _ (bk_below HB0.out hbW) (own_ne HOW.out (HB0.out) (by decide))
              have h3b := hkeep _ _ (bk_below HB1.out hbW) (own_ne HOW.out (HB1.out) (by decide))
              have H3A := Lib.hid h3a
              have H3B := Lib.hid h3b
              have H3O := Lib.hid hown3
              obtain ⟨a0, a1, af⟩ := cells2 h3a
              have hlt3 := bk_lt h3a
              clear hkeep h3a h3b hown3 a0'' a1'' af'' d0'' d1'' df''
              go_wp2
              go_roundw
              case rel =>
                refine ⟨k + 1, q', cp', acc ++ [n], by omega, by go_num, by rw [List.length_append, HA.out]; simp; omega, ?_, bk_far H3B.out (by simp) _, ?_, HRN.out, ?_, ?_⟩
                · have := bk_set H3A.out 0 (.slice (some ⟨q', 0, none⟩) (acc.length + 1) cp')
                  simpa using this
                · have := own_set H3O.out (own_ne H3O.out H3A.out (by decide)) 0 (.slice (some ⟨q', 0, none⟩) (acc.length + 1) cp')
                  simpa [ints] using this
                · intro m hm
                  rcases List.mem_append.1 hm with hm | hm
                  · exact HIN.out m hm
                  · rw [List.mem_singleton.1 hm]; exact hnin
                · exact (bw_then (bw_then HBL.out hbB2) hb3).setCell (by simpa using hB) _
              case measure => simp [RowKit.intOf]; omega
            · have heqs : ((⟨(itoa n).toArray⟩ : ByteArray).toList == x.toList) = false := by rw [hel, hxl, beq_eq_false_iff_ne]; exact hcan
              have e : r = none := by
                rw [HRE.out]
                have : canL x.data.toList = none := by
                  unfold canL
                  rw [hok]
                  exact if_neg hcan
                rw [this]
              clear hel hxl hcan hok
              generalize (⟨(itoa n).toArray⟩ : ByteArray) = it at *
              go_wp2_with fail
              refine (HIT.out _ HE1.out).mono ?_
              rintro e w2 ⟨rfl, hbw2⟩
              have hbW := blw_then hbw hbw2
              obtain ⟨a0'', a1'', af''⟩ := cells2 (bk_below HB0.out hbW)
              obtain ⟨d0'', d1'', df''⟩ := cells2 (bk_below HB1.out hbW)
              have hbB2 := bw_more hbW (Nat.le_trans hB hsz2)
              clear a0' a1' af' d0' d1' df'
              go_wp2
              refine bodyPost_ret (v := .tuple #[.agg #[.slice (some ⟨q, 0, none⟩) acc.length cp, .string ⟨#[]⟩], .bool false]) (res42 rfl rfl rfl (store2 (bk_below HB1.out hbW))) rfl ?_
              refine ⟨_, acc, _, false, rfl, out2 (own_below HOW.out hbW) (bk_below HB1.out hbW) _ _, bel2 (bw_then HBL.out hbB2) (by omega) _ _, HIN.out, by rw [HA.out]; omega, by rw [HA.out]; omega, by decide, .inr ⟨rfl, e⟩⟩
          · have e : r = none := by
              rw [HRE.out]
              have : canL x.data.toList = none := by
                unfold canL
                split
                · rename_i v h; exact absurd h (hno v)
                · rfl
              rw [this]
            clear hno
            go_wp2
            refine bodyPost_ret (v := .tuple #[.agg #[.slice (some ⟨q, 0, none⟩) acc.length cp, .string ⟨#[]⟩], .bool false]) (res42 rfl rfl rfl (store2 (bk_below HB1.out hbw))) rfl ?_
            refine ⟨_, acc, _, false, rfl, out2 (own_below HOW.out hbw) (bk_below HB1.out hbw) _ _, bel2 (bw_then HBL.out hbB) (by omega) _ _, HIN.out, by rw [HA.out]; omega, by rw [HA.out]; omega, by decide, .inr ⟨rfl, e⟩⟩
    · have hke : k = ws.length := by omega
      have e : r = some (acc, []) := by
        rw [← HRR.out, hke, List.drop_length]; rfl
      clear hke
      go_wp2
      refine bodyPost_ret (v := .tuple #[.agg #[.slice (some ⟨q, 0, none⟩) acc.length cp, .string ⟨#[]⟩], .bool true]) (res42 rfl rfl rfl (store2 HB1.out)) rfl ?_
      refine ⟨_, acc, _, true, rfl, out2 HOW.out HB1.out _ _, bel2 HBL.out (by omega) _ _, HIN.out, by rw [HA.out]; omega, by rw [HA.out]; omega, by decide, .inl ⟨rfl, e⟩⟩
end Go.Proofs.YtgeaebcchjmmjaaDoor
