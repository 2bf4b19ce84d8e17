/- What Line of package console answers. -/
import Derived.Test.YtgeaebcchjmmjaaDoorCRead
import Derived.Test.YtgeaebcchjmmjaaDoorWords
namespace Go.Proofs.YtgeaebcchjmmjaaDoor
open Go.RowKit Go.Lib
/-- An operation's line, or an error. -/
def lineS (ns : List Int) (t : List UInt8) : List UInt8 × Nat :=
  match ns with
  | [] => ([], 9)
  | k :: ms => if ofE (k :: ms) (ba t) = 0 then (lineL (nmO k).data.toList ms t, 0) else ([], ofE (k :: ms) (ba t))
def LineEnd (r : List UInt8 × Nat) (w : World) (e : Ending) (w' : World) : Prop := e = .returned (.tuple #[.string (ba r.1), .int .i64 r.2]) ∧ Below w.heap.size w w'
def lws (name : ByteArray) (ms : List Int) : List ByteArray := name :: ms.map fun n => ba (itoa n)
theorem lws_snoc (name : ByteArray) (ms : List Int) (k : Nat) (n : Int) (h : ms[k]? = some n) : lws name (ms.take (k + 1)) = lws name (ms.take k) ++ [ba (itoa n)] := by
  unfold lws
  rw [List.take_add_one, h]
  simp
theorem lws_len (name : ByteArray) (ms : List Int) : (lws name ms).length = ms.length + 1 := by simp [lws]
theorem own_slice9 {w : World} {B n : Nat} {v : Value} {xs : List Value} (h : w.ownsRow B 9 1 v n xs) (hn : 0 < n) : ∃ g cap, v = .slice (some ⟨g, 0, none⟩) n cap ∧ n ≤ cap ∧ g < w.heap.size ∧ ∀ j u, xs[j]? = some u → w.cell? ⟨g, 0 + j, none⟩ = some u := by
  have hc := fun g hg => h.cells (g := g) hg
  rcases h.2 with ⟨rfl, h0⟩ | ⟨g, cap, cur, rfl, _, hh, hn2, _⟩
  · omega
  · refine ⟨g, cap, rfl, hn2, bk_lt hh, fun j u hj => ?_⟩
    have := hc g rfl j u hj
    unfold Addr.add at this
    split at this
    · rename_i h0; subst h0; exact this
    · exact this
theorem txW_nil : txW [] = [] := rfl
theorem join_len (ws : List (List UInt8)) (m : Nat) (h : ∀ w ∈ ws, w.length ≤ m) : (joinL ws).length ≤ ws.length * (m + 1) := by
  match ws with
  | [] => simp [joinL]
  | [x] => have := h x (by simp); simp [joinL]; omega
  | x :: y :: r =>
    have h1 := h x (by simp)
    have h2 := join_len (y :: r) m (fun w hw => h w (List.mem_cons_of_mem _ hw))
    simp only [joinL, List.length_append, List.length_cons] at h2 ⊢
    rw [Nat.add_mul (r.length + 1) 1]
    omega
theorem ofE_len {k : Int} {ms : List Int} {t : ByteArray} (h : ofE (k :: ms) t = 0) : ms.length ≤ 3 ∧ okO k = true ∧ t.size ≤ 1048576 := by
  have e : ofE (k :: ms) t = if okO k = false then 9 else if ms.length ≠ (nsO k).size ∨ (t.size ≠ 0 ∧ txO k = false) then 3 else if 1048576 < t.size then 4 else 0 := rfl
  rw [e] at h
  split at h
  · cases h
  · rename_i h1
    split at h
    · cases h
    · rename_i h2
      split at h
      · cases h
      · have := nsO_le k
        refine ⟨?_, by cases hk : okO k; exact absurd hk h1; rfl, by omega⟩
        have h3 : ms.length = (nsO k).size := by
          rcases Nat.decEq ms.length (nsO k).size with h4 | h4
          · exact absurd (.inl h4) h2
          · exact h4
        omega
theorem nmO_len (k : Int) : (nmO k).size ≤ 10 := by
  unfold nmO
  split
  · rename_i h
    have : ∀ i : Nat, i < 24 → (opN i).size ≤ 10 := by decide +kernel
    unfold okO at h
    simp at h
    exact this _ (by omega)
  · decide
theorem ints_shape {w : World} {v : Value} {ns : List Int} (h : IntsAt w v ns) : ∃ A cap, v = .slice A ns.length cap := by
  rcases h.2.2 with ⟨rfl, A, c, rfl⟩ | ⟨b, o, cap, rfl, _, _⟩
  · exact ⟨A, c, rfl⟩
  · exact ⟨_, cap, rfl⟩
theorem ints_cons {w : World} {A : Option Addr} {cap n : Nat} {k : Int} {ms : List Int} (h : IntsAt w (.slice A n cap) (k :: ms)) : ∃ b o, A = some ⟨b, o, none⟩ ∧ n = ms.length + 1 ∧ ms.length + 1 ≤ cap ∧ w.cell? ⟨b, o, none⟩ = some (.int .i64 k) ∧ b < w.heap.size ∧ ∀ j m, ms[j]? = some m → w.cell? ⟨b, o + 1 + j, none⟩ = some (.int .i64 m) := by
  rcases h.2.2 with ⟨h0, _⟩ | ⟨b, o, cap', hv, hn, hc⟩
  · cases h0
  · injection hv with h1 h2 h3
    subst h1; subst h3
    have h0 := hc 0 k rfl
    refine ⟨b, o, rfl, h2, by simpa using hn, h0, World.block_lt_of_cell? w _ h0, fun j m hj => ?_⟩
    have := hc (j + 1) m (by simpa using hj)
    rwa [show o + (j + 1) = o + 1 + j by omega] at this
theorem join_any {W : World} {B : Nat} {v : Value} {n : Nat} (xs : List ByteArray) (h : W.ownsRow B 9 1 v n (strs xs)) (hn : n = xs.length) (h0 : 0 < n) (hN : n ≤ 1000) (hlen : ∀ x ∈ xs, x.size ≤ 5000) :
    Calls Tryd.prog 60 #[v, .string ⟨#[32]⟩] W fun e w' => e = .returned (.string (ba (joinL (dls xs)))) ∧ Below W.heap.size W w' := by
  obtain ⟨g, cap, rfl, hcap, hg, hc⟩ := own_slice9 h h0
  subst hn
  have hl : (join (dls xs) [32]).length ≤ 140737488355328 := by
    rw [joinL_eq]
    have h1 := join_len (dls xs) 5000 (fun w hw => by
      obtain ⟨x, hx, rfl⟩ := List.mem_map.1 hw
      exact hlen x hx)
    have h2 : (dls xs).length = xs.length := by simp [dls]
    rw [h2] at h1
    have h3 : xs.length * (5000 + 1) ≤ 1000 * (5000 + 1) := Nat.mul_le_mul_right _ hN
    omega
  refine (Tryd.strings_Join g 0 cap xs ⟨#[32]⟩ W (fun j x hj => hc j _ (by simp [strs, hj])) hg (by omega) hcap hl).mono ?_
  rintro e w' ⟨he, hb⟩
  refine ⟨?_, hb⟩
  rw [he]
  show Ending.returned (.string (ba (join (dls xs) [32]))) = _
  rw [joinL_eq]
theorem strs_snoc (l : List ByteArray) (x : ByteArray) : strs (l ++ [x]) = strs l ++ [.string x] := by simp [strs]
theorem lws_dls (nm : ByteArray) (ms : List Int) : dls (lws nm ms) = nm.data.toList :: ms.map itoa := by
  simp [dls, lws, ba, Function.comp_def]
theorem line_no (nm : ByteArray) (ms : List Int) : joinL (dls (lws nm ms)) = lineL nm.data.toList ms [] := by
  rw [lws_dls]
  unfold lineL lineW
  rw [txW_nil, List.append_nil]
theorem line_yes (nm : ByteArray) (ms : List Int) (t : List UInt8) (h : t ≠ []) : joinL (dls (lws nm ms ++ [ba (61 :: hexL t)])) = lineL nm.data.toList ms t := by
  have : dls (lws nm ms ++ [ba (61 :: hexL t)]) = lineW nm.data.toList ms t := by
    unfold dls
    rw [List.map_append]
    show dls (lws nm ms) ++ [61 :: hexL t] = _
    rw [lws_dls]
    unfold lineW txW
    rw [if_neg h]
    rfl
  rw [this]
  rfl
theorem itoaB_len {n : Int} (h : InI n) : (ba (itoa n)).size ≤ 5000 := by
  have := itoa_len n h
  show (itoa n).length ≤ 5000
  omega
theorem lws_small (nm : ByteArray) (ms : List Int) (h : nm.size ≤ 10) (hi : ∀ n ∈ ms, InI n) : ∀ x ∈ lws nm ms, x.size ≤ 5000 := by
  intro x hx
  rcases List.mem_cons.1 hx with rfl | hx
  · omega
  · obtain ⟨n, hn, rfl⟩ := List.mem_map.1 hx
    exact itoaB_len (hi n hn)
theorem add_61 (l : List UInt8) : (⟨#[61]⟩ : ByteArray) ++ ⟨l.toArray⟩ = ba (61 :: l) := by
  apply tl_inj
  rw [Lib.toList_data, Lib.toList_data]
  simp [ba]
set_option maxRecDepth 100000 in
set_option maxHeartbeats 4000000 in
theorem consoleLine_any {v : Value} {ns : List Int} (t : ByteArray) {w : World} (hia : IntsAt w v ns) (ht : t.size ≤ 2000) (henv : CEnv w) : Calls Tryd.prog 26 #[.agg #[v, .string t]] w (LineEnd (lineS ns t.data.toList) w) := by
  obtain ⟨A, cap, rfl⟩ := ints_shape hia
  obtain ⟨r, hr⟩ : ∃ r, lineS ns t.data.toList = r := ⟨_, rfl⟩
  rw [hr]
  have HR := Lib.hid hr
  have HIA := Lib.hid hia
  have HE := Lib.hid henv
  have HOF := Lib.hid (fun W (hW : IntsAt W (.slice A ns.length cap) ns) => opOf_any (v := .slice A ns.length cap) (ns := ns) t (w := W) hW (by omega))
  have hln : ns.length ≤ 9223372036854775807 := hia.2.1
  obtain ⟨n, hn⟩ : ∃ n, ofE ns t = n := ⟨_, rfl⟩
  rw [hn] at HOF
  have HN := Lib.hid hn
  clear hr hia henv hn
  go_enter Tryd.func26, Tryd.ntmps26
  go_wp2_with fail
  refine (HOF.out _ (HIA.out.below (blw_alloc (Below.refl _ _) _))).mono ?_
  rintro e w1 ⟨ov, rfl, ⟨oa, ob, oc, od, os, rfl⟩, hb1⟩
  have hx1 := Lib.hid (bk_below (bk_new w (.cells #[.slice A ns.length cap, .string t] 42)) hb1)
  have HB1 := Lib.hid (blw_then (blw_alloc (Below.refl w.heap.size w) _) hb1)
  have hsz1 : w.heap.size + 1 ≤ w1.heap.size := by have := hb1.size; simpa using this
  have hwz1 : w.heap.size < w1.heap.size := by omega
  obtain ⟨c0, c1, cf⟩ := cells2 hx1.out
  clear hb1
  by_cases hn0 : n = 0
  · subst hn0
    cases ns with
    | nil => exact absurd HN.out (show ¬ (9 : Nat) = 0 by decide)
    | cons k ms =>
      obtain ⟨hml, hok, hts⟩ := ofE_len HN.out
      obtain ⟨b, o, rfl, _, hcap, hck, hbl, hcm⟩ := ints_cons HIA.out
      have hkin : InI k := HIA.out.1 k (List.mem_cons_self ..)
      have hck1 := cell_below HB1.out hck
      have HCM := Lib.hid (fun j m (hj : ms[j]? = some m) => cell_below HB1.out (hcm j m hj))
      have HNM := Lib.hid (fun W => opName_any k hkin W)
      have hnl := nmO_len k
      have HR2 : Hid (r = (lineL (nmO k).data.toList ms t.data.toList, 0)) := Lib.hid (by
        rw [← HR.out]
        show (if ofE (k :: ms) (ba t.data.toList) = 0 then _ else _) = _
        rw [ba_data, HN.out, if_pos rfl])
      have hlen : ((k :: ms).length : Int) = (ms.length : Int) + 1 := by simp
      have hpos : 0 < (k :: ms).length := by simp
      clear hcm hck HR
      have hbl1 : b < w1.heap.size := by omega
      go_wp2_with fail
      refine (HNM.out _).mono ?_
      rintro e w2 ⟨rfl, hb2⟩
      have hx2 := Lib.hid (bk_below (bk_alloc hx1.out _) hb2)
      have hsz2 : w1.heap.size + 1 ≤ w2.heap.size := by have := hb2.size; simpa using this
      have hwz2 : w.heap.size < w2.heap.size := by omega
      have HB2 := Lib.hid (blw_then (blw_alloc HB1.out _) hb2)
      have HCM2 := Lib.hid (fun j m (hj : ms[j]? = some m) => cell_below hb2 (cell_below (blw_alloc (Below.refl _ _) _) (HCM.out j m hj)))
      obtain ⟨c0', c1', cf'⟩ := cells2 hx2.out
      obtain ⟨nm, hnm⟩ : ∃ nm, nmO k = nm := ⟨_, rfl⟩
      rw [hnm] at HR2 hnl
      rw [hnm]
      have hown : (w2.alloc (.cells #[.string nm] 9)).ownsRow w2.heap.size 9 1 (.slice (some ⟨w2.heap.size, 0, none⟩) 1 1) 1 (strs (lws nm (ms.take 0))) := World.ownsRow_lit _ _ _ (Nat.le_refl _) (by decide) rfl
      have HOW := Lib.hid hown
      clear hb2 c0 c1 cf hck1 HCM hown hnm HNM
      have hcc : (cap = 1 ∧ ms.length = 0) ∨ cap ≠ 1 := by omega
      rcases hcc with ⟨rfl, hm0⟩ | hcc
      · have hm1 : ms.length ≤ 0 := by omega
        clear hm0
        go_wp2
        go_loopw [6, 27] (fun v i wr => ∃ (j : Nat), j ≤ ms.length ∧ i = .int .i64 (j : Int) ∧ wr.ownsRow w2.heap.size 9 1 v (j + 1) (strs (lws nm (ms.take j))) ∧ Below w2.heap.size w2 wr) (fun _ i _ => ms.length - (RowKit.intOf i).toNat)
        case atStart => exact ⟨0, by omega, rfl, HOW.out, blw_alloc (Below.refl _ _) _⟩
        case round =>
          obtain ⟨j, hj, rfl, hown, hbel⟩ := hrel
          have HO := Lib.hid hown
          have HB := Lib.hid hbel
          obtain ⟨e0, e1, ef⟩ := cells2 (bk_below hx2.out hbel)
          have hszr := hbel.size
          clear hown hbel
          by_cases hlt : j < ms.length
          · first
              | (exfalso; omega)
              | obtain ⟨m, hm⟩ : ∃ m, ms[j]? = some m := ⟨ms[j], List.getElem?_eq_getElem hlt⟩
                have hcm := cell_below HB.out (HCM2.out j m hm)
                have hmin : InI m := HIA.out.1 m (List.mem_cons_of_mem _ (List.mem_of_getElem? hm))
                have HIT := Lib.hid (fun W hW => itoa_any m hmin W hW)
                have HSN := Lib.hid (lws_snoc nm ms j m hm)
                have hlti : (j : Int) < (ms.length : Int) := by omega
                clear hm
                go_wp2_with fail
                refine (HIT.out _ ((HE.out.blw HB2.out).blw HB.out)).mono ?_
                rintro e w3 ⟨rfl, hb3⟩
                have hO3 := own_below HO.out hb3
                have HO3 := Lib.hid hO3
                have HB3 := Lib.hid (blw_then HB.out hb3)
                have hsz3 := hb3.size
                clear hO3 hb3
                go_wp2_with (at_builtin; refine wpList_append1 rfl _ _ 37 rfl 9 (.string ⟨#[]⟩) 16 Tryd.underlying37 info9 rfl w2.heap.size _ (j + 1) (strs (lws nm (ms.take j))) (.string ⟨(itoa m).toArray⟩) w3 rfl HO3.out w3.heap.size 1 rfl rfl rfl rfl (by unfold maxLen; omega) (by omega) (by omega) ?_)
                intro q cp w4 hown4 hb4 _ _
                have HO4 := Lib.hid hown4
                clear hown4
                go_wp2
                go_roundw
                case rel =>
                  refine ⟨j + 1, by omega, by go_num, ?_, bw_then HB3.out hb4⟩
                  have := HO4.out
                  rw [HSN.out]
                  unfold strs at this ⊢
                  rw [List.map_append]
                  exact this
                case measure => simp [RowKit.intOf]; omega
          · have hje : j = ms.length := by omega
            have HO' : Hid (wr.ownsRow w2.heap.size 9 1 u6 (ms.length + 1) (strs (lws nm ms))) := Lib.hid (by
              have := HO.out
              rw [hje, List.take_length] at this
              exact this)
            have hmi : ∀ n ∈ ms, InI n := fun n hn => HIA.out.1 n (List.mem_cons_of_mem _ hn)
            have hxl : (lws nm ms).length = ms.length + 1 := lws_len nm ms
            have hsm := lws_small nm ms hnl hmi
            have hte : (t.toList == []) = decide (t.size = 0) := nil_beq t
            have hlti : ¬ (j : Int) < (ms.length : Int) := by omega
            clear hje HO hlt hj
            by_cases ht0 : t.size = 0
            · have htn : t.toList = [] := eq_of_beq (by rw [hte, ht0]; rfl)
              have hti : t.toList.isEmpty = true := by rw [htn]; rfl
              have e : r = (joinL (dls (lws nm ms)), 0) := by
                rw [HR2.out, line_no]
                have : t.data.toList = [] := by rw [← Lib.toList_data]; exact htn
                rw [this]
              have E := Lib.hid e
              have HJ := Lib.hid (join_any (lws nm ms) HO'.out (by omega) (by omega) (by omega) hsm)
              clear e hte hmi hsm hxl ht0
              go_wp2_with fail
              refine (HJ.out).mono ?_
              rintro e w3 ⟨rfl, hb3⟩
              go_wp2
              go_ret2
              rw [E.out]
              exact ⟨rfl, blw_then (blw_then HB2.out HB.out) hb3⟩
            · have htn : ¬ t.toList = [] := fun h => ht0 (of_decide_eq_true (by rw [← hte, h]; rfl))
              have hti : t.toList.isEmpty = false := by cases h : t.toList; exact absurd h htn; rfl
              have htd : t.data.toList ≠ [] := by rw [← Lib.toList_data]; exact htn
              have e : r = (joinL (dls (lws nm ms ++ [ba (61 :: hexL t.data.toList)])), 0) := by
                rw [HR2.out, line_yes _ _ _ htd]
              have E := Lib.hid e
              have hhl := hexL_len t.data.toList
              have hdl : t.data.toList.length = t.size := rfl
              have HX := Lib.hid (fun W => hexGo_any t (by omega) W)
              have hadd := fun w => run_string_add (P := Tryd.prog) w ⟨#[61]⟩ ⟨(hexL t.data.toList).toArray⟩ (by simp [ByteArray.size]) (by simp [ByteArray.size]; omega)
              simp only [add_61] at hadd
              have hxs : (ba (61 :: hexL t.data.toList)).size ≤ 5000 := by show (61 :: hexL t.data.toList).length ≤ 5000; simp; omega
              have HSM : Hid (∀ x ∈ lws nm ms ++ [ba (61 :: hexL t.data.toList)], x.size ≤ 5000) := Lib.hid (by
                intro x hx
                rcases List.mem_append.1 hx with hx | hx
                · exact hsm x hx
                · rw [List.mem_singleton.1 hx]; exact hxs)
              generalize ba (61 :: hexL t.data.toList) = xx at *
              generalize (⟨(hexL t.data.toList).toArray⟩ : ByteArray) = hh at *
              clear e hte hmi hsm hhl hdl htd hxs
              go_wp2_with fail
              refine (HX.out _).mono ?_
              rintro e w3 ⟨rfl, hb3⟩
              have HO3 := Lib.hid (own_below HO'.out hb3)
              have HB3 := Lib.hid (blw_then HB.out hb3)
              have hsz3 := hb3.size
              clear hb3
              go_wp2_with (at_builtin; refine wpList_append1 rfl _ _ 37 rfl 9 (.string ⟨#[]⟩) 16 Tryd.underlying37 info9 rfl w2.heap.size _ (ms.length + 1) (strs (lws nm ms)) (.string xx) w3 rfl HO3.out w3.heap.size 1 rfl rfl rfl rfl (by unfold maxLen; omega) (by omega) (by omega) ?_)
              intro q cp w4 hown4 hb4 _ _
              rw [← strs_snoc] at hown4
              have HJ := Lib.hid (join_any (lws nm ms ++ [xx]) hown4 (by rw [List.length_append, hxl]; rfl) (by omega) (by omega) HSM.out)
              have HB4 := Lib.hid (bw_then HB3.out hb4)
              clear hown4 hb4 hxl
              go_wp2_with fail
              refine (HJ.out).mono ?_
              rintro e w5 ⟨rfl, hb5⟩
              go_wp2
              go_ret2
              rw [E.out]
              exact ⟨rfl, blw_then (blw_then HB2.out HB4.out) hb5⟩
      · go_wp2
        go_loopw [6, 27] (fun v i wr => ∃ (j : Nat), j ≤ ms.length ∧ i = .int .i64 (j : Int) ∧ wr.ownsRow w2.heap.size 9 1 v (j + 1) (strs (lws nm (ms.take j))) ∧ Below w2.heap.size w2 wr) (fun _ i _ => ms.length - (RowKit.intOf i).toNat)
        case atStart => exact ⟨0, by omega, rfl, HOW.out, blw_alloc (Below.refl _ _) _⟩
        case round =>
          obtain ⟨j, hj, rfl, hown, hbel⟩ := hrel
          have HO := Lib.hid hown
          have HB := Lib.hid hbel
          obtain ⟨e0, e1, ef⟩ := cells2 (bk_below hx2.out hbel)
          have hszr := hbel.size
          clear hown hbel
          by_cases hlt : j < ms.length
          · first
              | (exfalso; omega)
              | obtain ⟨m, hm⟩ : ∃ m, ms[j]? = some m := ⟨ms[j], List.getElem?_eq_getElem hlt⟩
                have hcm := cell_below HB.out (HCM2.out j m hm)
                have hmin : InI m := HIA.out.1 m (List.mem_cons_of_mem _ (List.mem_of_getElem? hm))
                have HIT := Lib.hid (fun W hW => itoa_any m hmin W hW)
                have HSN := Lib.hid (lws_snoc nm ms j m hm)
                have hlti : (j : Int) < (ms.length : Int) := by omega
                clear hm
                go_wp2_with fail
                refine (HIT.out _ ((HE.out.blw HB2.out).blw HB.out)).mono ?_
                rintro e w3 ⟨rfl, hb3⟩
                have hO3 := own_below HO.out hb3
                have HO3 := Lib.hid hO3
                have HB3 := Lib.hid (blw_then HB.out hb3)
                have hsz3 := hb3.size
                clear hO3 hb3
                go_wp2_with (at_builtin; refine wpList_append1 rfl _ _ 37 rfl 9 (.string ⟨#[]⟩) 16 Tryd.underlying37 info9 rfl w2.heap.size _ (j + 1) (strs (lws nm (ms.take j))) (.string ⟨(itoa m).toArray⟩) w3 rfl HO3.out w3.heap.size 1 rfl rfl rfl rfl (by unfold maxLen; omega) (by omega) (by omega) ?_)
                intro q cp w4 hown4 hb4 _ _
                have HO4 := Lib.hid hown4
                clear hown4
                go_wp2
                go_roundw
                case rel =>
                  refine ⟨j + 1, by omega, by go_num, ?_, bw_then HB3.out hb4⟩
                  have := HO4.out
                  rw [HSN.out]
                  unfold strs at this ⊢
                  rw [List.map_append]
                  exact this
                case measure => simp [RowKit.intOf]; omega
          · have hje : j = ms.length := by omega
            have HO' : Hid (wr.ownsRow w2.heap.size 9 1 u6 (ms.length + 1) (strs (lws nm ms))) := Lib.hid (by
              have := HO.out
              rw [hje, List.take_length] at this
              exact this)
            have hmi : ∀ n ∈ ms, InI n := fun n hn => HIA.out.1 n (List.mem_cons_of_mem _ hn)
            have hxl : (lws nm ms).length = ms.length + 1 := lws_len nm ms
            have hsm := lws_small nm ms hnl hmi
            have hte : (t.toList == []) = decide (t.size = 0) := nil_beq t
            have hlti : ¬ (j : Int) < (ms.length : Int) := by omega
            clear hje HO hlt hj
            by_cases ht0 : t.size = 0
            · have htn : t.toList = [] := eq_of_beq (by rw [hte, ht0]; rfl)
              have hti : t.toList.isEmpty = true := by rw [htn]; rfl
              have e : r = (joinL (dls (lws nm ms)), 0) := by
                rw [HR2.out, line_no]
                have : t.data.toList = [] := by rw [← Lib.toList_data]; exact htn
                rw [this]
              have E := Lib.hid e
              have HJ := Lib.hid (join_any (lws nm ms) HO'.out (by omega) (by omega) (by omega) hsm)
              clear e hte hmi hsm hxl ht0
              go_wp2_with fail
              refine (HJ.out).mono ?_
              rintro e w3 ⟨rfl, hb3⟩
              go_wp2
              go_ret2
              rw [E.out]
              exact ⟨rfl, blw_then (blw_then HB2.out HB.out) hb3⟩
            · have htn : ¬ t.toList = [] := fun h => ht0 (of_decide_eq_true (by rw [← hte, h]; rfl))
              have hti : t.toList.isEmpty = false := by cases h : t.toList; exact absurd h htn; rfl
              have htd : t.data.toList ≠ [] := by rw [← Lib.toList_data]; exact htn
              have e : r = (joinL (dls (lws nm ms ++ [ba (61 :: hexL t.data.toList)])), 0) := by
                rw [HR2.out, line_yes _ _ _ htd]
              have E := Lib.hid e
              have hhl := hexL_len t.data.toList
              have hdl : t.data.toList.length = t.size := rfl
              have HX := Lib.hid (fun W => hexGo_any t (by omega) W)
              have hadd := fun w => run_string_add (P := Tryd.prog) w ⟨#[61]⟩ ⟨(hexL t.data.toList).toArray⟩ (by simp [ByteArray.size]) (by simp [ByteArray.size]; omega)
              simp only [add_61] at hadd
              have hxs : (ba (61 :: hexL t.data.toList)).size ≤ 5000 := by show (61 :: hexL t.data.toList).length ≤ 5000; simp; omega
              have HSM : Hid (∀ x ∈ lws nm ms ++ [ba (61 :: hexL t.data.toList)], x.size ≤ 5000) := Lib.hid (by
                intro x hx
                rcases List.mem_append.1 hx with hx | hx
                · exact hsm x hx
                · rw [List.mem_singleton.1 hx]; exact hxs)
              generalize ba (61 :: hexL t.data.toList) = xx at *
              generalize (⟨(hexL t.data.toList).toArray⟩ : ByteArray) = hh at *
              clear e hte hmi hsm hhl hdl htd hxs
              go_wp2_with fail
              refine (HX.out _).mono ?_
              rintro e w3 ⟨rfl, hb3⟩
              have HO3 := Lib.hid (own_below HO'.out hb3)
              have HB3 := Lib.hid (blw_then HB.out hb3)
              have hsz3 := hb3.size
              clear hb3
              go_wp2_with (at_builtin; refine wpList_append1 rfl _ _ 37 rfl 9 (.string ⟨#[]⟩) 16 Tryd.underlying37 info9 rfl w2.heap.size _ (ms.length + 1) (strs (lws nm ms)) (.string xx) w3 rfl HO3.out w3.heap.size 1 rfl rfl rfl rfl (by unfold maxLen; omega) (by omega) (by omega) ?_)
              intro q cp w4 hown4 hb4 _ _
              rw [← strs_snoc] at hown4
              have HJ := Lib.hid (join_any (lws nm ms ++ [xx]) hown4 (by rw [List.length_append, hxl]; rfl) (by omega) (by omega) HSM.out)
              have HB4 := Lib.hid (bw_then HB3.out hb4)
              clear hown4 hb4 hxl
              go_wp2_with fail
              refine (HJ.out).mono ?_
              rintro e w5 ⟨rfl, hb5⟩
              go_wp2
              go_ret2
              rw [E.out]
              exact ⟨rfl, blw_then (blw_then HB2.out HB4.out) hb5⟩
  · have hn1 : ((n : Int) != 0) = true := by rw [bne_iff_ne]; omega
    have e : r = ([], n) := by
      rw [← HR.out]
      cases ns with
      | nil => exact congrArg (fun x => (([] : List UInt8), x)) HN.out
      | cons k ms =>
        show (if ofE (k :: ms) (ba t.data.toList) = 0 then _ else _) = _
        rw [ba_data, HN.out, if_neg hn0]
    subst e
    clear hn0
    go_wp2
    go_ret2
    exact ⟨rfl, blw_alloc HB1.out _⟩
end Go.Proofs.YtgeaebcchjmmjaaDoor
