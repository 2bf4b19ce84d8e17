/- What Read of the page's layer 43 answers. -/
import Derived.Test.YtgeaebcchjmmjaaDoorRReadP
namespace Go.Proofs.YtgeaebcchjmmjaaDoor
open Go.RowKit Go.Lib
/-- The row of numbers behind i names. -/
def NumSt (B : Nat) (kd i : Nat) (W : World) (v : Value) : Prop :=
  ((kd = 0 ∨ i < kd) ∧ v = .slice none 0 0) ∨ (1 ≤ kd ∧ kd ≤ i ∧ ∃ q, v = .slice (some ⟨q, 0, none⟩) 1 1 ∧ W.ownsRow B 3 1 v 1 (ints [(kd : Int)]))
theorem own_at {W : World} {g base : Nat} {e : TypeId} {u : Value} (h : W.heap[g]? = some (.cells #[u] e (0, 0))) (hb : base ≤ g) : W.ownsRow base e 1 (.slice (some ⟨g, 0, none⟩) 1 1) 1 [u] :=
  ⟨rfl, .inr ⟨g, 1, #[u], rfl, hb, h, Nat.le_refl _, by decide, rfl, rfl⟩⟩
theorem own9_cells {w : World} {B n : Nat} {v : Value} (xs : List ByteArray) (h : w.ownsRow B 9 1 v n (strs xs)) (hn : 0 < n) : ∃ g cap, v = .slice (some ⟨g, 0, none⟩) n cap ∧ g < w.heap.size ∧ ∀ (j : Nat) x, xs[j]? = some x → w.cell? ⟨g, j, none⟩ = some (.string x) := by
  obtain ⟨g, cap, hv, _, hg, hc⟩ := own_slice9 h hn
  refine ⟨g, cap, hv, hg, fun j x hj => ?_⟩
  have := hc j (.string x) (by simp [strs, hj])
  rwa [Nat.zero_add] at this
theorem bat_head (y : ByteArray) (c : UInt8) (h : y.data.toList.head? = some c) : 0 < y.size ∧ bat y 0 = c.toNat := by
  have hl : y.data.toList.length = y.size := rfl
  cases e : y.data.toList with
  | nil => rw [e] at h; cases h
  | cons d r =>
    rw [e] at h
    simp at h
    subst h
    rw [e] at hl
    refine ⟨by simp at hl; omega, ?_⟩
    unfold bat
    rw [e]
    rfl
theorem bat_head_not (y : ByteArray) (h : ¬ y.data.toList.head? = some 61) (h0 : 0 < y.size) : bat y 0 ≠ 61 := by
  intro hb
  cases e : y.data.toList with
  | nil => have hl : y.data.toList.length = y.size := rfl; rw [e] at hl; simp at hl; omega
  | cons d r =>
    rw [e] at h
    unfold bat at hb
    rw [e] at hb
    apply h
    have : d = 61 := UInt8.toNat_inj.1 hb
    rw [this]; rfl
theorem wordsR_eq (acc : List Int) (y : List UInt8) (h : y.head? = some 61) : wordsR acc [y] = (acc, bytesR y.tail) := by
  rw [wordsR, if_pos ⟨rfl, h⟩]
theorem wordsR_num (acc : List Int) (y : List UInt8) (l : List (List UInt8)) (h : ¬ (l = [] ∧ y.head? = some 61)) : wordsR acc (y :: l) = wordsR (acc ++ [rdNL y]) l := by
  rw [wordsR, if_neg h]
set_option maxRecDepth 100000 in
set_option maxHeartbeats 4000000 in
theorem refRead_all (s : ByteArray) (hs : s.size ≤ 900) (w : World) : Calls Tryd.prog 23 #[.string s] w (ReadEnd (readS s.data.toList) w) := by
  have hdl := wds_list s
  obtain ⟨ws, hws⟩ : ∃ ws, wds s = ws := ⟨_, rfl⟩
  rw [hws] at hdl
  have HWD := Lib.hid (fun W => refWords_any s (by omega) W)
  rw [hws] at HWD
  have hsz : ∀ x ∈ ws, x.size ≤ 900 := by
    intro x hx
    have h1 : x.data.toList ∈ wdsL s.data.toList := by rw [← hdl]; exact List.mem_map.2 ⟨x, hx, rfl⟩
    have h2 := wdsL_small s.data.toList _ h1
    have h4 : x.data.toList.length = x.size := rfl
    have h5 : s.data.toList.length = s.size := rfl
    omega
  have hcl : ws.length ≤ 901 := by
    have h1 := wdsL_count s.data.toList
    rw [← hdl] at h1
    have h2 : (dls ws).length = ws.length := by simp [dls]
    have h5 : s.data.toList.length = s.size := rfl
    omega
  cases ws with
  | nil => exact absurd hdl.symm (wdsL_ne _)
  | cons x rest =>
    have HRD := Lib.hid (readS_at (s := s.data.toList) (w0 := x.data.toList) (rest := dls rest) hdl.symm)
    rw [ba_data] at HRD
    have HS := Lib.hid hsz
    have HDL := Lib.hid hdl
    have hkl := kindN_le x
    have HKX := Lib.hid (fun i hi => kindN_of x i hi)
    obtain ⟨kd, hkd⟩ : ∃ kd, kindN x = kd := ⟨_, rfl⟩
    have HKD := Lib.hid hkd
    rw [hkd] at HRD HKX hkl
    clear hdl hws hsz hkd
    obtain ⟨r, hr⟩ : ∃ r, readS s.data.toList = r := ⟨_, rfl⟩
    rw [hr] at HRD
    rw [hr]
    clear hr
    have HNM := Lib.hid (fun W => refNames_any W)
    go_enter Tryd.func23, Tryd.ntmps23
    go_wp2_with fail
    refine (HWD.out _).mono ?_
    rintro e w1 ⟨wv, rfl, hown, hb1⟩
    obtain ⟨gw, cw, rfl, hgw, hcw⟩ := own9_cells (x :: rest) hown (by simp)
    have HZ1 := Lib.hid (bk_below (bk_new w (.cells #[.slice none 0 0, .string ⟨#[]⟩] 42)) hb1)
    have HB1 := Lib.hid (blw_then (blw_alloc (Below.refl w.heap.size w) _) hb1)
    have HCW1 := Lib.hid hcw
    clear hown hcw hb1
    go_wp2_with fail
    refine (HNM.out _).mono ?_
    rintro e w2 ⟨gn, rfl, hcn, hb2⟩
    have HZ2 := Lib.hid (bk_below HZ1.out hb2)
    have HB2 := Lib.hid (blw_then HB1.out hb2)
    have HCW := Lib.hid (fun (j : Nat) y (hj : (x :: rest)[j]? = some y) => cell_below hb2 (HCW1.out j y hj))
    have hc0 := hcn 0 (by omega)
    have hgn := World.block_lt_of_cell? w2 _ hc0
    have HCN := Lib.hid hcn
    have hgw2 : gw < w2.heap.size := Nat.lt_of_lt_of_le hgw hb2.size
    have hlen : ((x :: rest).length : Int) = (rest.length : Int) + 1 := by simp
    clear hcn hb2 hc0 HCW1
    go_wp2
    go_loopw [7] (fun i wr => ∃ (k : Nat) (v : Value), k ≤ 24 ∧ i = .int .i64 (k : Int) ∧ wr.heap[w2.heap.size]? = some (.cells #[v, .string ⟨#[]⟩] 42 (0, 0)) ∧ NumSt w2.heap.size kd k wr v ∧ Below w2.heap.size w2 wr) (fun i _ => 24 - (RowKit.intOf i).toNat)
    case atStart => exact ⟨0, _, by omega, rfl, bk_new _ _, .inl ⟨by omega, rfl⟩, blw_alloc (Below.refl _ _) _⟩
    case round =>
      obtain ⟨k, v, hk, rfl, hbx, hst, hbel⟩ := hrel
      have HBX := Lib.hid hbx
      have HST := Lib.hid hst
      have HB := Lib.hid hbel
      have hszr := hbel.size
      obtain ⟨c0, c1, cf⟩ := cells2 hbx
      have hltr := bk_lt hbx
      clear hbx hst hbel
      by_cases hlt : k < 24
      · have hcn := cell_below HB.out (HCN.out k hlt)
        have hcw := cell_below HB.out (HCW.out 0 x rfl)
        have hlti : (k : Int) < 24 := by omega
        by_cases heq : opN k = x
        · have hkd : kd = k + 1 := (HKX.out k hlt).1 heq
          have hbe : ((opN k).toList == x.toList) = true := by rw [heq, beq_iff_eq]
          have HKD2 : Hid (kd = k + 1) := Lib.hid hkd
          have h1k : 1 ≤ kd := by omega
          clear heq hkd
          generalize opN k = nk at *
          go_wp2
          go_quiet (fail)
          have HBQ := Lib.hid (bk_drewN HBX.out nq)
          have HDQ := Lib.hid (blw_drewN HB.out nq)
          have hszq : w2.heap.size < (wr.drewN nq).heap.size := hltr
          obtain ⟨q0, q1, qf⟩ := cells2 HBQ.out
          clear c0 c1 cf hltr
          generalize wr.drewN nq = wq at *
          have qf0 := qf 0
          go_wp2
          go_roundw
          case rel =>
            refine ⟨k + 1, _, by omega, by go_num, bk_alloc (bk_set HBQ.out 0 _) _, .inr ⟨h1k, by rw [HKD2.out]; exact Nat.le_refl _, _, rfl, ?_⟩, blw_alloc (HDQ.out.setCell (Nat.le_refl _) _) _⟩
            exact own_at (by rw [HKD2.out]; exact bk_new_at _ _ (by simp [World.setCell])) (by omega)
          case measure => simp [RowKit.intOf]; omega
        · have hkd : kd ≠ k + 1 := fun h => heq ((HKX.out k hlt).2 h)
          have hbe : ((opN k).toList == x.toList) = false := by rw [beq_eq_false_iff_ne]; exact fun h => heq (tl_inj h)
          clear heq
          generalize opN k = nk at *
          go_wp2
          go_quiet (fail)
          go_wp2
          go_roundw
          case rel =>
            refine ⟨k + 1, v, by omega, by go_num, bk_drewN HBX.out _, ?_, blw_drewN HB.out _⟩
            rcases HST.out with ⟨h1, h2⟩ | ⟨h1, h2, q, h3, h4⟩
            · exact .inl ⟨by omega, h2⟩
            · exact .inr ⟨h1, by omega, q, h3, own_drewN' h4 _⟩
          case measure => simp [RowKit.intOf]; omega
      · have hke : 24 ≤ k := by omega
        have hlti : ¬ (k : Int) < 24 := by omega
        clear hlt
        rcases HST.out with ⟨h1, rfl⟩ | ⟨h1, h2, q, rfl, h4⟩
        · have hk0 : kd = 0 := by omega
          have e : r = ([], [], 9) := by rw [HRD.out, if_pos hk0]
          subst e
          have hz := bk_below HZ2.out HB.out
          obtain ⟨z0, z1, zf⟩ := cells2 hz
          have HZ := Lib.hid hz
          clear hz hk0 h1
          go_wp2
          refine bodyPost_ret (v := .tuple #[.agg #[.slice none 0 0, .string ⟨#[]⟩], .int .i64 9]) (res42 rfl rfl rfl (store2 HZ.out)) rfl ?_
          exact ⟨_, rfl, nilOwn _ _, bel2 (blw_then HB2.out HB.out) (Nat.le_refl _) _ _⟩
        · have hk0 : kd ≠ 0 := by omega
          have HRD2 := Lib.hid (HRD.out.trans (if_neg hk0))
          have HO := Lib.hid h4
          clear h4 h1 h2 HST HKX HNM HRD
          obtain ⟨rr, hrr⟩ : ∃ rr, wordsR [(kd : Int)] (dls rest) = rr := ⟨_, rfl⟩
          have HRR := Lib.hid hrr
          have HBX2 := HBX
          have hkin : ∀ n ∈ [(kd : Int)], InI n := by intro n hn; rw [List.mem_singleton.1 hn]; constructor <;> omega
          have HKI := Lib.hid hkin
          clear hrr hkin
          go_wp2
          obtain ⟨wo, rfl⟩ : ∃ wo : World, wo = wr := ⟨_, rfl⟩
          go_loopw [8] (fun i wr => ∃ (k q cp : Nat) (acc : List Int) (tt : ByteArray), 1 ≤ k ∧ k ≤ rest.length + 1 ∧ i = .int .i64 (k : Int) ∧ wr.heap[w2.heap.size]? = some (.cells #[.slice (some ⟨q, 0, none⟩) acc.length cp, .string tt] 42 (0, 0)) ∧
            wr.ownsRow w2.heap.size 3 1 (.slice (some ⟨q, 0, none⟩) acc.length cp) acc.length (ints acc) ∧ (∀ n ∈ acc, InI n) ∧ acc.length ≤ k ∧ 0 < acc.length ∧ tt.size ≤ 900 ∧
            ((tt = ⟨#[]⟩ ∧ wordsR acc (dls (rest.drop (k - 1))) = rr) ∨ (k = rest.length + 1 ∧ rr = (acc, tt.data.toList))) ∧ Below w2.heap.size w2 wr) (fun i _ => rest.length + 1 - (RowKit.intOf i).toNat)
          case atStart => exact ⟨1, q, 1, [(kd : Int)], ⟨#[]⟩, by omega, by omega, rfl, HBX.out, HO.out, HKI.out, by simp, by simp, by decide, .inl ⟨rfl, HRR.out⟩, HB.out⟩
          case round =>
            clear HO HBX HBX2 c0 c1 cf hltr hszr HB
            obtain ⟨k, q, cp, acc, tt, hk1, hk, rfl, hbx, hown, hin, hal, hap, htt, hst, hbel⟩ := hrel
            have HBX := Lib.hid hbx
            have HO := Lib.hid hown
            have HIN := Lib.hid hin
            have HST := Lib.hid hst
            have HB := Lib.hid hbel
            have hszr := hbel.size
            obtain ⟨c0, c1, cf⟩ := cells2 hbx
            have hltr := bk_lt hbx
            clear hbx hown hin hst hbel
            by_cases hlt : k < rest.length + 1
            · have hst2 : tt = ⟨#[]⟩ ∧ wordsR acc (dls (rest.drop (k - 1))) = rr := by
                rcases HST.out with h | ⟨h, _⟩
                · exact h
                · omega
              obtain ⟨rfl, hrr⟩ := hst2
              obtain ⟨y, hy⟩ : ∃ y, rest[k - 1]? = some y := ⟨rest[k - 1]'(by omega), List.getElem?_eq_getElem (by omega)⟩
              have hy2 : (x :: rest)[k]? = some y := by
                obtain ⟨m, rfl⟩ : ∃ m, k = m + 1 := ⟨k - 1, by omega⟩
                simpa using hy
              have hcy := cell_below HB.out (HCW.out k y hy2)
              have hys := HS.out y (List.mem_of_getElem? hy2)
              have hdrop : dls (rest.drop (k - 1)) = y.data.toList :: dls (rest.drop k) := by
                have := List.getElem?_eq_some_iff.1 hy
                rw [List.drop_eq_getElem_cons (by omega), this.2, show k - 1 + 1 = k by omega]; rfl
              have hlti : (k : Int) < (rest.length : Int) + 1 := by omega
              rw [hdrop] at hrr
              have HRR2 := Lib.hid hrr
              clear hrr hdrop hy hy2 HST
              by_cases heq : y.data.toList.head? = some 61 ∧ k = rest.length
              · obtain ⟨h61, hke⟩ := heq
                obtain ⟨hyp, hy61⟩ := bat_head y 61 h61
                have hix := run_ix y 0 hyp
                rw [hy61] at hix
                simp only [Int.cast_ofNat_Int] at hix
                have hkb : ((k : Int) == (rest.length : Int)) = true := by rw [beq_iff_eq]; omega
                have hgt : decide (0 < y.size) = true := decide_eq_true hyp
                have htl := tail_data y
                have HBR := Lib.hid (fun W => refBytes_any (y.extract 1 y.size) (by rw [ByteArray.size_extract]; omega) W)
                rw [htl] at HBR
                have hre : rr = (acc, bytesR y.data.toList.tail) := by
                  have := HRR2.out
                  rw [hke, List.drop_length] at this
                  rw [← this]
                  exact wordsR_eq _ _ h61
                have hbl := bytesR_len y.data.toList.tail
                have hyl : y.data.toList.tail.length = y.size - 1 := by rw [List.length_tail]; rfl
                have HRE := Lib.hid hre
                have hbs : (⟨(bytesR y.data.toList.tail).toArray⟩ : ByteArray).size ≤ 900 := by show (bytesR y.data.toList.tail).length ≤ 900; omega
                have HBS := Lib.hid hbs
                have hkn : k + 1 = rest.length + 1 := by omega
                have HKN := Lib.hid hkn
                clear htl hre hbl hyl hke h61 hbs hkn hy61
                go_wp2_with fail
                refine (HBR.out _).mono ?_
                rintro e w4 ⟨bb, rfl, hb4⟩
                have HBX4 := Lib.hid (bk_below HBX.out hb4)
                have HO4 := Lib.hid (own_below HO.out hb4)
                have HB4 := Lib.hid (blw_then HB.out hb4)
                obtain ⟨d0, d1, df⟩ := cells2 HBX4.out
                have hlt4 := bk_lt HBX4.out
                clear c0 c1 cf hb4
                go_wp2
                go_roundw
                case rel =>
                  refine ⟨k + 1, q, cp, acc, ⟨(bytesR y.data.toList.tail).toArray⟩, by omega, by omega, by go_num, bk_set HBX4.out 1 _, own_set HO4.out (own_ne HO4.out HBX4.out (by decide)) 1 _, HIN.out, by omega, hap, HBS.out, .inr ⟨HKN.out, HRE.out⟩, ?_⟩
                  exact HB4.out.setCell (Nat.le_refl _) _
                case measure => simp [RowKit.intOf]; omega
              · have hnum : wordsR (acc ++ [rdNL y.data.toList]) (dls (rest.drop k)) = rr := by
                  rw [← HRR2.out]
                  symm
                  refine wordsR_num _ _ _ (fun ⟨h1, h2⟩ => heq ⟨h2, ?_⟩)
                  have := congrArg List.length h1
                  simp [dls] at this
                  omega
                have hin0 := rdNL_in y.data.toList
                rw [← rdN_list] at hin0 hnum
                have HNUM := Lib.hid hnum
                have HRX := Lib.hid (fun W => refRead_any y W (by omega))
                have hcase : ((k : Int) == (rest.length : Int)) = false ∨ (((k : Int) == (rest.length : Int)) = true ∧ decide (0 < y.size) = false) ∨ (((k : Int) == (rest.length : Int)) = true ∧ decide (0 < y.size) = true ∧ ((bat y 0 : Int) == 61) = false) := by
                  by_cases h1 : k = rest.length
                  · have e1 : ((k : Int) == (rest.length : Int)) = true := by rw [beq_iff_eq]; omega
                    by_cases h2 : 0 < y.size
                    · refine .inr (.inr ⟨e1, decide_eq_true h2, ?_⟩)
                      have := bat_head_not y (fun h => heq ⟨h, h1⟩) h2
                      rw [beq_eq_false_iff_ne]; omega
                    · exact .inr (.inl ⟨e1, decide_eq_false h2⟩)
                  · exact .inl (by rw [beq_eq_false_iff_ne]; omega)
                have hal2 : acc.length ≤ 901 := by simp at hcl; omega
                have hk901 : k ≤ 901 := by simp at hcl; omega
                generalize rdN y = m at *
                clear hnum heq HRR2
                rcases hcase with h1 | ⟨h1, h2⟩ | ⟨h1, h2, h3⟩
                all_goals
                  first
                    | have hix := run_ix y 0 (of_decide_eq_true h2)
                      simp only [Int.cast_ofNat_Int] at hix
                    | skip
                  go_wp2_with fail
                  refine (HRX.out _).mono ?_
                  rintro e w4 ⟨bb, kk, rfl, rfl⟩
                  go_wp2_with (at_builtin; refine wpList_append1 rfl _ _ 40 rfl 3 (.int .i64 0) 8 Tryd.underlying40 info3 rfl w2.heap.size _ acc.length (ints acc) (.int .i64 m) (wr.drewN kk) rfl (own_drewN' HO.out _) wr.heap.size 1 rfl rfl rfl rfl (by unfold maxLen; omega) (by omega) (by simpa using hszr) ?_)
                  intro q' cp' w5 hown5 hb5 _ hkeep
                  have H5B := Lib.hid (hkeep _ _ (bk_drewN HBX.out kk) (own_ne HO.out HBX.out (by decide)))
                  have H5O := Lib.hid hown5
                  have HB5 := Lib.hid (bw_then (blw_drewN HB.out kk) hb5)
                  obtain ⟨d0, d1, df⟩ := cells2 H5B.out
                  have hlt5 := bk_lt H5B.out
                  clear hkeep hown5 hb5 c0 c1 cf
                  go_wp2
                  go_roundw
                  case rel =>
                    refine ⟨k + 1, q', cp', acc ++ [m], ⟨#[]⟩, by omega, by omega, by go_num, ?_, ?_, ?_, by rw [List.length_append]; simp; omega, by rw [List.length_append]; simp, by decide, .inl ⟨rfl, HNUM.out⟩, HB5.out.setCell (Nat.le_refl _) _⟩
                    · have := bk_set H5B.out 0 (.slice (some ⟨q', 0, none⟩) (acc.length + 1) cp')
                      simpa using this
                    · have := own_set H5O.out (own_ne H5O.out H5B.out (by decide)) 0 (.slice (some ⟨q', 0, none⟩) (acc.length + 1) cp')
                      simpa [ints] using this
                    · intro z hz
                      rcases List.mem_append.1 hz with hz | hz
                      · exact HIN.out z hz
                      · rw [List.mem_singleton.1 hz]; exact hin0
                  case measure => simp [RowKit.intOf]; omega
            · have hfin : rr = (acc, tt.data.toList) := by
                rcases HST.out with ⟨rfl, h⟩ | ⟨_, h⟩
                · rw [List.drop_of_length_le (by omega)] at h
                  exact h.symm
                · exact h
              have hll : acc.length ≤ 9223372036854775807 := by simp at hcl; omega
              have HLN := Lib.hid (refLine_any (v := .slice (some ⟨q, 0, none⟩) acc.length cp) (ns := acc) tt (w := wr) (ints_of_own HO.out HIN.out hll) (by omega))
              have HLAW := Lib.hid (read_law s.data.toList x (dls rest) HDL.out.symm kd HKD.out hk0 hkl acc tt (HRR.out.trans hfin))
              obtain ⟨⟨bs, n⟩, hbn⟩ : ∃ p, lineS acc tt.data.toList = p := ⟨_, rfl⟩
              rw [hbn] at HLN HLAW
              have hlti2 : ¬ (k : Int) < (rest.length : Int) + 1 := by omega
              clear hbn hfin HST hlt
              go_wp2_with fail
              refine (HLN.out).mono ?_
              rintro e w4 ⟨rfl, hb4⟩
              have HBX4 := Lib.hid (bk_below HBX.out hb4)
              have HO4 := Lib.hid (own_below HO.out hb4)
              have HB4 := Lib.hid (blw_then HB2.out (blw_then HB.out hb4))
              have HZ4 := Lib.hid (bk_below (bk_below HZ2.out HB.out) hb4)
              obtain ⟨d0, d1, df⟩ := cells2 HBX4.out
              obtain ⟨z0, z1, zf⟩ := cells2 HZ4.out
              clear hb4 c0 c1 cf
              by_cases hn0 : n = 0
              · subst hn0
                have hbl : (ba bs).toList = bs := by rw [Lib.toList_data]; rfl
                have hsl : s.toList = s.data.toList := Lib.toList_data s
                by_cases hbe : bs = s.data.toList
                · have hb1 : ((ba bs).toList == s.toList) = true := by rw [hbl, hsl, beq_iff_eq]; exact hbe
                  have e : r = (acc, tt.data.toList, 0) := by
                    rw [HRD2.out, HLAW.out, if_neg]
                    rintro (h | h)
                    · exact h rfl
                    · exact h hbe
                  have E := Lib.hid e
                  clear hbl hsl hbe e
                  generalize ba bs = bb at *
                  go_wp2
                  refine bodyPost_ret (v := .tuple #[.agg #[.slice (some ⟨q, 0, none⟩) acc.length cp, .string tt], .int .i64 0]) (res42 rfl rfl rfl (store2 HZ4.out)) rfl ?_
                  rw [E.out]
                  exact ⟨_, rfl, ⟨own_less (out2 HO4.out HZ4.out _ _) HB2.out.size, HIN.out, hll⟩, bel2 HB4.out (Nat.le_refl _) _ _⟩
                · have hb1 : ((ba bs).toList == s.toList) = false := by rw [hbl, hsl, beq_eq_false_iff_ne]; exact hbe
                  have e : r = ([], [], 3) := by
                    rw [HRD2.out, HLAW.out, if_pos (.inr hbe)]
                  have E := Lib.hid e
                  clear hbl hsl hbe e
                  generalize ba bs = bb at *
                  go_wp2
                  refine bodyPost_ret (v := .tuple #[.agg #[.slice none 0 0, .string ⟨#[]⟩], .int .i64 3]) (res42 rfl rfl rfl (store2 HZ4.out)) rfl ?_
                  rw [E.out]
                  exact ⟨_, rfl, nilOwn _ _, bel2 HB4.out (Nat.le_refl _) _ _⟩
              · have hn1 : ((n : Int) != 0) = true := by rw [bne_iff_ne]; omega
                have e : r = ([], [], 3) := by
                  rw [HRD2.out, HLAW.out, if_pos (.inl hn0)]
                have E := Lib.hid e
                clear hn0 e
                go_wp2
                refine bodyPost_ret (v := .tuple #[.agg #[.slice none 0 0, .string ⟨#[]⟩], .int .i64 3]) (res42 rfl rfl rfl (store2 HZ4.out)) rfl ?_
                rw [E.out]
                exact ⟨_, rfl, nilOwn _ _, bel2 HB4.out (Nat.le_refl _) _ _⟩
end Go.Proofs.YtgeaebcchjmmjaaDoor
