/- What Line of the page's layer 43 answers. -/
import Derived.Test.YtgeaebcchjmmjaaDoorCLine
import Derived.Test.YtgeaebcchjmmjaaDoorRefOf
import Derived.Deep.RegionHeld3
namespace Go.Proofs.YtgeaebcchjmmjaaDoor
open Go.RowKit Go.Lib
theorem refOf_any {v : Value} {ns : List Int} (t : ByteArray) {w : World} (h : IntsAt w v ns) : Calls Tryd.prog 61 #[.agg #[v, .string t]] w (RefOfEnd (ns.headD 0) (ofE ns t) w) := by
  obtain ⟨h1, h2, ⟨rfl, A, c, rfl⟩ | ⟨b, o, cap, rfl, h4, h5⟩⟩ := h
  · exact (refOf_none 0 A c t w).mono fun _ _ h => h
  · cases ns with
    | nil => exact refOf_none _ _ _ t w
    | cons k r =>
      simp only [List.length_cons] at h2 h4 ⊢
      have hc : w.cell? ⟨b, o, none⟩ = some (.int .i64 k) := by simpa using h5 0 k (by simp)
      have hk := h1 k (List.mem_cons_self ..)
      cases hok : okO k
      · have : ofE (k :: r) t = 9 := by
          show (if okO k = false then 9 else _) = 9
          rw [if_pos hok]
        rw [this]
        exact refOf_kind b o cap k r t w hk hc (by omega) hok
      · have hk2 : 1 ≤ k ∧ k ≤ 24 := by unfold okO at hok; simpa using hok
        obtain ⟨j, rfl⟩ : ∃ j : Nat, k = j + 1 := ⟨(k - 1).toNat, by omega⟩
        exact refOf_some b o cap j (by omega) r t w (by omega) hc (fun i n hj => h5 (i + 1) n (by simpa using hj))
def flat (ms : List Int) : List UInt8 := ms.flatMap fun n => 32 :: itoa n
theorem joinL_cons (x : List UInt8) : ∀ ws : List (List UInt8), joinL (x :: ws) = x ++ ws.flatMap fun w => 32 :: w
  | [] => by simp [joinL]
  | y :: r => by
    rw [joinL, joinL_cons y r]
    simp
theorem lineL_flat (nm : List UInt8) (ms : List Int) (t : List UInt8) : lineL nm ms t = nm ++ flat ms ++ (if t = [] then [] else 32 :: 61 :: hexL t) := by
  unfold lineL lineW
  rw [joinL_cons, List.flatMap_append]
  have h1 : (ms.map itoa).flatMap (fun w => (32 : UInt8) :: w) = flat ms := by
    unfold flat
    rw [List.flatMap_map]
  rw [h1]
  unfold txW
  split
  · simp
  · have h2 : ([61 :: hexL' t] : List (List UInt8)).flatMap (fun w => (32 : UInt8) :: w) = 32 :: 61 :: hexL' t := by simp
    rw [h2, List.append_assoc]
    rfl
theorem flat_snoc (ns : List Int) (i : Nat) (n : Int) (hi : 1 ≤ i) (h : ns[i]? = some n) : flat ((ns.take (i + 1)).drop 1) = flat ((ns.take i).drop 1) ++ (32 :: itoa n) := by
  have hl : i < ns.length := (List.getElem?_eq_some_iff.1 h).1
  rw [List.take_add_one, h, List.drop_append_of_le_length (by rw [List.length_take]; omega)]
  simp [flat]
theorem flat_len (ms : List Int) (h : ∀ n ∈ ms, InI n) : (flat ms).length ≤ ms.length * 22 := by
  induction ms with
  | nil => simp [flat]
  | cons n ms ih =>
    have h1 := itoa_len n (h n (List.mem_cons_self ..))
    have h2 := ih (fun m hm => h m (List.mem_cons_of_mem _ hm))
    unfold flat at h2 ⊢
    simp only [List.flatMap_cons, List.length_append, List.length_cons] at h2 ⊢
    omega
theorem ba_app (a b : List UInt8) : ba a ++ ba b = ba (a ++ b) := by
  apply tl_inj
  rw [Lib.toList_data, Lib.toList_data]
  simp [ba]
theorem run_cat (a b : List UInt8) (ha : a.length ≤ 1000000) (hb : b.length ≤ 1000000) (w : World) : (Op.stringOp .add (ba a) ⟨b.toArray⟩).run Tryd.prog w = .ok (.string (ba (a ++ b))) w := by
  have h1 : (ba a).size = a.length := rfl
  have h2 : (ba b).size = b.length := rfl
  have := run_string_add (P := Tryd.prog) w (ba a) (ba b) (by omega) (by omega)
  rw [ba_app] at this
  exact this
set_option maxRecDepth 100000 in
set_option maxHeartbeats 4000000 in
theorem refLine_any {v : Value} {ns : List Int} (t : ByteArray) {w : World} (hia : IntsAt w v ns) (ht : t.size ≤ 2000) : Calls Tryd.prog 27 #[.agg #[v, .string t]] w (LineEnd (lineS ns t.data.toList) w) := by
  obtain ⟨A, cap, rfl⟩ := ints_shape hia
  obtain ⟨r, hr⟩ : ∃ r, lineS ns t.data.toList = r := ⟨_, rfl⟩
  rw [hr]
  have HR := Lib.hid hr
  have HIA := Lib.hid hia
  have HOF := Lib.hid (fun W (hW : IntsAt W (.slice A ns.length cap) ns) => refOf_any (v := .slice A ns.length cap) (ns := ns) t (w := W) hW)
  have hln : ns.length ≤ 9223372036854775807 := hia.2.1
  obtain ⟨n, hn⟩ : ∃ n, ofE ns t = n := ⟨_, rfl⟩
  rw [hn] at HOF
  have HN := Lib.hid hn
  clear hr hia hn
  go_enter Tryd.func27, Tryd.ntmps27
  go_wp2_with fail
  refine (HOF.out _ (HIA.out.below (blw_alloc (Below.refl _ _) _))).mono ?_
  rintro e w1 ⟨kd, oa, ob, oc, os, rfl, hkd, hb1⟩
  have hx1 := Lib.hid (bk_below (bk_new w (.cells #[.slice A ns.length cap, .string t] 42)) hb1)
  have HB1 := Lib.hid (blw_then (blw_alloc (Below.refl w.heap.size w) _) hb1)
  have hsz1 : w.heap.size + 1 ≤ w1.heap.size := by have := hb1.size; simpa using this
  have hwz1 : w.heap.size < w1.heap.size := by omega
  obtain ⟨c0, c1, cf⟩ := cells2 hx1.out
  clear hb1
  by_cases hn0 : n = 0
  · subst hn0
    cases ns with
    | nil => exact absurd HN.out (show ¬ (9 : Nat) = 0 by decide)
    | cons k ms =>
      obtain ⟨hml, hok, hts⟩ := ofE_len HN.out
      obtain rfl : kd = k := hkd rfl
      obtain ⟨b, o, rfl, _, hcap, hck, hbl, hcm⟩ := ints_cons HIA.out
      have hk2 : 1 ≤ kd ∧ kd ≤ 24 := by unfold okO at hok; simpa using hok
      obtain ⟨j, rfl⟩ : ∃ j : Nat, kd = j + 1 := ⟨(kd - 1).toNat, by omega⟩
      have hj24 : j < 24 := by omega
      have hnm : nmO ((j : Int) + 1) = opN j := by
        unfold nmO
        rw [hok, if_pos rfl]
        congr 1
        omega
      have hnl := nmO_len ((j : Int) + 1)
      have HR2 : Hid (r = (lineL (opN j).data.toList ms t.data.toList, 0)) := Lib.hid (by
        rw [← HR.out, ← hnm]
        show (if ofE (((j : Int) + 1) :: ms) (ba t.data.toList) = 0 then _ else _) = _
        rw [ba_data, HN.out, if_pos rfl])
      rw [hnm] at hnl
      have HRN := Lib.hid (fun W => refNames_any W)
      clear hcm hck HR hnm hkd hk2
      have hk0 : (w1.alloc (.cells #[.int .i64 ((j : Int) + 1), .int .i64 oa, .int .i64 ob, .int .i64 oc, .string os] 89)).cell? ⟨w1.heap.size, 0, none⟩ = some (.int .i64 ((j : Int) + 1)) := bk_cell (bk_new _ _) 0
      have HX2 := Lib.hid (bk_alloc hx1.out (.cells #[.int .i64 ((j : Int) + 1), .int .i64 oa, .int .i64 ob, .int .i64 oc, .string os] 89))
      have HB2 := Lib.hid (blw_alloc HB1.out (.cells #[.int .i64 ((j : Int) + 1), .int .i64 oa, .int .i64 ob, .int .i64 oc, .string os] 89))
      have hsz2 : w1.heap.size < (w1.alloc (.cells #[.int .i64 ((j : Int) + 1), .int .i64 oa, .int .i64 ob, .int .i64 oc, .string os] 89)).heap.size := by simp
      clear c0 c1 cf
      go_wp2
      generalize (w1.alloc (.cells #[.int .i64 ((j : Int) + 1), .int .i64 oa, .int .i64 ob, .int .i64 oc, .string os] 89)) = w2 at *
      have HK0 := Lib.hid hk0
      have hsub : IntKind.i64.wrap ((j : Int) + 1 - 1) = (j : Int) := IntWalk.i64_in _ (by omega) |>.trans (by omega)
      have hji : (j : Int) < 24 := by omega
      have hj0 : (0 : Int) ≤ (j : Int) := by omega
      have hwj : IntKind.i64.wrap (j : Int) = (j : Int) := IntWalk.i64_in _ (by omega)
      go_region_with ((go_at_call 54; refine (HRN.out _).mono ?_; rintro e w3 ⟨g, rfl, hcs, hb3⟩; have hcj := hcs j hj24; have HCS := Lib.hid hcs; have hk1 := cell_below hb3 HK0.out; clear hcs))
      all_goals
        have hb3' : Below w2.heap.size w2 w3 := ⟨hb3.os, hb3.tape, hb3.output, hb3.size, hb3.block⟩
        have HX3 := Lib.hid (bk_below HX2.out hb3')
        have HB3 := Lib.hid (blw_then HB2.out hb3')
        obtain ⟨nm, hnm⟩ : ∃ nm, opN j = nm := ⟨_, rfl⟩
        rw [hnm] at HR2 hnl
        rw [hnm]
        obtain ⟨kk, hkk⟩ : ∃ kk : Int, (j : Int) + 1 = kk := ⟨_, rfl⟩
        rw [hkk] at HIA HX3
        have hlen : ((kk :: ms).length : Int) = (ms.length : Int) + 1 := by simp
        have HX3' : Hid (w3.heap[w.heap.size]? = some (.cells #[.slice (some ⟨b, o, none⟩) (ms.length + 1) cap, .string t] 42 (0, 0))) := HX3
        have HMI : Hid (∀ n ∈ kk :: ms, InI n) := Lib.hid HIA.out.1
        have HCM : Hid (∀ q m, (kk :: ms)[q]? = some m → w3.cell? ⟨b, o + q, none⟩ = some (.int .i64 m)) := Lib.hid (by
          intro q m hm
          rcases HIA.out.2.2 with ⟨h, _⟩ | ⟨b', o', c', hv, _, hc⟩
          · cases h
          · injection hv with h1 _ _
            injection h1 with h1
            injection h1 with h1 h2
            subst h1; subst h2
            exact cell_below HB3.out (hc q m hm))
        clear hb3 hb3' HX2 HB2 hk0 HK0 hsub hji hj0 hwj hcj HCS hnm hkk HX3
        go_wp2
        go_loopw [6, 7] (fun v i wr => ∃ (q : Nat), 1 ≤ q ∧ q ≤ ms.length + 1 ∧ i = .int .i64 (q : Int) ∧ v = .string (ba (nm.data.toList ++ flat (((kk :: ms).take q).drop 1))) ∧ Below w3.heap.size w3 wr) (fun _ i _ => ms.length + 1 - (RowKit.intOf i).toNat)
        case atStart => exact ⟨1, by omega, by omega, rfl, by rw [show ((kk :: ms).take 1).drop 1 = [] from rfl]; simp [flat, ba], Below.refl _ _⟩
        case round =>
          obtain ⟨q, hq1, hq, rfl, rfl, hbel⟩ := hrel
          have HB := Lib.hid hbel
          obtain ⟨c0, c1, cf⟩ := cells2 (bk_below HX3'.out hbel)
          have hfl := flat_len (((kk :: ms).take q).drop 1) (fun n hn => HMI.out n (List.mem_of_mem_take (List.mem_of_mem_drop hn)))
          have hfl2 : (((kk :: ms).take q).drop 1).length ≤ 3 := by rw [List.length_drop, List.length_take]; simp; omega
          have hnd : nm.data.toList.length = nm.size := rfl
          clear hbel
          obtain ⟨L, hL⟩ : ∃ L, nm.data.toList ++ flat (((kk :: ms).take q).drop 1) = L := ⟨_, rfl⟩
          have hLl : L.length ≤ 200 := by rw [← hL, List.length_append]; omega
          rw [hL]
          have HL := Lib.hid hL
          clear hL hfl hfl2 hnd
          by_cases hlt : q < ms.length + 1
          · obtain ⟨m, hm⟩ : ∃ m, (kk :: ms)[q]? = some m := ⟨(kk :: ms)[q]'(by simp; omega), List.getElem?_eq_getElem (by simp; omega)⟩
            have hcm := cell_below HB.out (HCM.out q m hm)
            have hmin : InI m := HMI.out m (List.mem_of_getElem? hm)
            have HNU := Lib.hid (fun W => number_any m hmin W)
            have hil := itoa_len m hmin
            have had1 := fun w => run_cat L [32] (by omega) (by decide) w
            have had2 := fun w => run_cat (L ++ [32]) (itoa m) (by rw [List.length_append]; simp; omega) (by omega) w
            have HSN : Hid (nm.data.toList ++ flat (((kk :: ms).take (q + 1)).drop 1) = L ++ 32 :: itoa m) := Lib.hid (by rw [flat_snoc _ _ _ hq1 hm, ← HL.out]; simp)
            have hlti : (q : Int) < (ms.length : Int) + 1 := by omega
            clear hm
            go_wp2_with fail
            refine (HNU.out _).mono ?_
            rintro e w4 ⟨rfl, kq, rfl⟩
            go_wp2
            go_roundw
            case rel => exact ⟨q + 1, by omega, by omega, by go_num, by rw [HSN.out], blw_drewN HB.out _⟩
            case measure => simp [RowKit.intOf]; omega
          · have hqe : q = ms.length + 1 := by omega
            have hlti : ¬ (q : Int) < (ms.length : Int) + 1 := by omega
            have HLE : Hid (L = nm.data.toList ++ flat ms) := Lib.hid (by rw [← HL.out, hqe]; simp)
            clear hqe hlt hq
            by_cases ht0 : t.size = 0
            · have htd : t.data.toList = [] := List.eq_nil_of_length_eq_zero ht0
              have e : r = (L, 0) := by rw [HR2.out, lineL_flat, htd, if_pos rfl, List.append_nil, ← HLE.out]
              subst e
              have hgt : decide (0 < t.size) = false := decide_eq_false (by omega)
              clear ht0
              go_wp2
              go_ret2
              exact ⟨rfl, blw_then HB3.out HB.out⟩
            · have htd : t.data.toList ≠ [] := fun h => ht0 (show t.data.toList.length = 0 by rw [h]; rfl)
              have e : r = (L ++ 32 :: 61 :: hexL t.data.toList, 0) := by rw [HR2.out, lineL_flat, if_neg htd, ← HLE.out]
              have hgt : decide (0 < t.size) = true := decide_eq_true (by omega)
              have hhl := hexL_len t.data.toList
              have hdl : t.data.toList.length = t.size := rfl
              have HX := Lib.hid (fun W => refHex_any t (by omega) W)
              have had1 := fun w => run_cat L [32, 61] (by omega) (by decide) w
              have had2 := fun w => run_cat (L ++ [32, 61]) (hexL t.data.toList) (by rw [List.length_append]; simp; omega) (by omega) w
              have E := Lib.hid e
              clear ht0 htd hhl hdl e
              generalize hexL t.data.toList = hx at *
              go_wp2_with fail
              refine (HX.out _).mono ?_
              rintro e w4 ⟨rfl, kq, rfl⟩
              go_wp2
              go_ret2
              rw [E.out]
              exact ⟨rfl, blw_drewN (blw_then HB3.out HB.out) _⟩
  · have hn1 : ((n : Int) != 0) = true := by rw [bne_iff_ne]; omega
    have e : r = ([], n) := by
      rw [← HR.out]
      cases ns with
      | nil => exact congrArg (fun x => (([] : List UInt8), x)) HN.out
      | cons k ms =>
        show (if ofE (k :: ms) (ba t.data.toList) = 0 then _ else _) = _
        rw [ba_data, HN.out, if_neg hn0]
    subst e
    clear hn0
    go_wp2
    go_ret2
    exact ⟨rfl, blw_alloc HB1.out _⟩
end Go.Proofs.YtgeaebcchjmmjaaDoor
