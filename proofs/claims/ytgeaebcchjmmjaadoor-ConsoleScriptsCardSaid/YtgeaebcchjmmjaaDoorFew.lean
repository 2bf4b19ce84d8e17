/- What few of the law of layer 43 answers. -/
import Derived.Test.YtgeaebcchjmmjaaDoorRaws
import Derived.Deep.RegionHeldLaw
namespace Go.Proofs.YtgeaebcchjmmjaaDoor
open Go.RowKit Go.Lib
theorem info42 : (Tryd.prog.info? 42).map (fun i => (i.zero, i.size, i.bytes)) = some (some (.agg #[.slice none 0 0, .string ⟨#[]⟩]), 2, 40) := by kernel_rfl
theorem elem40 : Tryd.prog.underlying 40 = some (.slice (Tryd.prog.elem 40)) := by kernel_rfl
theorem cut40 (A : Option Addr) (n c m : Nat) (hm : m ≤ n) (hn : n ≤ c) (W : World) : (Instr.slice 40 (.slice A n c) none (some (.int .i64 (m : Int))) none).run Tryd.prog W = .ok (.slice A m c) W := by
  have hz : (sizeOf (Tryd.prog.elem 40)).run Tryd.prog W = .ok 1 W := by
    have : Tryd.prog.elem 40 = 3 := by kernel_rfl
    rw [this]
    exact Tryd.sizeOf3 W
  rw [run_slice_h (P := Tryd.prog) W 40 A n c elem40 .i64 (m : Int) (by omega) (by omega), hz]
  have ha : (if c = 0 then A else A.map (·.add (0 * 1))) = A := by
    split
    · rfl
    · cases A with
      | none => rfl
      | some a => rfl
  simp only [Result.andThen, sliced, Int.toNat_natCast, Nat.sub_zero]
  rw [ha]
theorem far_cell {W W' : World} {B e size n : Nat} {v : Value} {xs : List Value} (hown : W.ownsRow B e size v n xs) (hgrow : W.grownBy W' v.ownBlock) (hB : B ≤ W.heap.size) {a : Addr} (ha : a.block < B) {u : Value} (hc : W.cell? a = some u) : W'.cell? a = some u :=
  bw_cell ((Below.refl B W).grown hgrow hB (fun q hq => own_base hown q hq)) ha hc
theorem few_snoc (rs : List Raw) (k : Nat) (r : Raw) (h : rs[k]? = some r) : (rs.take (k + 1)).map cutR = (rs.take k).map cutR ++ [cutR r] := by
  rw [List.take_add_one, h]
  simp
theorem raw_small {w : World} {v : Value} {rs : List Raw} (h : RawsAt w v rs) : rs.length ≤ 9223372036854775807 := h.1
set_option maxRecDepth 100000 in
set_option maxHeartbeats 8000000 in
theorem few_any {v : Value} {rs : List Raw} {w : World} (h : RawsAt w v rs) (hts : ∀ r ∈ rs, r.2.size ≤ 9223372036854775807) : Calls Tryd.prog 25 #[v] w fun e w' => ∃ v', e = .returned v' ∧ RawsAt w' v' (fewR rs) ∧ Below w.heap.size w w' := by
  obtain ⟨i0, hi, hz0, hz1, hz2⟩ := info_parts info42
  obtain ⟨A, cap, rfl⟩ := raws_shape h
  have hrl := h.1
  have HR := Lib.hid h
  have HT := Lib.hid hts
  clear h hts
  go_enter Tryd.func25, Tryd.ntmps25
  go_wp2
  go_loopw [3, 4] (fun v i wr => ∃ (k : Nat) (xs : List Value), k ≤ rs.length ∧ k ≤ 12 ∧ i = .int .i64 (k : Int) ∧ wr.ownsRow w.heap.size 42 2 v k xs ∧ RawCells w xs ((rs.take k).map cutR) ∧ Below w.heap.size w wr) (fun _ i _ => 12 - (RowKit.intOf i).toNat)
  case atStart => exact ⟨0, [], by omega, by omega, rfl, World.ownsRow_nil _ _ _ _, RawCells.nil _, Below.refl _ _⟩
  case round =>
    obtain ⟨k, xs, hk, hk12, rfl, hown, hrc, hbel⟩ := hrel
    have HO := Lib.hid hown
    have HC := Lib.hid hrc
    have HB := Lib.hid hbel
    have hszr := hbel.size
    clear hown hrc hbel
    by_cases hlt : k < rs.length
    · by_cases hlt2 : k < 12
      · obtain ⟨r, hr⟩ : ∃ r, rs[k]? = some r := ⟨rs[k], List.getElem?_eq_getElem hlt⟩
        obtain ⟨b, o, rfl, hbl, hra⟩ := raws_at HR.out hr
        obtain ⟨vn, hc0w, hia, hc1w⟩ := hra
        have hc0 := cell_below HB.out hc0w
        have hc1 := cell_below HB.out hc1w
        clear hc0w hc1w
        obtain ⟨An, cn, rfl⟩ := ints_shape hia
        have hsn := Lib.hid (few_snoc rs k r hr)
        have htt := HT.out r (List.mem_of_getElem? hr)
        obtain ⟨ns, t⟩ := r
        simp only at hc0 hc1 hia htt
        have hnl : ns.length ≤ 9223372036854775807 := hia.2.1
        have hnc : ns.length ≤ cn := by
          rcases hia.2.2 with ⟨rfl, _⟩ | ⟨_, _, _, hv, h4, _⟩
          · simp
          · injection hv with _ _ h3
            subst h3; exact h4
        obtain ⟨m1, hm1⟩ : ∃ m : Nat, min ns.length 6 = m := ⟨_, rfl⟩
        obtain ⟨m2, hm2⟩ : ∃ m : Nat, min t.size 30 = m := ⟨_, rfl⟩
        have hmi1 : min (ns.length : Int) 6 = (m1 : Int) := by omega
        have hmi2 : min (t.size : Int) 30 = (m2 : Int) := by omega
        have hm1n : m1 ≤ ns.length := by omega
        have hm2n : m2 ≤ t.size := by omega
        have hcut := cut40 An ns.length cn m1 hm1n hnc
        have hcs : ∀ W, (Instr.slice 9 (.string t) none (some (.int .i64 (m2 : Int))) none).run Tryd.prog W = .ok (.string (t.extract 0 m2)) W := fun W => by
          go_simp
        have HIA := Lib.hid hia
        have HE : Hid (cutR (ns, t) = (ns.take m1, t.extract 0 m2)) := Lib.hid (by
          unfold cutR
          have : ns.take 6 = ns.take m1 := by rw [← hm1, List.take_eq_take_min, Nat.min_comm]
          simp only [hm2, this])
        have hki : (k : Int) < (rs.length : Int) := by omega
        have hki12 : (k : Int) < 12 := by omega
        have hk0 : (0 : Int) ≤ (k : Int) := by omega
        have hbl1 : b < wr.heap.size := by omega
        have hnews : ∀ (W : World) (h : W.heap[wr.heap.size]? = some (.cells #[.slice An m1 cn, .string (t.extract 0 m2)] 42 (0, 0))), ∀ j u, [Value.slice An m1 cn, .string (t.extract 0 m2)][j]? = some u → W.cell? ((⟨wr.heap.size, 0, none⟩ : Addr).add j) = some u := by
          intro W h j u hj
          match j, hj with
          | 0, hj => simp at hj; subst hj; simpa [Addr.add] using bk_cell h 0
          | 1, hj => simp at hj; subst hj; simpa [Addr.add] using bk_cell h 1
        have hone : ∀ u ∈ [Value.slice An m1 cn, .string (t.extract 0 m2)], u.oneCell' = true := by
          intro u hu; simp at hu; rcases hu with rfl | rfl <;> rfl
        have hbs : w.heap.size ≤ wr.heap.size + 1 := by omega
        have HN : Hid (RawCells w (xs ++ [.slice An m1 cn, .string (t.extract 0 m2)]) ((rs.take (k + 1)).map cutR)) := Lib.hid (by
          rw [hsn.out, HE.out]
          exact HC.out.snoc (r := (ns.take m1, t.extract 0 m2)) (hia.cut m1 hm1n))
        clear hia hm1 hm2 hr
        go_wp2
        go_region_held_law (fun w' => w'.cell? ⟨b, o + k * 2, none⟩ = some (.slice An ns.length cn) ∧ w'.cell? ⟨b, o + k * 2 + 1, none⟩ = some (.string t)) (first | go_keep | (exact ⟨far_cell (World.ownsRow.drew (HO.out.alloc _)) hgrow (by simpa using hbs) hbl (by go_simp), far_cell (World.ownsRow.drew (HO.out.alloc _)) hgrow (by simpa using hbs) hbl (by go_simp)⟩)) ((refine step_append_lies _ rfl _ _ 49 (by rfl) w.heap.size 42 i0 (.agg #[.slice none 0 0, .string ⟨#[]⟩]) 2 40 Tryd.underlying49 hi hz0 hz1 hz2 rfl (by decide) _ _ _ (by rfl) (HO.out.alloc _) ⟨wr.heap.size, 0, none⟩ 1 1 [.slice An m1 cn, .string (t.extract 0 m2)] (by rfl) rfl (hnews _ (heap_alloc_new wr _)) hone (by decide) (by unfold maxLen; omega) (by omega) (by simpa using hbs) (wr.heap.size + 1) (by simp) ?_; intro g cap' w1 hown1 hgrow hat hlt1))
        all_goals
          have HW := Lib.hid hown1
          have hb1 : Below w.heap.size wr w1 := ((Below.refl w.heap.size wr).alloc hszr _).grown ⟨hgrow.os, hgrow.tape, hgrow.output, hgrow.size, hgrow.block⟩ (by simpa using hbs) (fun q hq => own_base HO.out q hq)
          have HB1 := Lib.hid (bw_then HB.out hb1)
          simp only [List.getElem_toArray, List.getElem_cons_succ, List.getElem_cons_zero, List.setIfInBounds_toArray, List.set_cons_succ, List.set_cons_zero]
          clear hown1 hgrow hb1
          go_wp2
          go_roundw
          case rel =>
            refine ⟨k + 1, xs ++ [.slice An m1 cn, .string (t.extract 0 m2)], by omega, by omega, by go_num, HW.out, HN.out, HB1.out⟩
          case measure => simp [RowKit.intOf]; omega
      · have hki : (k : Int) < (rs.length : Int) := by omega
        have hki12 : ¬ (k : Int) < 12 := by omega
        have hfr : fewR rs = (rs.take k).map cutR := by
          unfold fewR
          rw [show k = 12 by omega]
        have hlen : (fewR rs).length = k := by rw [hfr, List.length_map, List.length_take]; omega
        have HFR := Lib.hid hfr
        have HLEN := Lib.hid hlen
        clear hfr hlen
        go_wp2
        go_ret
        refine ⟨_, rfl, raws_of_own (xs := xs) (by rw [HLEN.out]; exact HO.out) (by rw [HFR.out]; exact HC.out.keep (fun _ _ h => h.below HB.out)) (by rw [HLEN.out]; omega), HB.out⟩
    · have hki : ¬ (k : Int) < (rs.length : Int) := by omega
      have hfr : fewR rs = (rs.take k).map cutR := by
        unfold fewR
        rw [List.take_of_length_le (by omega), List.take_of_length_le (by omega)]
      have hlen : (fewR rs).length = k := by rw [hfr, List.length_map, List.length_take]; omega
      have HFR := Lib.hid hfr
      have HLEN := Lib.hid hlen
      clear hfr hlen
      go_wp2
      go_ret
      refine ⟨_, rfl, raws_of_own (xs := xs) (by rw [HLEN.out]; exact HO.out) (by rw [HFR.out]; exact HC.out.keep (fun _ _ h => h.below HB.out)) (by rw [HLEN.out]; omega), HB.out⟩
end Go.Proofs.YtgeaebcchjmmjaaDoor
