/- What Text of package console answers. -/
import Derived.Test.YtgeaebcchjmmjaaDoorLinesP
import Derived.Test.YtgeaebcchjmmjaaDoorShelf3
import Derived.Lib.AppendIntMem
namespace Go.Proofs.YtgeaebcchjmmjaaDoor
open Go.RowKit Go.Lib
theorem bld_below {w W : World} {B b : Nat} {bs : List Value} (h : Lib.IsBuilder 104 5 B b bs w) (hb : Below w.heap.size w W) : Lib.IsBuilder 104 5 B b bs W := by
  rcases h with ⟨h1, v, h2, h3, h4⟩ | ⟨h1, v, h2, h3, h4⟩
  · exact .inl ⟨h1, v, bk_below h2 hb, own_below h3 hb, h4⟩
  · exact .inr ⟨h1, v, bk_below h2 hb, own_below h3 hb, h4⟩
theorem bld_new (w : World) : Lib.IsBuilder 104 5 w.heap.size w.heap.size (byteCells []) (w.alloc (.cells #[.pointer none, .slice none 0 0] 104)) :=
  .inl ⟨Nat.le_refl _, .slice none 0 0, bk_new _ _, World.ownsRow_nil _ _ _ _, by simp [Value.ownBlock]⟩
theorem byteCells_app (a b : List UInt8) : byteCells a ++ byteCells b = byteCells (a ++ b) := by simp [byteCells]
theorem byteCells_len (a : List UInt8) : (byteCells a).length = a.length := by simp [byteCells]
def TextEnd (r : List UInt8 × Nat × Nat) (w : World) (e : Ending) (w' : World) : Prop := e = .returned (.tuple #[.string (ba r.1), .int .i64 r.2.1, .int .i64 r.2.2]) ∧ Below w.heap.size w w'
set_option maxRecDepth 100000 in
set_option maxHeartbeats 8000000 in
theorem text_any {v : Value} {rs : List Raw} {w : World} (h : RawsAt w v rs) (hr12 : rs.length ≤ 12) (hok : ∀ r ∈ rs, (∀ n ∈ r.1, InI n) ∧ r.2.size ≤ 30) (henv : CEnv w) : Calls Tryd.prog 28 #[v] w (TextEnd (textS rs) w) := by
  obtain ⟨A, cap, rfl⟩ := raws_shape h
  obtain ⟨q, hq⟩ : ∃ q, textS rs = q := ⟨_, rfl⟩
  rw [hq]
  have HQ := Lib.hid hq
  have HR := Lib.hid h
  have HK := Lib.hid hok
  have HE := Lib.hid henv
  clear h hok henv hq
  go_enter Tryd.func28, Tryd.ntmps28
  go_wp2
  go_loopw [12] (fun i wr => ∃ (k : Nat) (acc : List UInt8), k ≤ rs.length ∧ acc.length ≤ 401 * k ∧ i = .int .i64 (k : Int) ∧ Lib.IsBuilder 104 5 w.heap.size w.heap.size (byteCells acc) wr ∧ textGo k acc (rs.drop k) = q ∧ Below w.heap.size w wr) (fun i _ => rs.length - (RowKit.intOf i).toNat)
  case atStart => exact ⟨0, [], by omega, by simp, rfl, bld_new w, HQ.out, blw_alloc (Below.refl _ _) _⟩
  case round =>
    obtain ⟨k, acc, hk, hacc, rfl, hbld, hgo, hbel⟩ := hrel
    have HBD := Lib.hid hbld
    have HG := Lib.hid hgo
    have HB := Lib.hid hbel
    have hszr := hbel.size
    clear hbld hgo hbel
    by_cases hlt : k < rs.length
    · obtain ⟨r, hr⟩ : ∃ r, rs[k]? = some r := ⟨rs[k], List.getElem?_eq_getElem hlt⟩
      obtain ⟨b, o, rfl, hbl, hra⟩ := raws_at HR.out hr
      obtain ⟨vn, hc0, hia, hc1⟩ := hra.below HB.out
      obtain ⟨An, cn, rfl⟩ := ints_shape hia
      obtain ⟨hin, hts⟩ := HK.out r (List.mem_of_getElem? hr)
      have hll := ln_len r hin hts
      have hdrop : rs.drop k = r :: rs.drop (k + 1) := by
        have := List.getElem?_eq_some_iff.1 hr
        rw [List.drop_eq_getElem_cons hlt, this.2]
      have hgo := HG.out
      rw [hdrop, textGo] at hgo
      have HGO := Lib.hid hgo
      obtain ⟨ns, t⟩ := r
      simp only at hc0 hc1 hia hin hts
      have HIA := Lib.hid hia
      have HLN := Lib.hid (fun (W : World) (h1 : IntsAt W (.slice An ns.length cn) ns) (h2 : CEnv W) => consoleLine_any (v := .slice An ns.length cn) (ns := ns) t (w := W) h1 (by omega) h2)
      have hln : lineS ns t.data.toList = lnR (ns, t) := rfl
      rw [hln] at HLN
      obtain ⟨⟨ln, ne⟩, hlr⟩ : ∃ p, lnR (ns, t) = p := ⟨_, rfl⟩
      rw [hlr] at HLN HGO hll
      simp only at HGO hll
      have hlti : (k : Int) < (rs.length : Int) := by omega
      have hbl1 : b < wr.heap.size := by omega
      clear hgo hdrop hln hlr hr hra hia
      go_wp2_with fail
      refine (HLN.out _ (HIA.out.below (blw_alloc (Below.refl _ _) _)) ((HE.out.blw HB.out).blw (blw_alloc (Below.refl _ _) _))).mono ?_
      rintro e w1 ⟨rfl, hb1⟩
      have HB1 := Lib.hid (blw_then (blw_alloc HB.out _) hb1)
      have HBD1 := Lib.hid (bld_below (bld_below HBD.out (blw_alloc (Below.refl _ _) _)) hb1)
      have hsz1 := HB1.out.size
      clear hb1
      by_cases hne : ne = 0
      · subst hne
        have HGO2 : Hid (textGo (k + 1) (acc ++ (ln ++ [10])) (rs.drop (k + 1)) = q) := Lib.hid (by have := HGO.out; rwa [if_pos rfl] at this)
        have hbs : (ba ln).size = ln.length := rfl
        have hr10 : acc.length + ln.length + 1 ≤ 140737488355328 := by omega
        have hbc := byteCells_len acc
        have HW1 := Lib.hid (Tryd.Builder_WriteString w.heap.size w.heap.size (byteCells acc) (ba ln) w1 HBD1.out (by omega) hsz1)
        have hsc : byteCells acc ++ strCells (ba ln) = byteCells (acc ++ ln) := by rw [ba, strCells_toArray, byteCells_app]
        rw [hsc] at HW1
        have HW2 := Lib.hid (fun (W : World) (h1 : Lib.IsBuilder 104 5 w.heap.size w.heap.size (byteCells (acc ++ ln)) W) (h2 : w.heap.size ≤ W.heap.size) => Tryd.Builder_WriteByte w.heap.size w.heap.size (byteCells (acc ++ ln)) 10 W h1 (by rw [byteCells_len, List.length_append]; omega) h2)
        have hsb : byteCells (acc ++ ln) ++ [Value.int .u8 10] = byteCells (acc ++ (ln ++ [10])) := by
          rw [← List.append_assoc, ← byteCells_app (acc ++ ln) [10]]; rfl
        rw [hsb] at HW2
        clear hbs hbc hsc hsb
        go_wp2_with fail
        refine (HW1.out).mono ?_
        rintro e w2 ⟨rfl, hbd2, hb2⟩
        have HBD2 := Lib.hid hbd2
        have HB2 := Lib.hid (bw_then HB1.out hb2)
        have hsz2 := HB2.out.size
        clear hbd2 hb2
        go_wp2_with fail
        refine (HW2.out _ (.inr HBD2.out) hsz2).mono ?_
        rintro e w3 ⟨rfl, hbd3, hb3⟩
        have HBD3 := Lib.hid hbd3
        have HB3 := Lib.hid (bw_then HB2.out hb3)
        clear hbd3 hb3
        go_wp2
        go_roundw
        case rel => exact ⟨k + 1, acc ++ (ln ++ [10]), by omega, by simp; omega, by go_num, .inr HBD3.out, HGO2.out, HB3.out⟩
        case measure => simp [RowKit.intOf]; omega
      · have hn1 : ((ne : Int) != 0) = true := by rw [bne_iff_ne]; omega
        have e : q = ([], k + 1, ne) := by have := HGO.out; rw [if_neg hne] at this; exact this.symm
        subst e
        clear hne HQ HG HGO
        go_wp2
        go_ret3
        exact ⟨rfl, HB1.out⟩
    · have hlti : ¬ (k : Int) < (rs.length : Int) := by omega
      have e : q = (acc, 0, 0) := by
        rw [← HG.out, List.drop_of_length_le (by omega)]; rfl
      subst e
      have HST := Lib.hid (Tryd.Builder_String_any w.heap.size w.heap.size acc wr HBD.out hszr)
      clear HQ HG
      go_wp2_with fail
      refine (HST.out).mono ?_
      rintro e w1 ⟨rfl, hb1⟩
      go_wp2
      go_ret3
      exact ⟨rfl, bw_then HB.out hb1⟩
end Go.Proofs.YtgeaebcchjmmjaaDoor
