/- What Bytes of the page's layer 41 answers: the text alone counts. -/
import Derived.Test.YtgeaebcchjmmjaaDoorBytesGo
import Derived.Test.YtgeaebcchjmmjaaDoorOwn
namespace Go.Proofs.YtgeaebcchjmmjaaDoor
open Go.RowKit Go.Lib
theorem bytesR_at (s : ByteArray) (k : Nat) (hk : k + 1 < s.size) : bytesR (s.data.toList.drop k) = if hv (bat s k) < 0 ∨ hv (bat s (k + 1)) < 0 then bytesR (s.data.toList.drop (k + 2)) else UInt8.ofNat ((hv (bat s k)).toNat * 16 + (hv (bat s (k + 1))).toNat) :: bytesR (s.data.toList.drop (k + 2)) := by
  have h1 : k < s.data.toList.length := by have : s.data.toList.length = s.size := rfl; omega
  have h2 : k + 1 < s.data.toList.length := by have : s.data.toList.length = s.size := rfl; omega
  have e1 : UInt8.ofNat (bat s k) = s.data.toList[k] := by unfold bat; rw [List.getD_eq_getElem?_getD, List.getElem?_eq_getElem h1]; simp
  have e2 : UInt8.ofNat (bat s (k + 1)) = s.data.toList[k + 1] := by unfold bat; rw [List.getD_eq_getElem?_getD, List.getElem?_eq_getElem h2]; simp
  rw [List.drop_eq_getElem_cons h1, List.drop_eq_getElem_cons h2, bytesR]
  unfold hv
  rw [e1, e2]
/-- What is found among the bytes from b on. -/
def foundFrom (x y : UInt8) (b : Nat) : List UInt8 := if indexByte digs16 x < 0 ∨ indexByte digs16 y < 0 then [] else if (indexByte digs16 x).toNat * 16 + (indexByte digs16 y).toNat < b then [] else [UInt8.ofNat ((indexByte digs16 x).toNat * 16 + (indexByte digs16 y).toNat)]
theorem found_is (x y : UInt8) (b : Nat) (hb : b < 256) : (hexL [UInt8.ofNat b] = [x, y]) ↔ (0 ≤ indexByte digs16 x ∧ 0 ≤ indexByte digs16 y ∧ (indexByte digs16 x).toNat * 16 + (indexByte digs16 y).toNat = b) := by
  have e : (UInt8.ofNat b).toNat = b := by rw [UInt8.toNat_ofNat']; omega
  have hh : hexL [UInt8.ofNat b] = [hexD' (b / 16), hexD' (b % 16)] := by
    show [hexD ((UInt8.ofNat b).toNat / 16), hexD ((UInt8.ofNat b).toNat % 16)] = _
    rw [e]; rfl
  rw [hh]
  constructor
  · intro h
    simp only [List.cons.injEq, and_true] at h
    rw [← h.1, ← h.2, ix_hexD _ (by omega), ix_hexD _ (by omega)]
    omega
  · rintro ⟨h1, h2, h3⟩
    rcases ix_of x with hx | ⟨q, hq, hx, rfl⟩
    · omega
    rcases ix_of y with hy | ⟨p, hp, hy, rfl⟩
    · omega
    rw [hx, hy] at h3
    simp only [Int.toNat_natCast] at h3
    rw [show b / 16 = q by omega, show b % 16 = p by omega]
theorem found_0 (x y : UInt8) (r : List UInt8) : bytesR (x :: y :: r) = foundFrom x y 0 ++ bytesR r := by
  rw [bytesR]
  unfold foundFrom
  split
  · rfl
  · rw [if_neg (by omega)]; rfl
theorem found_hit (x y : UInt8) (b : Nat) (hb : b < 256) (h : hexL [UInt8.ofNat b] = [x, y]) : foundFrom x y b = UInt8.ofNat b :: foundFrom x y (b + 1) := by
  obtain ⟨h1, h2, h3⟩ := (found_is x y b hb).1 h
  unfold foundFrom
  rw [if_neg (by omega), if_neg (by omega), if_neg (by omega), if_pos (by omega), h3]
theorem found_miss (x y : UInt8) (b : Nat) (hb : b < 256) (h : hexL [UInt8.ofNat b] ≠ [x, y]) : foundFrom x y b = foundFrom x y (b + 1) := by
  have hn := fun hh => h ((found_is x y b hb).2 hh)
  unfold foundFrom
  split
  · rfl
  · rename_i h1
    by_cases h2 : (indexByte digs16 x).toNat * 16 + (indexByte digs16 y).toNat < b
    · rw [if_pos h2, if_pos (by omega)]
    · rw [if_neg h2, if_neg (fun h3 => hn ⟨by omega, by omega, by omega⟩)]
theorem found_end (x y : UInt8) : foundFrom x y 256 = [] := by
  unfold foundFrom
  split
  · rfl
  · rcases ix_of x with hx | ⟨q, hq, hx, rfl⟩
    · rename_i h; exact absurd (.inl (by omega)) h
    rcases ix_of y with hy | ⟨p, hp, hy, rfl⟩
    · rename_i h; exact absurd (.inr (by omega)) h
    rw [hx, hy, if_pos (by simp only [Int.toNat_natCast]; omega)]
theorem drop_two (s : ByteArray) (k : Nat) (hk : k + 1 < s.size) : s.data.toList.drop k = UInt8.ofNat (bat s k) :: UInt8.ofNat (bat s (k + 1)) :: s.data.toList.drop (k + 2) := by
  have h1 : k < s.data.toList.length := by have : s.data.toList.length = s.size := rfl; omega
  have h2 : k + 1 < s.data.toList.length := by have : s.data.toList.length = s.size := rfl; omega
  have e1 : UInt8.ofNat (bat s k) = s.data.toList[k] := by unfold bat; rw [List.getD_eq_getElem?_getD, List.getElem?_eq_getElem h1]; simp
  have e2 : UInt8.ofNat (bat s (k + 1)) = s.data.toList[k + 1] := by unfold bat; rw [List.getD_eq_getElem?_getD, List.getElem?_eq_getElem h2]; simp
  rw [List.drop_eq_getElem_cons h1, List.drop_eq_getElem_cons h2, e1, e2]
theorem extract_two (s : ByteArray) (k : Nat) (hk : k + 1 < s.size) : (s.extract k (k + 2)).toList = [UInt8.ofNat (bat s k), UInt8.ofNat (bat s (k + 1))] := by
  rw [Lib.toList_data, Lib.extract_data, drop_two s k hk, show k + 2 - k = 2 by omega]
  rfl
def BytesREnd (r : List UInt8) (w : World) (e : Ending) (w' : World) : Prop := ∃ b, e = .returned (.tuple #[.string ⟨r.toArray⟩, .bool b]) ∧ Below w.heap.size w w'
set_option maxRecDepth 100000 in
set_option maxHeartbeats 4000000 in
theorem refBytes_any (s : ByteArray) (hs : s.size ≤ 1000) (w : World) : Calls Tryd.prog 55 #[.string s] w (BytesREnd (bytesR s.data.toList) w) := by
  obtain ⟨i0, hi, hz0, hz1, hz2⟩ := info_parts info5
  have hlen : s.data.toList.length = s.size := rfl
  obtain ⟨r, hr⟩ : ∃ r, bytesR s.data.toList = r := ⟨_, rfl⟩
  rw [hr]
  have HR := Lib.hid hr
  clear hr
  go_enter Tryd.func55, Tryd.ntmps55
  go_wp2
  go_loopw [4, 5] (fun v i wr => ∃ (k : Nat) (acc : List UInt8), k ≤ s.size + 1 ∧ acc.length ≤ 256 * k ∧ i = .int .i64 (k : Int) ∧ wr.ownsRow w.heap.size 5 1 v acc.length (u8b acc) ∧ acc ++ bytesR (s.data.toList.drop k) = r ∧ Below w.heap.size w wr) (fun _ i _ => s.size + 1 - (RowKit.intOf i).toNat)
  case atStart => exact ⟨0, [], by omega, by simp, rfl, World.ownsRow_nil _ _ _ _, by simpa using HR.out, Below.refl _ _⟩
  case round =>
    obtain ⟨k, acc, hk, hacc, rfl, hown, hrr, hbel⟩ := hrel
    have HO := Lib.hid hown
    have HRR := Lib.hid hrr
    have HB0 := Lib.hid hbel
    clear hown hrr
    by_cases hlt : k + 1 < s.size
    · have hex := extract_two s k hlt
      have hd := drop_two s k hlt
      have HRR2 : Hid (acc ++ (foundFrom (UInt8.ofNat (bat s k)) (UInt8.ofNat (bat s (k + 1))) 0 ++ bytesR (s.data.toList.drop (k + 2))) = r) := Lib.hid (by rw [← found_0, ← hd]; exact HRR.out)
      have HEX := Lib.hid hex
      clear hex hd
      generalize UInt8.ofNat (bat s k) = x at *
      generalize UInt8.ofNat (bat s (k + 1)) = y at *
      have hlti : (k : Int) + 1 < (s.size : Int) := by omega
      have hsl : ∀ W, (Instr.slice 9 (.string s) (some (.int .i64 (k : Int))) (some (.int .i64 ((k : Int) + 2))) none).run Tryd.prog W = .ok (.string (s.extract k (k + 2))) W := fun W => by
        have := run_slice_string (P := Tryd.prog) W 9 s .i64 .i64 k ((k : Int) + 2) Tryd.underlying9 (by omega) (by omega) (by omega)
        rw [this]
        rfl
      have HSL := Lib.hid hsl
      clear hsl
      go_wp2
      obtain ⟨wo, rfl⟩ : ∃ wo : World, wo = wr := ⟨_, rfl⟩
      go_loopw [4, 6] (fun v j wr => ∃ (b : Nat) (ac : List UInt8), b ≤ 256 ∧ ac.length ≤ acc.length + b ∧ j = .int .i64 (b : Int) ∧ wr.ownsRow w.heap.size 5 1 v ac.length (u8b ac) ∧ ac ++ (foundFrom x y b ++ bytesR (s.data.toList.drop (k + 2))) = r ∧ Below w.heap.size w wr) (fun _ j _ => 256 - (RowKit.intOf j).toNat)
      case atStart => exact ⟨0, acc, by omega, by omega, rfl, HO.out, HRR2.out, hbel⟩
      case round =>
        obtain ⟨b, ac, hb, hac, rfl, hown, hrr, hbel⟩ := hrel
        have HO := Lib.hid hown
        have HRR := Lib.hid hrr
        clear hown hrr
        by_cases hb2 : b < 256
        · have hsl := HSL.out
          have hsum : IntKind.i64.wrap ((k : Int) + 2) = (k : Int) + 2 := IntWalk.i64_in _ (by omega)
          have hu8 : IntKind.u8.wrap (b : Int) = (b : Int) := by rw [IntKind.wrap_u8]; omega
          have hb2i : (b : Int) < 256 := by omega
          have hcv : ∀ W : World, W.cell? ⟨wr.heap.size, 0, none⟩ = some (.int .u8 (b : Int)) → (convert 65 9 (.slice (some ⟨wr.heap.size, 0, none⟩) 1 1)).run Tryd.prog W = .ok (.string ⟨#[UInt8.ofNat b]⟩) W := fun W hW => by
            have e : (UInt8.ofNat b).toNat = b := by rw [UInt8.toNat_ofNat']; omega
            exact run_convert_bytes_back (P := Tryd.prog) W 65 9 5 ⟨wr.heap.size, 0, none⟩ 1 [UInt8.ofNat b] Tryd.underlying65 Tryd.underlying5 Tryd.underlying9 (fun j hj => by
              have : j = 0 := by simpa using hj
              subst this
              simpa [e, Addr.add] using hW)
          have HX := Lib.hid (fun W => refHex_any ⟨#[UInt8.ofNat b]⟩ (by simp [ByteArray.size]) W)
          have hlist : (⟨(hexL (⟨#[UInt8.ofNat b]⟩ : ByteArray).data.toList).toArray⟩ : ByteArray).toList = hexL [UInt8.ofNat b] := by rw [Lib.toList_data]
          have hbne : (wr.heap.size : Nat) + 1 ≠ 0 := by omega
          by_cases heq : hexL [UInt8.ofNat b] = [x, y]
          · have htest : ((⟨(hexL (⟨#[UInt8.ofNat b]⟩ : ByteArray).data.toList).toArray⟩ : ByteArray).toList == (s.extract k (k + 2)).toList) = true := by rw [hlist, HEX.out, heq, beq_iff_eq]
            have HF := Lib.hid (found_hit x y b hb2 heq)
            generalize (⟨(hexL (⟨#[UInt8.ofNat b]⟩ : ByteArray).data.toList).toArray⟩ : ByteArray) = hx at *
            clear heq hlist
            go_wp2
            go_region_held_law (fun _ => True) (trivial) ((go_at_call 63; refine (HX.out _).mono ?_; rintro e w1 ⟨rfl, kk, rfl⟩))
            have hn0 : ac.length ≤ 2000000 := by omega
            have hzz : ((UInt8.ofNat b).toNat : Int) = (b : Int) := by rw [UInt8.toNat_ofNat']; omega
            go_wp2_with (at_builtin; refine wpList_append1 rfl _ _ 65 rfl 5 (.int .u8 0) 1 Tryd.underlying65 info5 rfl w.heap.size _ _ _ (.int .u8 (b : Int)) ((wr.alloc (.cells #[.int .u8 (b : Int)] 5)).drewN (1 + kk)) rfl (own_drewN' (HO.out.alloc _) _) (wr.heap.size + 1) 1 (by simp) rfl rfl rfl (by unfold maxLen; omega) (by omega) (by have := hbel.size; simp; omega) ?_)
            intro q cap w2 hown' hb2' _ _
            have hb2' : Below w.heap.size w w2 := bw_then (blw_drewN (blw_alloc hbel _) _) hb2'
            have HB := Lib.hid hown'
            have HB2 := Lib.hid hb2'
            clear hown' hb2'
            go_wp2
            go_roundw
            case rel =>
              refine ⟨b + 1, ac ++ [UInt8.ofNat b], by omega, by rw [List.length_append]; simp; omega, by go_num, ?_, by have := HRR.out; rw [HF.out] at this; simpa using this, HB2.out⟩
              have := HB.out
              unfold u8b at *
              rw [List.length_append, List.map_append, List.map_cons, hzz]
              exact this
            case measure => simp [RowKit.intOf]; omega
          · have htest : ((⟨(hexL (⟨#[UInt8.ofNat b]⟩ : ByteArray).data.toList).toArray⟩ : ByteArray).toList == (s.extract k (k + 2)).toList) = false := by rw [hlist, HEX.out, beq_eq_false_iff_ne]; exact heq
            have HF := Lib.hid (found_miss x y b hb2 heq)
            generalize (⟨(hexL (⟨#[UInt8.ofNat b]⟩ : ByteArray).data.toList).toArray⟩ : ByteArray) = hx at *
            clear heq hlist
            go_wp2
            go_region_held_law (fun _ => True) (trivial) ((go_at_call 63; refine (HX.out _).mono ?_; rintro e w1 ⟨rfl, kk, rfl⟩))
            go_wp2
            go_roundw
            case rel => exact ⟨b + 1, ac, by omega, by omega, by go_num, HO.out.alloc _, by rw [← HF.out]; exact HRR.out, blw_drewN (blw_alloc hbel _) _⟩
            case measure => simp [RowKit.intOf]; omega
        · have hbe : b = 256 := by omega
          subst hbe
          have HRR3 : Hid (ac ++ bytesR (s.data.toList.drop (k + 2)) = r) := Lib.hid (by have := HRR.out; rwa [found_end] at this)
          go_wp2
          go_roundw
          case rel => exact ⟨k + 2, ac, by omega, by omega, by go_num, HO.out, HRR3.out, hbel⟩
          case measure => simp [RowKit.intOf]; omega
    · have hdr : bytesR (s.data.toList.drop k) = [] := by
        have hl2 : (s.data.toList.drop k).length ≤ 1 := by rw [List.length_drop, hlen]; omega
        match h : s.data.toList.drop k, hl2 with
        | [], _ => rfl
        | [_], _ => rfl
      have e : r = acc := by rw [← HRR.out, hdr, List.append_nil]
      subst e
      have hlti : ¬ ((k : Int) + 1 < (s.size : Int)) := by omega
      have hown := HO.out
      have hcells := fun g hg => hown.cells (g := g) hg
      have hr0 : r.length ≤ 260000 := by omega
      have HX := Lib.hid (fun W => refHex_any ⟨r.toArray⟩ (by simp [ByteArray.size]; omega) W)
      clear hdr
      obtain ⟨hlen0, ⟨rfl, h0⟩ | ⟨g, cap, cur, rfl, hg, hblk, hcap, hml, hsz, htake⟩⟩ := hown
      · have hnil : r = [] := List.eq_nil_of_length_eq_zero h0
        subst hnil
        clear hcells
        have hcv : ∀ W : World, (convert 65 9 (.slice none 0 0)).run Tryd.prog W = .ok (.string ⟨#[]⟩) W := fun W => by
          rw [run_convert_bytes_string (P := Tryd.prog) W 65 9 5 none 0 0 Tryd.underlying65 Tryd.underlying5 Tryd.underlying9]
          first | rfl | (simp [loadCells, loadCellsFrom]; done) | (simp [loadCells, loadCellsFrom]; rfl)
        go_wp2
        go_quiet ((go_at_call 63; exact Calls.quiet_of (HX.out _)))
        go_wp2
        go_ret2
        exact ⟨_, rfl, blw_drewN hbel _⟩
      · have hcv : ∀ W : World, W.heap[g]? = wr.heap[g]? → (convert 65 9 (.slice (some ⟨g, 0, none⟩) r.length cap)).run Tryd.prog W = .ok (.string ⟨r.toArray⟩) W := fun W hW =>
          run_convert_bytes_back (P := Tryd.prog) W 65 9 5 ⟨g, 0, none⟩ cap r Tryd.underlying65 Tryd.underlying5 Tryd.underlying9 (fun j hj => by
            have := hcells g rfl j (.int .u8 (r[j].toNat : Int)) (by simp [u8b, hj])
            have hbk : ((⟨g, 0, none⟩ : Addr).add j).block = g := by unfold Addr.add; split <;> rfl
            rw [← this]
            simp only [World.cell?, hbk, hW])
        clear hcells
        go_wp2
        go_quiet ((go_at_call 63; exact Calls.quiet_of (HX.out _)))
        go_wp2
        go_ret2
        exact ⟨_, rfl, blw_drewN hbel _⟩
end Go.Proofs.YtgeaebcchjmmjaaDoor
