/- What Bytes of package answer answers. -/
import Derived.Test.YtgeaebcchjmmjaaDoorHexGo
import Derived.Test.YtgeaebcchjmmjaaDoorPlainWords
import Derived.Test.YtgeaebcchjmmjaaDoorShelf2
namespace Go.Proofs.YtgeaebcchjmmjaaDoor
open Go.RowKit Go.Lib
/-- The value of a digit; -1: it is none. -/
def hv (c : Nat) : Int := indexByte digs16 (UInt8.ofNat c)
theorem hv_le (c : Nat) : -1 ≤ hv c ∧ hv c < 16 := by
  unfold hv
  rcases ix_of (UInt8.ofNat c) with h | ⟨q, hq, h, _⟩ <;> omega
theorem ixb_any (c : Nat) (w : World) : Calls Tryd.prog 99 #[.string ⟨#[48, 49, 50, 51, 52, 53, 54, 55, 56, 57, 97, 98, 99, 100, 101, 102]⟩, .int .u8 (c : Int)] w fun e w' => e = .returned (.int .i64 (hv c)) ∧ w' = w :=
  (Tryd.strings_IndexByte _ _ _).mono fun _ _ ⟨he, hw⟩ => ⟨by rw [he]; rfl, hw⟩
theorem bytesG_at (s : ByteArray) (k : Nat) (hk : k + 1 < s.size) : bytesG (s.data.toList.drop k) = if hv (bat s k) < 0 ∨ hv (bat s (k + 1)) < 0 then none else (bytesG (s.data.toList.drop (k + 2))).map fun t => UInt8.ofNat ((hv (bat s k)).toNat * 16 + (hv (bat s (k + 1))).toNat) :: t := by
  have h1 : k < s.data.toList.length := by have : s.data.toList.length = s.size := rfl; omega
  have h2 : k + 1 < s.data.toList.length := by have : s.data.toList.length = s.size := rfl; omega
  have e1 : UInt8.ofNat (bat s k) = s.data.toList[k] := by unfold bat; rw [List.getD_eq_getElem?_getD, List.getElem?_eq_getElem h1]; simp
  have e2 : UInt8.ofNat (bat s (k + 1)) = s.data.toList[k + 1] := by unfold bat; rw [List.getD_eq_getElem?_getD, List.getElem?_eq_getElem h2]; simp
  rw [List.drop_eq_getElem_cons h1, List.drop_eq_getElem_cons h2, bytesG]
  unfold hv
  rw [e1, e2]
theorem bytesG_odd : ∀ x : List UInt8, x.length % 2 = 1 → bytesG x = none
  | [], h => by simp at h
  | [_], _ => rfl
  | a :: b :: r, h => by
    rw [bytesG]
    split
    · rfl
    · rw [bytesG_odd r (by simp at h; omega)]; rfl
theorem or16 : ∀ p : Nat, p < 16 → ∀ q : Nat, q < 16 → bits .or .i64 ((p : Int) * 16) (q : Int) = ((p * 16 + q : Nat) : Int) := by decide +kernel
def BytesEnd (r : Option (List UInt8)) (w : World) (e : Ending) (w' : World) : Prop := e = .returned (.tuple #[.string ⟨(r.getD []).toArray⟩, .bool r.isSome]) ∧ Below w.heap.size w w'
set_option maxRecDepth 100000 in
set_option maxHeartbeats 4000000 in
theorem bytesGo_any (s : ByteArray) (hs : s.size ≤ 2000000) (w : World) : Calls Tryd.prog 76 #[.string s] w (BytesEnd (bytesG s.data.toList) w) := by
  obtain ⟨i0, hi, hz0, hz1, hz2⟩ := info_parts info5
  have hlen : s.data.toList.length = s.size := rfl
  rcases Nat.mod_two_eq_zero_or_one s.size with hev | hodd
  · obtain ⟨m, hm⟩ : ∃ m, s.size = 2 * m := ⟨s.size / 2, by omega⟩
    have HM := Lib.hid hm
    obtain ⟨w0, hrun, hown0, hg0⟩ := run_make_own (P := Tryd.prog) w w.heap.size 65 5 i0 (.int .u8 0) 1 Tryd.underlying65 hi hz0 hz1 .i64 .i64 m (by rw [hz2]; omega) (by unfold maxLen; omega) (Nat.le_refl _)
    have hmk : (Instr.makeSlice 65 (.int .i64 0) (.int .i64 ((s.size : Int) / 2))).run Tryd.prog w = .ok (.slice (some ⟨w.heap.size, 0, none⟩) 0 m) w0 := by
      rw [← hrun]; rw [show ((s.size : Int) / 2) = (m : Int) by omega]
    have hb0 : Below w.heap.size w w0 := (Below.refl _ _).grown hg0 (Nat.le_refl _) (fun q hq => by cases hq)
    have H0 := Lib.hid hown0
    have HB0 := Lib.hid hb0
    have hev2 : (s.size : Int) % 2 = 0 := by omega
    obtain ⟨r, hr⟩ : ∃ r, bytesG s.data.toList = r := ⟨_, rfl⟩
    rw [hr]
    have HR := Lib.hid hr
    clear hrun hown0 hg0 hb0 hm hev hr
    go_enter Tryd.func76, Tryd.ntmps76
    go_wp2
    clear hmk hev2
    go_loopw [4, 5] (fun v i wr => ∃ (k : Nat) (acc : List UInt8), 2 * k ≤ s.size ∧ acc.length = k ∧ i = .int .i64 ((2 * k : Nat) : Int) ∧ wr.ownsRow w.heap.size 5 1 v acc.length (u8b acc) ∧ (bytesG (s.data.toList.drop (2 * k))).map (acc ++ ·) = r ∧ Below w.heap.size w wr) (fun _ i _ => s.size - (RowKit.intOf i).toNat)
    case atStart =>
      exact ⟨0, [], by omega, rfl, rfl, by simpa [u8b] using H0.out, by have := HR.out; simpa using this, HB0.out⟩
    case round =>
      obtain ⟨k, acc, hk, hacc, rfl, hown, hrr, hbel⟩ := hrel
      have HO := Lib.hid hown
      have HRR := Lib.hid hrr
      have HA := Lib.hid hacc
      clear hown hrr hacc
      by_cases hlt : 2 * k < s.size
      · have hk1 : 2 * k + 1 < s.size := by have := HM.out; omega
        have hat := bytesG_at s (2 * k) hk1
        have hix := run_ix s (2 * k) hlt
        have hix2 := run_ix s (2 * k + 1) hk1
        simp only [Int.natCast_mul, Int.natCast_add, Int.cast_ofNat_Int] at hix hix2
        have hsum : IntKind.i64.wrap (2 * (k : Int) + 1) = 2 * (k : Int) + 1 := IntWalk.i64_in _ (by omega)
        have hci := bat_lt s (2 * k)
        have hcj := bat_lt s (2 * k + 1)
        have hvi := hv_le (bat s (2 * k))
        have hvj := hv_le (bat s (2 * k + 1))
        have HAT := Lib.hid hat
        clear hat
        generalize bat s (2 * k) = c at *
        generalize bat s (2 * k + 1) = d at *
        have HC := Lib.hid (ixb_any c)
        have HD := Lib.hid (ixb_any d)
        generalize hv c = p at *
        generalize hv d = q at *
        have hlti : (2 * (k : Int)) < (s.size : Int) := by omega
        go_wp2
        go_quiet ((first | exact Calls.quiet_of_same (HC.out _) | exact Calls.quiet_of_same (HD.out _)))
        clear hix hix2 hsum
        by_cases hp : p < 0
        · have e : r = none := by rw [← HRR.out, HAT.out, if_pos (.inl hp)]; rfl
          subst e
          go_wp2
          go_ret2
          exact ⟨rfl, blw_drewN hbel _⟩
        · by_cases hq : q < 0
          · have e : r = none := by rw [← HRR.out, HAT.out, if_pos (.inr hq)]; rfl
            subst e
            go_wp2
            go_ret2
            exact ⟨rfl, blw_drewN hbel _⟩
          · obtain ⟨a, rfl⟩ := Int.eq_ofNat_of_zero_le (show 0 ≤ p by omega)
            obtain ⟨b, rfl⟩ := Int.eq_ofNat_of_zero_le (show 0 ≤ q by omega)
            have hor : bits .or .i64 ((a : Int) * 16) (b : Int) % 256 = ((UInt8.ofNat (a * 16 + b)).toNat : Int) := by
              rw [or16 a (by omega) b (by omega), UInt8.toNat_ofNat']; omega
            have HN : Hid ((bytesG (s.data.toList.drop (2 * (k + 1)))).map ((acc ++ [UInt8.ofNat (a * 16 + b)]) ++ ·) = r) := Lib.hid (by
              rw [← HRR.out, HAT.out, if_neg (by omega), Option.map_map]
              simp only [Int.toNat_natCast]
              congr 1
              funext x
              simp)
            generalize UInt8.ofNat (a * 16 + b) = z at *
            have hn0 : acc.length ≤ 2000000 := by have := HA.out; omega
            go_wp2_with (at_builtin; refine wpList_append_own _ rfl _ _ 65 rfl w.heap.size 5 i0 (.int .u8 0) 1 1 Tryd.underlying65 hi hz0 hz1 hz2 rfl (by decide) _ _ _ rfl (HO.out.alloc _) ⟨wr.heap.size, 0, none⟩ 1 1 [.int .u8 (z.toNat : Int)] rfl rfl ?c1 ?c2 ?c3 ?c4 ?c5 ?_)
            case c1 =>
              intro j u hj
              match j, hj with
              | 0, hj => simp at hj; subst hj; exact bk_cell (bk_new (wr.drewN nq) _) 0
            case c2 => rfl
            case c3 => unfold maxLen; omega
            case c4 => omega
            case c5 => have := hbel.size; simp; omega
            intro v' w2 hown' hgrow _
            have hb2 : Below w.heap.size w w2 := (blw_alloc (blw_drewN hbel _) _).grown hgrow (by have := hbel.size; simp; omega) (fun q hq => own_base HO.out q hq)
            have HB := Lib.hid hown'
            have HB2 := Lib.hid hb2
            clear hown' hgrow hb2
            go_wp2
            go_roundw
            case rel =>
              refine ⟨k + 1, acc ++ [z], by omega, by rw [List.length_append, HA.out]; rfl, by go_num, ?_, HN.out, HB2.out⟩
              have := HB.out
              unfold u8b at *
              rw [List.length_append, List.map_append]
              exact this
            case measure => simp [RowKit.intOf]; omega
      · have hke : 2 * k = s.size := by omega
        have e : r = some acc := by
          rw [← HRR.out, hke, List.drop_of_length_le (by rw [hlen]; omega)]
          simp [bytesG]
        subst e
        have hown := HO.out
        have hcells := fun g hg => hown.cells (g := g) hg
        have hlti : ¬ (2 * (k : Int) < (s.size : Int)) := by omega
        obtain ⟨hlen0, ⟨rfl, h0⟩ | ⟨g, cap, cur, rfl, hg, hblk, hcap, hml, hsz, htake⟩⟩ := hown
        · have hnil : acc = [] := List.eq_nil_of_length_eq_zero h0
          clear hcells
          have hcv : (convert 65 9 (.slice none 0 0)).run Tryd.prog wr = .ok (.string ⟨#[]⟩) wr := by
            rw [run_convert_bytes_string (P := Tryd.prog) wr 65 9 5 none 0 0 Tryd.underlying65 Tryd.underlying5 Tryd.underlying9]
            first | rfl | (simp [loadCells, loadCellsFrom]; done) | (simp [loadCells, loadCellsFrom]; rfl)
          clear hke HRR
          go_wp2
          go_ret2
          subst hnil
          exact ⟨rfl, hbel⟩
        · have hcv := run_convert_bytes_back (P := Tryd.prog) wr 65 9 5 ⟨g, 0, none⟩ cap acc Tryd.underlying65 Tryd.underlying5 Tryd.underlying9 (fun j hj => hcells g rfl j _ (by simp [u8b, hj]))
          clear hcells hke HRR
          go_wp2
          go_ret2
          exact ⟨rfl, hbel⟩
  · have e : bytesG s.data.toList = none := bytesG_odd _ (by rw [hlen]; exact hodd)
    rw [e]
    have hodd2 : (s.size : Int) % 2 = 1 := by omega
    clear hodd e
    go_enter Tryd.func76, Tryd.ntmps76
    go_wp2
    go_ret2
    exact ⟨rfl, Below.refl _ _⟩
end Go.Proofs.YtgeaebcchjmmjaaDoor
