/- What Hex of the page's layer 41 answers. -/
import Derived.Test.YtgeaebcchjmmjaaDoorNumber
namespace Go.Proofs.YtgeaebcchjmmjaaDoor
open Go.RowKit Go.Lib
def hexD (q : Nat) : UInt8 := [48, 49, 50, 51, 52, 53, 54, 55, 56, 57, 97, 98, 99, 100, 101, 102].getD q 0
def hexL (l : List UInt8) : List UInt8 := l.flatMap fun b => [hexD (b.toNat / 16), hexD (b.toNat % 16)]
theorem hexL_snoc (l : List UInt8) (b : UInt8) : hexL (l ++ [b]) = hexL l ++ [hexD (b.toNat / 16)] ++ [hexD (b.toNat % 16)] := by simp [hexL]
theorem hexL_len (l : List UInt8) : (hexL l).length = 2 * l.length := by
  induction l with
  | nil => rfl
  | cons b l ih => simp [hexL] at ih ⊢; omega
theorem take_bat (s : ByteArray) (k : Nat) (hk : k < s.size) : s.data.toList.take (k + 1) = s.data.toList.take k ++ [s.data.toList.getD k 0] := by
  have h2 : k < s.data.toList.length := hk
  rw [List.take_add_one, List.getD_eq_getElem?_getD, List.getElem?_eq_getElem h2]; rfl
theorem run_hx (q q2 : Nat) (hq : q < 16) (h2 : q + 1 = q2) (w : World) : (Instr.slice 9 (.string ⟨#[48, 49, 50, 51, 52, 53, 54, 55, 56, 57, 97, 98, 99, 100, 101, 102]⟩) (some (.int .u8 q)) (some (.int .u8 (q2 : Int))) none).run Tryd.prog w = .ok (.string ⟨#[hexD q]⟩) w := by
  subst h2
  rw [run_slice_string (P := Tryd.prog) w 9 _ .u8 .u8 q ((q + 1 : Nat) : Int) Tryd.underlying9 (by omega) (by omega) (by simp [ByteArray.size]; omega)]
  match q, hq with
  | 0, _ | 1, _ | 2, _ | 3, _ | 4, _ | 5, _ | 6, _ | 7, _ | 8, _ | 9, _ | 10, _ | 11, _ | 12, _ | 13, _ | 14, _ | 15, _ => rfl
  | n + 16, h => exact absurd h (by omega)
set_option maxRecDepth 100000 in
set_option maxHeartbeats 4000000 in
theorem refHex_any (s : ByteArray) (hs : s.size ≤ 2000000) (w : World) : Calls Tryd.prog 63 #[.string s] w fun e w' => e = .returned (.string ⟨(hexL s.data.toList).toArray⟩) ∧ ∃ k, w' = w.drewN k := by
  go_enter Tryd.func63, Tryd.ntmps63
  go_wp2
  go_loopw [4, 5] (fun v i wr => ∃ (k m : Nat), k ≤ s.size ∧ i = .int .i64 k ∧ v = .string ⟨(hexL (s.data.toList.take k)).toArray⟩ ∧ wr = w.drewN m) (fun _ i _ => s.size - (intOf i).toNat)
  case atStart => exact ⟨0, 0, by omega, rfl, rfl, rfl⟩
  case round =>
    obtain ⟨k, m, hk, rfl, rfl, rfl⟩ := hrel
    by_cases hlt : k < s.size
    · have hix := run_ix s k hlt
      have hb := bat_lt s k
      have hlen := hexL_len (s.data.toList.take k)
      obtain ⟨c, hc⟩ : ∃ c, bat s k = c := ⟨_, rfl⟩
      rw [hc] at hix hb
      have HNX := Lib.hid (show hexL (s.data.toList.take (k + 1)) = hexL (s.data.toList.take k) ++ [hexD (c / 16)] ++ [hexD (c % 16)] by rw [take_bat s k hlt, hexL_snoc, ← hc]; rfl)
      obtain ⟨a, ha⟩ : ∃ a, c / 16 = a := ⟨_, rfl⟩
      obtain ⟨b, hb2⟩ : ∃ b, c % 16 = b := ⟨_, rfl⟩
      rw [ha, hb2] at HNX
      have h1 : (c : Int).tdiv 16 = (a : Int) := by rw [Int.tdiv_eq_ediv_of_nonneg (by omega)]; omega
      have h2 : (c : Int).tmod 16 = (b : Int) := by rw [Int.tmod_eq_emod_of_nonneg (by omega)]; omega
      have hw1 : IntKind.u8.wrap (a : Int) = (a : Int) := by rw [IntKind.wrap_u8]; omega
      have hw2 : IntKind.u8.wrap (b : Int) = (b : Int) := by rw [IntKind.wrap_u8]; omega
      obtain ⟨a2, ha2⟩ : ∃ a2, a + 1 = a2 := ⟨_, rfl⟩
      obtain ⟨b2, hbb⟩ : ∃ b2, b + 1 = b2 := ⟨_, rfl⟩
      have hw3 : IntKind.u8.wrap ((a : Int) + 1) = (a2 : Int) := by rw [IntKind.wrap_u8]; omega
      have hw4 : IntKind.u8.wrap ((b : Int) + 1) = (b2 : Int) := by rw [IntKind.wrap_u8]; omega
      have hxa := run_hx a a2 (by omega) ha2
      have hxb := run_hx b b2 (by omega) hbb
      obtain ⟨o, ho⟩ : ∃ o : List UInt8, hexL (s.data.toList.take k) = o := ⟨_, rfl⟩
      rw [ho] at HNX hlen ⊢
      have hol : o.length ≤ 4000000 := by rw [hlen]; simp; omega
      have hc1 := fun w => run_string_add (P := Tryd.prog) w ⟨o.toArray⟩ ⟨#[hexD a]⟩ (by simp [ByteArray.size]; omega) (by simp [ByteArray.size])
      have hc2 := fun w => run_string_add (P := Tryd.prog) w (⟨(o ++ [hexD a]).toArray⟩) ⟨#[hexD b]⟩ (by simp [ByteArray.size]; omega) (by simp [ByteArray.size])
      simp only [ba_add] at hc1 hc2
      clear ho hlen hc ha hb2
      go_wp2
      go_quiet (fail)
      go_wp2
      go_quiet (fail)
      go_wp2
      go_roundw
      case rel => exact ⟨k + 1, _, by omega, by go_num, by rw [HNX.out]; simp, rfl⟩
      case measure => simp [intOf]; omega
    · have hke : k = s.size := by omega
      have : s.data.toList.take k = s.data.toList := by rw [hke]; exact List.take_length
      rw [this]
      go_wp2
      go_ret
      exact ⟨rfl, _, rfl⟩
end Go.Proofs.YtgeaebcchjmmjaaDoor
