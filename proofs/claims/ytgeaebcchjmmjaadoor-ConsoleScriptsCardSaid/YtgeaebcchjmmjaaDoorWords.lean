/- What Names and Words of the page answer. -/
import Derived.Test.YtgeaebcchjmmjaaDoorOpRows
import Derived.Test.YtgeaebcchjmmjaaDoorStructs
import Derived.Test.YtgeaebcchjmmjaaDoorBytes
import Derived.Test.YtgeaebcchjmmjaaDoorNames
namespace Go.Proofs.YtgeaebcchjmmjaaDoor
open Go.RowKit Go.Lib
set_option maxRecDepth 100000 in
set_option maxHeartbeats 4000000 in
theorem refNames_any (w : World) : Calls Tryd.prog 54 #[] w fun e w' => ∃ g, e = .returned (.slice (some ⟨g, 0, none⟩) 24 24) ∧ (∀ i, i < 24 → w'.cell? ⟨g, i, none⟩ = some (.string (opN i))) ∧ Below w.heap.size w w' := by
  go_enter Tryd.func54, Tryd.ntmps54
  go_wp2
  go_ret
  refine ⟨_, rfl, ?_, by repeat (with_reducible first | exact Below.refl _ _ | refine blw_alloc ?_ _)⟩
  intro i hi
  rw [bk_cell (bk_new _ _)]
  match i, hi with
  | 0, _ => rfl
  | 1, _ => rfl
  | 2, _ => rfl
  | 3, _ => rfl
  | 4, _ => rfl
  | 5, _ => rfl
  | 6, _ => rfl
  | 7, _ => rfl
  | 8, _ => rfl
  | 9, _ => rfl
  | 10, _ => rfl
  | 11, _ => rfl
  | 12, _ => rfl
  | 13, _ => rfl
  | 14, _ => rfl
  | 15, _ => rfl
  | 16, _ => rfl
  | 17, _ => rfl
  | 18, _ => rfl
  | 19, _ => rfl
  | 20, _ => rfl
  | 21, _ => rfl
  | 22, _ => rfl
  | 23, _ => rfl
  | n + 24, h => exact absurd h (by omega)
/-- The pieces between blanks. -/
def wdsF (s : ByteArray) : Nat → Nat → Nat → List ByteArray
  | 0, _, fr => [s.extract fr s.size]
  | f + 1, k, fr => if bat s k = 32 then s.extract fr k :: wdsF s f (k + 1) (k + 1) else wdsF s f (k + 1) fr
def wds (s : ByteArray) : List ByteArray := wdsF s s.size 0 0
def strs (l : List ByteArray) : List Value := l.map Value.string
set_option maxRecDepth 100000 in
set_option maxHeartbeats 4000000 in
theorem refWords_any (s : ByteArray) (hs : s.size ≤ 2000000) (w : World) : Calls Tryd.prog 53 #[.string s] w fun e w' => ∃ v, e = .returned v ∧ w'.ownsRow w.heap.size 9 1 v (wds s).length (strs (wds s)) ∧ Below w.heap.size w w' := by
  obtain ⟨i0, hi, hz0, hz1, hz2⟩ := info_parts info9
  obtain ⟨r, hr⟩ : ∃ r, wds s = r := ⟨_, rfl⟩
  rw [hr]
  have HR := Lib.hid hr
  clear hr
  go_enter Tryd.func53, Tryd.ntmps53
  go_wp2
  go_loopw [3, 4, 5] (fun v x i wr => ∃ (k fr f : Nat) (l : List ByteArray), k + f = s.size ∧ fr ≤ k ∧ l.length ≤ k ∧ i = .int .i64 k ∧ x = .int .i64 fr ∧ wr.ownsRow w.heap.size 9 1 v l.length (strs l) ∧ l ++ wdsF s f k fr = r ∧ Below w.heap.size w wr) (fun _ _ i _ => s.size - (intOf i).toNat)
  case atStart => exact ⟨0, 0, s.size, [], by omega, by omega, by simp, rfl, rfl, World.ownsRow_nil _ _ _ _, HR.out, Below.refl _ _⟩
  case round =>
    obtain ⟨k, fr, f, l, hkf, hfr, hl, rfl, rfl, hown, hrr, hbel⟩ := hrel
    have HO := Lib.hid hown
    have HRR := Lib.hid hrr
    clear hown hrr
    cases f with
    | zero =>
      have hk : k = s.size := by omega
      subst hk
      go_wp2_with (at_builtin; refine wpList_append_own _ rfl _ _ 37 rfl w.heap.size 9 i0 (.string ⟨#[]⟩) 1 16 Tryd.underlying37 hi hz0 hz1 hz2 rfl (by decide) _ _ _ rfl (HO.out.alloc _) ⟨wr.heap.size, 0, none⟩ 1 1 [.string (s.extract fr s.size)] rfl rfl ?c1 ?c2 ?c3 ?c4 ?c5 ?_)
      case c1 =>
        intro j u hj
        match j, hj with
        | 0, hj => simp at hj; subst hj; simp [Addr.add]
      case c2 => intro u hu; simp at hu; subst hu; rfl
      case c3 => unfold maxLen; omega
      case c4 => omega
      case c5 => have := hbel.size; simp; omega
      intro v' w2 hown' hgrow _
      have hb2 : Below w.heap.size w w2 := (blw_alloc hbel _).grown hgrow (by have := hbel.size; simp; omega) (fun q hq => own_base HO.out q hq)
      have HB := Lib.hid hown'
      have HB2 := Lib.hid hb2
      clear hown' hgrow hb2
      go_wp2
      go_ret
      refine ⟨_, rfl, ?_, HB2.out⟩
      rw [← HRR.out]
      have := HB.out
      unfold strs wdsF at *
      rw [List.length_append, List.map_append]
      exact this
    | succ f =>
      have hlt : k < s.size := by omega
      have hix := run_ix s k hlt
      have HX := Lib.hid (show l ++ (if bat s k = 32 then s.extract fr k :: wdsF s f (k + 1) (k + 1) else wdsF s f (k + 1) fr) = r from HRR.out)
      by_cases h32 : bat s k = 32
      · have HX2 : Hid (l ++ s.extract fr k :: wdsF s f (k + 1) (k + 1) = r) := by have := HX.out; rw [if_pos h32] at this; exact Lib.hid this
        rw [h32] at hix
        simp only [Int.cast_ofNat_Int] at hix
        clear HX HRR h32
        go_wp2_with (at_builtin; refine wpList_append_own _ rfl _ _ 37 rfl w.heap.size 9 i0 (.string ⟨#[]⟩) 1 16 Tryd.underlying37 hi hz0 hz1 hz2 rfl (by decide) _ _ _ rfl (HO.out.alloc _) ⟨wr.heap.size, 0, none⟩ 1 1 [.string (s.extract fr k)] rfl rfl ?c1 ?c2 ?c3 ?c4 ?c5 ?_)
        case c1 =>
          intro j u hj
          match j, hj with
          | 0, hj => simp at hj; subst hj; simp [Addr.add]
        case c2 => intro u hu; simp at hu; subst hu; rfl
        case c3 => unfold maxLen; omega
        case c4 => omega
        case c5 => have := hbel.size; simp; omega
        intro v' w2 hown' hgrow _
        have hb2 : Below w.heap.size w w2 := (blw_alloc hbel _).grown hgrow (by have := hbel.size; simp; omega) (fun q hq => own_base HO.out q hq)
        have HB := Lib.hid hown'
        have HB2 := Lib.hid hb2
        clear hown' hgrow hb2
        go_wp2
        go_roundw
        case rel =>
          refine ⟨k + 1, k + 1, f, l ++ [s.extract fr k], by omega, by omega, by simp; omega, by go_num, by go_num, ?_, by rw [List.append_assoc]; exact HX2.out, HB2.out⟩
          have := HB.out
          unfold strs at *
          rw [List.length_append, List.map_append]
          exact this
        case measure => simp [intOf]; omega
      · have HX2 : Hid (l ++ wdsF s f (k + 1) fr = r) := by have := HX.out; rw [if_neg h32] at this; exact Lib.hid this
        have hne : ((bat s k : Int) == 32) = false := by rw [beq_eq_false_iff_ne]; omega
        clear HX HRR h32
        generalize bat s k = c at *
        go_wp2
        go_roundw
        case rel => exact ⟨k + 1, fr, f, l, by omega, by omega, by omega, by go_num, rfl, HO.out, HX2.out, hbel⟩
        case measure => simp [intOf]; omega
end Go.Proofs.YtgeaebcchjmmjaaDoor
