/- The rows of package op: what rows makes, what of, Name and Kind answer of them. -/
import Derived.Test.YtgeaebcchjmmjaaDoorClass
namespace Go.Proofs.YtgeaebcchjmmjaaDoor
open Go.RowKit
/-- All kinds: a name, which numbers count, whether a text does. -/
def opTab : List (List UInt8 × List UInt8 × Bool) := [([105, 110, 115, 101, 114, 116], [65], true), ([100, 101, 108, 101, 116, 101], [65, 76], false), ([114, 101, 112, 108, 97, 99, 101], [65, 76], true), ([117, 110, 100, 111], [], false), ([114, 101, 100, 111], [], false), ([114, 101, 103, 105, 115, 116, 101, 114], [], true), ([102, 111, 114, 103, 101, 116], [83], false), ([99, 111, 117, 110, 116], [83], false), ([110, 101, 120, 116], [83, 65], false), ([112, 114, 101, 118], [83, 65], false), ([108, 105, 115, 116], [83, 65, 76], false), ([105, 115], [83], false), ([101, 110, 100], [83, 65], false), ([114, 101, 97, 100], [65, 76], false), ([115, 105, 122, 101], [], false), ([108, 105, 110, 101], [65], false), ([111, 102, 102, 115, 101, 116], [65, 76], false), ([115, 119, 97, 112], [83], true), ([109, 97, 114, 107], [65, 76], false), ([112, 108, 97, 99, 101], [83], false), ([119, 97, 116, 99, 104], [83, 76], false), ([109, 101, 114, 103, 101], [65, 76], false), ([101, 118, 105, 99, 116], [76], false), ([99, 111, 109, 112, 97, 99, 116], [], false)]
def opN (i : Nat) : ByteArray := ⟨(opTab.getD i ([], [], false)).1.toArray⟩
def opS (i : Nat) : ByteArray := ⟨(opTab.getD i ([], [], false)).2.1.toArray⟩
def opT (i : Nat) : Bool := (opTab.getD i ([], [], false)).2.2
def OpRow (w : World) (g i : Nat) : Prop := w.cell? ⟨g, i * 3, none⟩ = some (.string (opN i)) ∧ w.cell? ⟨g, i * 3 + 1, none⟩ = some (.string (opS i)) ∧ w.cell? ⟨g, i * 3 + 2, none⟩ = some (.bool (opT i))
theorem OpRow.below {w W : World} {g i : Nat} (h : OpRow w g i) (hb : Below w.heap.size w W) : OpRow W g i :=
  ⟨cell_below hb h.1, cell_below hb h.2.1, cell_below hb h.2.2⟩
set_option maxRecDepth 100000 in
set_option maxHeartbeats 4000000 in
theorem oprows_any (w : World) : Calls Tryd.prog 74 #[] w fun e w' => ∃ g, e = .returned (.slice (some ⟨g, 0, none⟩) 24 24) ∧ (∀ i, i < 24 → OpRow w' g i) ∧ Below w.heap.size w w' := by
  go_enter Tryd.func74, Tryd.ntmps74
  go_wp2
  go_ret
  refine ⟨_, rfl, ?_, by repeat (with_reducible first | exact Below.refl _ _ | refine blw_alloc ?_ _)⟩
  intro i hi
  unfold OpRow
  rw [bk_cell (bk_new _ _), bk_cell (bk_new _ _), bk_cell (bk_new _ _)]
  match i, hi with
  | 0, _ => exact ⟨rfl, rfl, rfl⟩
  | 1, _ => exact ⟨rfl, rfl, rfl⟩
  | 2, _ => exact ⟨rfl, rfl, rfl⟩
  | 3, _ => exact ⟨rfl, rfl, rfl⟩
  | 4, _ => exact ⟨rfl, rfl, rfl⟩
  | 5, _ => exact ⟨rfl, rfl, rfl⟩
  | 6, _ => exact ⟨rfl, rfl, rfl⟩
  | 7, _ => exact ⟨rfl, rfl, rfl⟩
  | 8, _ => exact ⟨rfl, rfl, rfl⟩
  | 9, _ => exact ⟨rfl, rfl, rfl⟩
  | 10, _ => exact ⟨rfl, rfl, rfl⟩
  | 11, _ => exact ⟨rfl, rfl, rfl⟩
  | 12, _ => exact ⟨rfl, rfl, rfl⟩
  | 13, _ => exact ⟨rfl, rfl, rfl⟩
  | 14, _ => exact ⟨rfl, rfl, rfl⟩
  | 15, _ => exact ⟨rfl, rfl, rfl⟩
  | 16, _ => exact ⟨rfl, rfl, rfl⟩
  | 17, _ => exact ⟨rfl, rfl, rfl⟩
  | 18, _ => exact ⟨rfl, rfl, rfl⟩
  | 19, _ => exact ⟨rfl, rfl, rfl⟩
  | 20, _ => exact ⟨rfl, rfl, rfl⟩
  | 21, _ => exact ⟨rfl, rfl, rfl⟩
  | 22, _ => exact ⟨rfl, rfl, rfl⟩
  | 23, _ => exact ⟨rfl, rfl, rfl⟩
  | n + 24, h => exact absurd h (by omega)
/-- The place of a name among the kinds, from the first on. -/
def findO (s : ByteArray) : Nat → Nat
  | 0 => 0
  | k + 1 => if opN (23 - k) = s then 24 - k else findO s k
def kindN (s : ByteArray) : Nat := findO s 24
theorem findO_at (s : ByteArray) (k : Nat) (hk : k < 24) (h : opN k = s) : findO s (24 - k) = k + 1 := by
  obtain ⟨j, hj⟩ : ∃ j, 24 - k = j + 1 := ⟨23 - k, by omega⟩
  rw [hj, findO, show 23 - j = k by omega, if_pos h]; omega
theorem findO_past (s : ByteArray) (k : Nat) (hk : k < 24) (h : opN k ≠ s) : findO s (24 - k) = findO s (24 - (k + 1)) := by
  obtain ⟨j, hj⟩ : ∃ j, 24 - k = j + 1 := ⟨23 - k, by omega⟩
  rw [hj, findO, show 23 - j = k by omega, if_neg h, show 24 - (k + 1) = j by omega]
set_option maxRecDepth 100000 in
set_option maxHeartbeats 1000000 in
theorem opKind_any (s : ByteArray) (w : World) : Calls Tryd.prog 50 #[.string s] w fun e w' => e = .returned (.int .i64 (kindN s)) ∧ Below w.heap.size w w' := by
  go_enter Tryd.func50, Tryd.ntmps50
  go_wp2_with fail
  refine (oprows_any _).mono ?_
  rintro e w1 ⟨g, rfl, hrow, hb1⟩
  have HR := Lib.hid hrow
  clear hrow
  go_wp2
  go_loopw [7] (fun i wr => ∃ k : Nat, k ≤ 24 ∧ i = .int .i64 k ∧ findO s (24 - k) = kindN s ∧ Below w1.heap.size w1 wr) (fun i _ => 24 - (intOf i).toNat)
  case atStart => exact ⟨0, by omega, rfl, rfl, Below.refl _ _⟩
  case round =>
    obtain ⟨k, hk, rfl, hf, hbel⟩ := hrel
    have HF := Lib.hid hf
    clear hf
    by_cases hlt : k < 24
    · obtain ⟨hc0, hc1, hc2⟩ := (HR.out k hlt).below hbel
      by_cases hs : opN k = s
      · have hfin : kindN s = k + 1 := HF.out ▸ findO_at s k hlt hs
        have HK := Lib.hid hfin
        have hsl : ((opN k).toList == s.toList) = true := by simp [hs]
        clear hfin hs HF
        generalize opN k = nk at *
        generalize opS k = sk at *
        generalize opT k = tk at *
        go_wp2
        go_ret
        exact ⟨by rw [HK.out]; simp, blw_alloc (blw_then hb1 hbel) _⟩
      · have hpast := Lib.hid (findO_past s k hlt hs)
        have hsl : ((opN k).toList == s.toList) = false := by rw [beq_eq_false_iff_ne]; exact fun h => hs (tl_inj h)
        clear hs
        generalize opN k = nk at *
        generalize opS k = sk at *
        generalize opT k = tk at *
        go_wp2
        go_roundw
        case rel => exact ⟨k + 1, by omega, by go_num, by rw [← hpast.out]; exact HF.out, blw_alloc hbel _⟩
        case measure => simp [intOf]; omega
    · have hk24 : k = 24 := by omega
      subst hk24
      have hfin : kindN s = 0 := HF.out ▸ rfl
      go_wp2
      go_ret
      exact ⟨by rw [hfin]; rfl, blw_then hb1 hbel⟩
end Go.Proofs.YtgeaebcchjmmjaaDoor
