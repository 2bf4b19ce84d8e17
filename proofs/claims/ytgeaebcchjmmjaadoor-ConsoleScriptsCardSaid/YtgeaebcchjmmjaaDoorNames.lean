/- What Names of package named answers: the twelve names, rising. -/
import Derived.Test.YtgeaebcchjmmjaaDoorClass
import Derived.Test.YtgeaebcchjmmjaaDoorBytes
import Derived.Test.YtgeaebcchjmmjaaDoorShelf
namespace Go.Proofs.YtgeaebcchjmmjaaDoor
open Go.RowKit Go.Sort
theorem info9 : (Tryd.prog.info? 9).map (fun i => (i.zero, i.size, i.bytes)) = some (some (.string ⟨#[]⟩), 1, 16) := by kernel_rfl
def nmL (i : Nat) : List UInt8 := (nmTab.getD i ([], [])).1
def nmAll (k : Nat) : List Value := (List.range k).map fun i => Value.string (nmS i)
def nmSS : List (List UInt8) := (List.range 12).map nmL
theorem nmAll_succ (k : Nat) : nmAll (k + 1) = nmAll k ++ [Value.string (nmS k)] := by simp [nmAll, List.range_succ]
theorem nmAll_len (k : Nat) : (nmAll k).length = k := by simp [nmAll]
theorem nmAll_at (k i : Nat) (h : i < k) : (nmAll k)[i]? = some (.string (nmS i)) := by simp [nmAll, h]
theorem nmSS_sort : (nmSS.mergeSort fun x y => decide (x ≤ y)) = nmSS := List.mergeSort_of_pairwise (by decide +kernel)
theorem nmSS_at (i : Nat) (h : i < 12) : encStr nmSS.toArray[i]! = .string (nmS i) := by
  match i, h with
  | 0, _ | 1, _ | 2, _ | 3, _ | 4, _ | 5, _ | 6, _ | 7, _ | 8, _ | 9, _ | 10, _ | 11, _ => rfl
theorem blw_sorted {w W : World} (h : Below w.heap.size w W) (n : Nat) (os : Array Obj) : Below w.heap.size w (grow (Sort.ahead W n) os) := by
  refine h.trans ⟨rfl, rfl, rfl, by simp [grow], fun i hi => ?_⟩
  have := h.size
  simp [grow, Array.getElem?_append, show i < W.heap.size by omega]
set_option maxRecDepth 100000 in
set_option maxHeartbeats 1000000 in
theorem names_any (w : World) : Calls Tryd.prog 20 #[] w fun e w' => ∃ g cap, e = .returned (.slice (some ⟨g, 0, none⟩) 12 cap) ∧ (∀ i, i < 12 → w'.cell? ⟨g, i, none⟩ = some (.string (nmS i))) ∧ Below w.heap.size w w' := by
  obtain ⟨i0, hi, hz0, hz1, hz2⟩ := info_parts info9
  go_enter Tryd.func20, Tryd.ntmps20
  go_wp2_with fail
  refine (rows_any _).mono ?_
  rintro e w1 ⟨g, rfl, hrow, hb1⟩
  have HR := Lib.hid hrow
  clear hrow
  go_wp2
  go_loopw [1, 6] (fun v i wr => ∃ k : Nat, k ≤ 12 ∧ i = .int .i64 k ∧ wr.ownsRow w1.heap.size 9 1 v k (nmAll k) ∧ Below w1.heap.size w1 wr) (fun _ i _ => 12 - (intOf i).toNat)
  case atStart => exact ⟨0, by omega, rfl, World.ownsRow_nil _ _ _ _, Below.refl _ _⟩
  case round =>
    obtain ⟨k, hk, rfl, hown, hbel⟩ := hrel
    have HO := Lib.hid hown
    clear hown
    by_cases hlt : k < 12
    · obtain ⟨hc0, b, hc1, hruns⟩ := (HR.out k hlt).below hbel
      clear hruns
      have HK := Lib.hid (nmAll_succ k)
      generalize nmS k = nk at *
      generalize nmR k = rk at *
      go_wp2_with (at_builtin; refine wpList_append_own _ rfl _ _ 37 rfl w1.heap.size 9 i0 (.string ⟨#[]⟩) 1 16 Tryd.underlying37 hi hz0 hz1 hz2 rfl (by decide) _ _ _ rfl ((HO.out.alloc _).alloc _) ⟨wr.heap.size + 1, 0, none⟩ 1 1 [.string nk] rfl rfl ?c1 ?c2 ?c3 ?c4 ?c5 ?_)
      case c1 =>
        intro j u hj
        match j, hj with
        | 0, hj => simp at hj; subst hj; simp [Addr.add]
      case c2 => intro u hu; simp at hu; subst hu; rfl
      case c3 => unfold maxLen; omega
      case c4 => omega
      case c5 => have := hbel.size; simp; omega
      intro v' w2 hown' hgrow _
      have hb2 : Below w1.heap.size w1 w2 := (blw_alloc (blw_alloc hbel _) _).grown hgrow (by have := hbel.size; simp; omega) (fun q hq => own_base HO.out q hq)
      have HB := Lib.hid hown'
      have HB2 := Lib.hid hb2
      clear hown' hgrow hb2
      go_wp2
      go_roundw
      case rel => exact ⟨k + 1, by omega, by go_num, by rw [HK.out]; exact HB.out, HB2.out⟩
      case measure => simp [intOf]; omega
    · have hk12 : k = 12 := by omega
      subst hk12
      obtain ⟨hlen, hn | ⟨g2, cap, cur, rfl, hg2, hblk, hcap, hml, hsz, htake⟩⟩ := HO.out
      · exact absurd hn.2 (by decide)
      have hcell : ∀ i, i < 12 → wr.cell? ⟨g2, i, none⟩ = some (.string (nmS i)) := fun i hi => by
        rw [bk_cell hblk]
        have := nmAll_at 12 i hi
        rw [← htake, List.getElem?_take, if_pos (by omega)] at this
        simpa using this
      have hH : Holds encStr wr g2 0 nmSS.toArray := fun j hj => by
        have hj : j < 12 := by simpa [nmSS] using hj
        rw [nmSS_at j hj, Nat.zero_add]
        exact ⟨hcell j hj, bk_free hblk j⟩
      have hs := Tryd.slices_Sort_string g2 0 cap nmSS wr hH (bk_lt hblk) (by decide)
      have HC := Lib.hid hcell
      rw [nmSS_sort] at hs
      go_wp2_with fail
      refine hs.mono ?_
      rintro e w3 ⟨rfl, n, os, rfl⟩
      rw [putRow_self _ _ _ _ _ (holds_ahead _ _ _ _ _ _ hH)]
      go_wp2
      go_ret
      refine ⟨g2, cap, rfl, fun i hi => ?_, blw_sorted (blw_then hb1 hbel) _ _⟩
      have h := HC.out i hi
      have hl := bk_lt hblk
      simp only [World.cell?, grow, heap_ahead] at h ⊢
      rw [Array.getElem?_append_left hl]
      exact h
end Go.Proofs.YtgeaebcchjmmjaaDoor
