/- What Hex of package answer answers. -/
import Derived.Test.YtgeaebcchjmmjaaDoorHexRef
import Derived.Test.YtgeaebcchjmmjaaDoorBytes
import Derived.Deep.RegionHeldLaw
import Derived.Deep.AppendLies
namespace Go.Proofs.YtgeaebcchjmmjaaDoor
open Go.RowKit Go.Lib
theorem run_hi (q : Nat) (hq : q < 16) (w : World) : (Instr.index 9 (.string ⟨#[48, 49, 50, 51, 52, 53, 54, 55, 56, 57, 97, 98, 99, 100, 101, 102]⟩) (.int .u8 q)).run Tryd.prog w = .ok (.int .u8 (hexD q).toNat) w := by
  rw [run_index_string w 9 _ .u8 q Tryd.underlying9, dif_pos ⟨by omega, by simp [ByteArray.size]; omega⟩]
  match q, hq with
  | 0, _ | 1, _ | 2, _ | 3, _ | 4, _ | 5, _ | 6, _ | 7, _ | 8, _ | 9, _ | 10, _ | 11, _ | 12, _ | 13, _ | 14, _ | 15, _ => rfl
  | n + 16, h => exact absurd h (by omega)
theorem and15 : ∀ c : Nat, c < 256 → bits .and .u8 (c : Int) 15 = ((c % 16 : Nat) : Int) := by decide +kernel
def u8b (l : List UInt8) : List Value := l.map fun b => Value.int .u8 (b.toNat : Int)
set_option maxRecDepth 100000 in
set_option maxHeartbeats 4000000 in
theorem hexGo_any (s : ByteArray) (hs : s.size ≤ 2000000) (w : World) : Calls Tryd.prog 59 #[.string s] w fun e w' => e = .returned (.string ⟨(hexL s.data.toList).toArray⟩) ∧ Below w.heap.size w w' := by
  obtain ⟨i0, hi, hz0, hz1, hz2⟩ := info_parts info5
  obtain ⟨w0, hrun, hown0, hg0⟩ := run_make_own (P := Tryd.prog) w w.heap.size 65 5 i0 (.int .u8 0) 1 Tryd.underlying65 hi hz0 hz1 .i64 .i64 (2 * s.size) (by rw [hz2]; omega) (by unfold maxLen; omega) (Nat.le_refl _)
  have hmk : (Instr.makeSlice 65 (.int .i64 0) (.int .i64 (2 * (s.size : Int)))).run Tryd.prog w = .ok (.slice (some ⟨w.heap.size, 0, none⟩) 0 (2 * s.size)) w0 := by rw [← hrun]; simp
  have hb0 : Below w.heap.size w w0 := (Below.refl _ _).grown hg0 (Nat.le_refl _) (fun q hq => by cases hq)
  have H0 := Lib.hid hown0
  have HB0 := Lib.hid hb0
  clear hrun hown0 hg0 hb0
  go_enter Tryd.func59, Tryd.ntmps59
  go_wp2
  go_loopw [3, 11] (fun v i wr => ∃ (k : Nat), k ≤ s.size ∧ i = .int .i64 k ∧ wr.ownsRow w.heap.size 5 1 v (hexL (s.data.toList.take k)).length (u8b (hexL (s.data.toList.take k))) ∧ Below w.heap.size w wr) (fun _ i _ => s.size - (intOf i).toNat)
  case atStart =>
    exact ⟨0, by omega, rfl, by simpa [hexL, u8b] using H0.out, HB0.out⟩
  case round =>
    obtain ⟨k, hk, rfl, hown, hbel⟩ := hrel
    by_cases hlt : k < s.size
    · have hix := run_ix s k hlt
      have hb := bat_lt s k
      have hlen := hexL_len (s.data.toList.take k)
      obtain ⟨c, hc⟩ : ∃ c, bat s k = c := ⟨_, rfl⟩
      rw [hc] at hix hb
      have HNX := Lib.hid (show hexL (s.data.toList.take (k + 1)) = hexL (s.data.toList.take k) ++ [hexD (c / 16)] ++ [hexD (c % 16)] by rw [take_bat s k hlt, hexL_snoc, ← hc]; rfl)
      go_wp2
      have hcd : (c : Int) / 16 = ((c / 16 : Nat) : Int) := by omega
      have hcm := and15 c hb
      have hki : (k : Int) < (s.size : Int) := by omega
      have hxa := run_hi (c / 16) (by omega)
      have hxb := run_hi (c % 16) (by omega)
      generalize c / 16 = a at *
      generalize c % 16 = b at *
      have HO := Lib.hid hown
      clear hown
      have hbs : w.heap.size ≤ wr.heap.size + 1 := by have := hbel.size; omega
      obtain ⟨n, hn⟩ : ∃ n, (hexL (s.data.toList.take k)).length = n := ⟨_, rfl⟩
      have hn0 : n ≤ 4000000 := by rw [← hn, hlen]; simp; omega
      rw [hn] at HO
      have hn63 : n + 2 ≤ maxLen := by unfold maxLen; omega
      have hnb : (n + 2) * 1 ≤ 140737488355328 := by omega
      have hnews : ∀ (W : World) (h : W.heap[wr.heap.size]? = some (.cells #[.int .u8 ((hexD a).toNat : Int), .int .u8 ((hexD b).toNat : Int)] 5 (0, 0))), ∀ j u, [Value.int .u8 ((hexD a).toNat : Int), .int .u8 ((hexD b).toNat : Int)][j]? = some u → W.cell? ((⟨wr.heap.size, 0, none⟩ : Addr).add j) = some u := by
        intro W h j u hj
        match j, hj with
        | 0, hj => simp at hj; subst hj; simpa [Addr.add] using bk_cell h 0
        | 1, hj => simp at hj; subst hj; simpa [Addr.add] using bk_cell h 1
      have hone : ∀ u ∈ [Value.int .u8 ((hexD a).toNat : Int), .int .u8 ((hexD b).toNat : Int)], u.oneCell' = true := by
        intro u hu; simp at hu; rcases hu with rfl | rfl <;> rfl
      go_region_held_law (fun _ => True) (trivial) ((refine step_append_lies _ rfl _ _ 65 (by rfl) w.heap.size 5 i0 (.int .u8 0) 1 1 Tryd.underlying65 hi hz0 hz1 hz2 rfl (by decide) _ _ _ (by rfl) (HO.out.alloc _) ⟨wr.heap.size, 0, none⟩ 2 2 [.int .u8 ((hexD a).toNat : Int), .int .u8 ((hexD b).toNat : Int)] (by rfl) rfl (hnews _ (heap_alloc_new wr _)) hone (by decide) hn63 hnb (by simpa using hbs) (wr.heap.size + 1) (by simp) ?_; intro g cap w1 hown1 hgrow hat hlt1))
      all_goals
        have HW := Lib.hid hown1
        have hgr := blw_then hbel (Below.refl _ wr)
        simp only [List.getElem_toArray, List.getElem_cons_succ, List.getElem_cons_zero, List.setIfInBounds_toArray, List.set_cons_succ, List.set_cons_zero]
        clear hown1
        go_wp2
        go_roundw
        case rel =>
          refine ⟨k + 1, by omega, by go_num, ?_, ?_⟩
          · rw [HNX.out]
            have := HW.out
            unfold u8b at *
            simp only [List.append_assoc, List.length_append, List.map_append, List.map_cons, List.map_nil, List.length_cons, List.length_nil, List.cons_append, List.nil_append, hn] at this ⊢
            exact this
          · first
              | exact (blw_drew (blw_alloc hbel _)).grown hgrow (by simpa using hbs) (fun q hq => own_base HO.out q hq)
              | exact (blw_alloc hbel _).grown hgrow (by simpa using hbs) (fun q hq => own_base HO.out q hq)
        case measure => simp [intOf]; omega
    · have hke : k = s.size := by omega
      have : s.data.toList.take k = s.data.toList := by rw [hke]; exact List.take_length
      rw [this] at hown
      have hcells := fun g hg => hown.cells (g := g) hg
      obtain ⟨hlen0, ⟨rfl, h0⟩ | ⟨g, cap, cur, rfl, hg, hblk, hcap, hml, hsz, htake⟩⟩ := hown
      · have hnil : hexL s.data.toList = [] := List.eq_nil_of_length_eq_zero h0
        clear hcells
        have hcv : (convert 65 9 (.slice none 0 0)).run Tryd.prog wr = .ok (.string ⟨#[]⟩) wr := by
          rw [run_convert_bytes_string (P := Tryd.prog) wr 65 9 5 none 0 0 Tryd.underlying65 Tryd.underlying5 Tryd.underlying9]
          first | rfl | (simp [loadCells, loadCellsFrom]; done) | (simp [loadCells, loadCellsFrom]; rfl)
        go_wp2
        go_ret
        exact ⟨by rw [hnil]; rfl, hbel⟩
      · have hcv := run_convert_bytes_back (P := Tryd.prog) wr 65 9 5 ⟨g, 0, none⟩ cap (hexL s.data.toList) Tryd.underlying65 Tryd.underlying5 Tryd.underlying9 (fun j hj => hcells g rfl j _ (by simp [u8b, hj]))
        clear hcells
        go_wp2
        go_ret
        exact ⟨rfl, hbel⟩
end Go.Proofs.YtgeaebcchjmmjaaDoor
