/- What Of of the page's layer 40 answers: the kind and the error. -/
import Derived.Test.YtgeaebcchjmmjaaDoorCounts
namespace Go.Proofs.YtgeaebcchjmmjaaDoor
open Go.RowKit
def RefOfEnd (k : Int) (n : Nat) (w : World) (e : Ending) (w' : World) : Prop := ∃ (kd a b c : Int) (s : ByteArray), e = .returned (.tuple #[.agg #[.int .i64 kd, .int .i64 a, .int .i64 b, .int .i64 c, .string s], .int .i64 n]) ∧ (n = 0 → kd = k) ∧ Below w.heap.size w w'
set_option maxRecDepth 100000 in
set_option maxHeartbeats 1000000 in
theorem refOf_none (k : Int) (a : Option Addr) (c : Nat) (t : ByteArray) (w : World) : Calls Tryd.prog 61 #[.agg #[.slice a 0 c, .string t]] w (RefOfEnd k 9 w) := by
  go_enter Tryd.func61, Tryd.ntmps61
  go_wp2
  refine bodyPost_ret (v := .tuple #[.agg #[.int .i64 0, .int .i64 0, .int .i64 0, .int .i64 0, .string ⟨#[]⟩], .int .i64 9]) (res89 rfl rfl rfl (by first | exact bk_new _ _ | simpa using bk_new (w.alloc (.cells #[.slice a 0 c, .string t] 42)) _)) rfl ⟨_, _, _, _, _, rfl, fun h => (by cases h), ?_⟩
  repeat (with_reducible first | exact Below.refl _ _ | refine blw_alloc ?_ _ | refine blw_set ?_ (by simp) _)
set_option maxRecDepth 100000 in
set_option maxHeartbeats 4000000 in
theorem refOf_kind (b o cap : Nat) (k : Int) (r : List Int) (t : ByteArray) (w : World) (hk : InI k) (hc : w.cell? ⟨b, o, none⟩ = some (.int .i64 k)) (hr : r.length < 9223372036854775807) (hok : okO k = false) :
    Calls Tryd.prog 61 #[.agg #[.slice (some ⟨b, o, none⟩) (r.length + 1) cap, .string t]] w (RefOfEnd k 9 w) := by
  have hlt := World.block_lt_of_cell? w _ hc
  have hk2 : k < 1 ∨ 24 < k := by unfold okO at hok; simp at hok; omega
  obtain ⟨hk0, hk1⟩ := hk
  clear hok
  rcases hk2 with hk2 | hk2
  all_goals
    go_enter Tryd.func61, Tryd.ntmps61
    go_wp2
    refine bodyPost_ret (v := .tuple #[.agg #[.int .i64 0, .int .i64 0, .int .i64 0, .int .i64 0, .string ⟨#[]⟩], .int .i64 9]) (res89 rfl rfl rfl (by first | exact bk_new _ _ | simpa using bk_new (w.alloc (.cells #[.slice (some ⟨b, o, none⟩) (r.length + 1) cap, .string t] 42)) _)) rfl ⟨_, _, _, _, _, rfl, fun h => (by cases h), ?_⟩
    repeat (with_reducible first | exact Below.refl _ _ | refine blw_alloc ?_ _ | refine blw_set ?_ (by simp) _)
def csO (j : Nat) : Nat → Bool
  | 0 => cS j
  | 1 => cA j
  | _ => cL j
def cntO (j : Nat) : Nat → Nat
  | 0 => 0
  | m + 1 => cntO j m + (if csO j m then 1 else 0)
theorem cnt_size : ∀ j : Nat, j < 24 → cntO j 3 = (opS j).size := by decide +kernel
theorem cnt_le (j m : Nat) : cntO j m ≤ m := by
  induction m with
  | zero => exact Nat.le_refl _
  | succ m ih => rw [cntO]; split <;> omega
set_option maxRecDepth 100000 in
set_option maxHeartbeats 4000000 in
theorem refOf_some (b o cap j : Nat) (hj : j < 24) (r : List Int) (t : ByteArray) (w : World) (hr : r.length < 9223372036854775807) (hc : w.cell? ⟨b, o, none⟩ = some (.int .i64 ((j : Int) + 1))) (hcs : ∀ i n, r[i]? = some n → w.cell? ⟨b, o + (i + 1), none⟩ = some (.int .i64 n)) :
    Calls Tryd.prog 61 #[.agg #[.slice (some ⟨b, o, none⟩) (r.length + 1) cap, .string t]] w (RefOfEnd ((j : Int) + 1) (ofE (((j : Int) + 1) :: r) t) w) := by
  have hlt := World.block_lt_of_cell? w _ hc
  obtain ⟨n, hn⟩ : ∃ n, ofE (((j : Int) + 1) :: r) t = n := ⟨_, rfl⟩
  rw [hn]
  have HN := Lib.hid hn
  have HCS := Lib.hid hcs
  have HCT := Lib.hid (counts_any j hj)
  clear hn hcs
  have e1 : ((r.length : Int) + 1 == 0) = false := by rw [beq_eq_false_iff_ne]; omega
  have e2 : decide ((j : Int) + 1 < 1) = false := decide_eq_false (by omega)
  have e3 : decide (24 < (j : Int) + 1) = false := decide_eq_false (by omega)
  go_enter Tryd.func61, Tryd.ntmps61
  go_wp2_with fail
  refine (HCT.out _).mono ?_
  rintro e w1 ⟨rfl, hb1⟩
  have hB1 := Lib.hid (blw_then (blw_alloc (blw_alloc (Below.refl w.heap.size w) _) _) hb1)
  have hz : w1.heap[w.heap.size + 1]? = some (.cells #[.int .i64 0, .int .i64 0, .int .i64 0, .int .i64 0, .string ⟨#[]⟩] 89 (0, 0)) := bk_below (by simpa using bk_new (w.alloc (.cells #[.slice (some ⟨b, o, none⟩) (r.length + 1) cap, .string t] 42)) _) hb1
  have hy : w1.heap[w.heap.size]? = some (.cells #[.slice (some ⟨b, o, none⟩) (r.length + 1) cap, .string t] 42 (0, 0)) := bk_below (bk_alloc (bk_new _ _) _) hb1
  have HZ := Lib.hid hz
  have HY := Lib.hid hy
  clear hz hy hb1
  go_wp2
  go_loopw [6, 7] (fun v i wr => ∃ (m : Nat) (x y z : Int), m ≤ 3 ∧ i = .int .i64 m ∧ v = .int .i64 ((1 + cntO j m : Nat) : Int) ∧ wr.heap[w1.heap.size + 1]? = some (.cells #[.int .i64 x, .int .i64 y, .int .i64 z] 130 (0, 0)) ∧
    wr.heap[w1.heap.size]? = some (.cells #[.bool (cS j), .bool (cA j), .bool (cL j), .bool (opT j)] 128 (0, 0)) ∧ wr.heap[w.heap.size]? = some (.cells #[.slice (some ⟨b, o, none⟩) (r.length + 1) cap, .string t] 42 (0, 0)) ∧
    wr.heap[w.heap.size + 1]? = some (.cells #[.int .i64 0, .int .i64 0, .int .i64 0, .int .i64 0, .string ⟨#[]⟩] 89 (0, 0)) ∧ Below w.heap.size w wr) (fun _ i _ => 3 - (intOf i).toNat)
  case atStart => exact ⟨0, 0, 0, 0, by omega, rfl, rfl, by simpa using bk_new (w1.alloc (.cells #[.bool (cS j), .bool (cA j), .bool (cL j), .bool (opT j)] 128)) _, bk_alloc (bk_new _ _) _, bk_alloc (bk_alloc HY.out _) _, bk_alloc (bk_alloc HZ.out _) _, blw_alloc (blw_alloc hB1.out _) _⟩
  case round =>
    obtain ⟨m, x, y, z, hm, rfl, rfl, hX, hC, hY, hZ, hbel⟩ := hrel
    obtain ⟨x0, x1, x2, xf⟩ := cells3 hX
    obtain ⟨y0, y1, yf⟩ := cells2 hY
    have hq3 := cnt_le j m
    by_cases hm3 : m < 3
    · have hcm : wr.cell? ⟨w1.heap.size, m, none⟩ = some (.bool (csO j m)) := by
        match m, hm3 with
        | 0, _ => exact bk_cell hC 0
        | 1, _ => exact bk_cell hC 1
        | 2, _ => exact bk_cell hC 2
      have hsx : w1.heap.size + 1 < wr.heap.size := bk_lt hX
      have hCN : Hid (cntO j (m + 1) = cntO j m + (if csO j m then 1 else 0)) := Lib.hid rfl
      have hm3i : (m : Int) < 3 := by omega
      cases hb : csO j m
      · rw [hb] at hcm
        clear x0 x1 x2 xf
        go_wp2
        go_roundw
        case rel => exact ⟨m + 1, x, y, z, by omega, by go_num, by rw [hCN.out, hb]; rfl, hX, hC, hY, hZ, hbel⟩
        case measure => simp [intOf]; omega
      · rw [hb] at hcm
        obtain ⟨q, hq⟩ : ∃ q, 1 + cntO j m = q := ⟨_, rfl⟩
        have hCN2 : Hid (1 + cntO j (m + 1) = q + 1) := Lib.hid (by rw [hCN.out, hb, ← hq]; simp; omega)
        rw [hq]
        have hq4 : q ≤ 4 := by omega
        by_cases hql : q < r.length + 1
        · have hqi : (q : Int) < (r.length : Int) + 1 := by omega
          have hcell : ∃ v, wr.cell? ⟨b, o + q, none⟩ = some (.int .i64 v) := by
            have hj2 : q - 1 < r.length := by omega
            refine ⟨r[q - 1], cell_below hbel ?_⟩
            have := HCS.out (q - 1) r[q - 1] (List.getElem?_eq_getElem hj2)
            rwa [show q - 1 + 1 = q by omega] at this
          obtain ⟨v, hv⟩ := hcell
          have hst : ∃ x' y' z' : Int, (wr.setCell ⟨w1.heap.size + 1, m, none⟩ (.int .i64 v)).heap[w1.heap.size + 1]? = some (.cells #[.int .i64 x', .int .i64 y', .int .i64 z'] 130 (0, 0)) := by
            match m, hm3 with
            | 0, _ => exact ⟨v, y, z, bk_set hX 0 _⟩
            | 1, _ => exact ⟨x, v, z, bk_set hX 1 _⟩
            | 2, _ => exact ⟨x, y, v, bk_set hX 2 _⟩
          have hfc : ∃ u, wr.cell? ⟨w1.heap.size + 1, m, none⟩ = some (.int .i64 u) := by
            match m, hm3 with
            | 0, _ => exact ⟨_, x0⟩
            | 1, _ => exact ⟨_, x1⟩
            | 2, _ => exact ⟨_, x2⟩
          obtain ⟨u, hu⟩ := hfc
          obtain ⟨x', y', z', hst⟩ := hst
          have HST := Lib.hid hst
          have hfr := xf m
          have hs2 : w.heap.size + 1 < w1.heap.size := bk_lt HZ.out
          clear hst hq hCN x0 x1 x2 xf
          go_wp2
          go_roundw
          case rel => exact ⟨m + 1, x', y', z', by omega, by go_num, by rw [hCN2.out]; go_num, HST.out, bk_far hC (by simp <;> omega) _, bk_far hY (by simp <;> omega) _, bk_far hZ (by simp <;> omega) _, blw_set hbel (by simp <;> omega) _⟩
          case measure => simp [intOf]; omega
        · have hqi : ¬ (q : Int) < (r.length : Int) + 1 := by omega
          clear hq hCN x0 x1 x2 xf
          go_wp2
          go_roundw
          case rel => exact ⟨m + 1, x, y, z, by omega, by go_num, by rw [hCN2.out]; go_num, hX, hC, hY, hZ, hbel⟩
          case measure => simp [intOf]; omega
    · have hm4 : m = 3 := by omega
      subst hm4
      have hcz : 1 + cntO j 3 = 1 + (opS j).size := by rw [cnt_size j hj]
      rw [hcz]
      have c3 := bk_cell hC 3
      simp at c3
      obtain ⟨o0, o1, o2, o3, o4, of⟩ := cells5 hZ
      have hs2 : w.heap.size + 1 < w1.heap.size := bk_lt HZ.out
      have hsx : w1.heap.size + 1 < wr.heap.size := bk_lt hX
      have hc2 := cell_below hbel hc
      have hZZ := Lib.hid hZ
      have hok : okO ((j : Int) + 1) = true := by unfold okO; simp; omega
      have hnsz : nsO ((j : Int) + 1) = opS j := by unfold nsO; rw [hok]; simp
      have htxo : txO ((j : Int) + 1) = opT j := by unfold txO; rw [hok]; simp
      have HN2 : Hid ((if r.length ≠ (opS j).size ∨ (t.size ≠ 0 ∧ opT j = false) then 3 else if 1048576 < t.size then 4 else 0) = n) := by
        have := HN.out
        have e : ofE (((j : Int) + 1) :: r) t = if okO ((j : Int) + 1) = false then 9 else if r.length ≠ (nsO ((j : Int) + 1)).size ∨ (t.size ≠ 0 ∧ txO ((j : Int) + 1) = false) then 3 else if 1048576 < t.size then 4 else 0 := rfl
        rw [e, hok, if_neg (by decide), hnsz, htxo] at this
        exact Lib.hid this
      have hsz3 := opS_le j hj
      generalize (opS j).size = q at *
      generalize opT j = tx at *
      clear hok hnsz htxo hcz hX hC hY hZ hq3
      have hBW : ∀ W, Below w.heap.size w W → RefOfEnd ((j : Int) + 1) n w (.returned (.tuple #[.agg #[.int .i64 0, .int .i64 0, .int .i64 0, .int .i64 0, .string ⟨#[]⟩], .int .i64 n])) W ∨ n = 0 := fun W hW => by
        by_cases h0 : n = 0
        · exact .inr h0
        · exact .inl ⟨_, _, _, _, _, rfl, fun h => absurd h h0, hW⟩
      by_cases hlen : r.length = q
      · have hne : (1 + (q : Int) != (r.length : Int) + 1) = false := by rw [bne_eq_false_iff_eq]; omega
        by_cases hbad : t.size ≠ 0 ∧ tx = false
        · obtain ⟨ht, rfl⟩ := hbad
          have e : n = 3 := by have := HN2.out; rw [if_pos (.inr ⟨ht, rfl⟩)] at this; exact this.symm
          have hgt : decide (0 < t.size) = true := decide_eq_true (by omega)
          clear hBW
          go_wp2
          refine bodyPost_ret (v := .tuple #[.agg #[.int .i64 0, .int .i64 0, .int .i64 0, .int .i64 0, .string ⟨#[]⟩], .int .i64 3]) (res89 rfl rfl rfl (store5 hZZ.out)) rfl ?_
          refine ⟨_, _, _, _, _, rfl, fun h => (by cases h), ?_⟩
          exact blw_set (blw_set (blw_set (blw_set (blw_set hbel (by simp) _) (by simp) _) (by simp) _) (by simp) _) (by simp) _
        · by_cases hbig : 1048576 < t.size
          · have e : n = 4 := by have := HN2.out; rw [if_neg (by rintro (h | h); exact h hlen; exact hbad h), if_pos hbig] at this; exact this.symm
            have hgt : decide (0 < t.size) = true := decide_eq_true (by omega)
            have htx : tx = true := by cases tx; exact absurd ⟨by omega, rfl⟩ hbad; rfl
            have hbig3 : decide (1048576 < t.size) = true := decide_eq_true hbig
            subst htx
            clear hBW hbad
            go_wp2
            refine bodyPost_ret (v := .tuple #[.agg #[.int .i64 0, .int .i64 0, .int .i64 0, .int .i64 0, .string ⟨#[]⟩], .int .i64 4]) (res89 rfl rfl rfl (store5 hZZ.out)) rfl ?_
            subst e
            refine ⟨_, _, _, _, _, rfl, fun h => (by cases h), ?_⟩
            exact blw_set (blw_set (blw_set (blw_set (blw_set hbel (by simp) _) (by simp) _) (by simp) _) (by simp) _) (by simp) _
          · have e : n = 0 := by have := HN2.out; rw [if_neg (by rintro (h | h); exact h hlen; exact hbad h), if_neg hbig] at this; exact this.symm
            have hpass : t.size = 0 ∨ (0 < t.size ∧ tx = true) := by
              by_cases ht : t.size = 0
              · exact .inl ht
              · right
                refine ⟨by omega, ?_⟩
                cases tx
                · exact absurd ⟨ht, rfl⟩ hbad
                · rfl
            have hbig3 : decide (1048576 < t.size) = false := decide_eq_false hbig
            clear hBW hbad
            rcases hpass with hp | ⟨hp, rfl⟩
            · have hgt : decide (0 < t.size) = false := decide_eq_false (by omega)
              go_wp2
              refine wp_region_still_tail 13 (by kernel_rfl) (by kernel_rfl) ?_
              simp only [List.take_succ_cons, List.take_zero, List.drop_succ_cons, List.drop_zero]
              change wpStill _ _ (World.drew _) (fun a' => wpList _ _ _ _ a' (World.drew _)) _ _
              repeat still_step
              refine wpStill_nil ?_
              go_wp2
              refine bodyPost_ret (v := .tuple #[.agg #[.int .i64 ((j : Int) + 1), .int .i64 x, .int .i64 y, .int .i64 z, .string t], .int .i64 0]) (res89 rfl rfl rfl (bk_drew (store5 hZZ.out))) rfl ?_
              subst e
              refine ⟨_, _, _, _, _, rfl, fun _ => rfl, ?_⟩
              exact blw_drew (blw_set (blw_set (blw_set (blw_set (blw_set hbel (by simp) _) (by simp) _) (by simp) _) (by simp) _) (by simp) _)
            · have hgt : decide (0 < t.size) = true := decide_eq_true hp
              go_wp2
              refine wp_region_still_tail 13 (by kernel_rfl) (by kernel_rfl) ?_
              simp only [List.take_succ_cons, List.take_zero, List.drop_succ_cons, List.drop_zero]
              change wpStill _ _ (World.drew _) (fun a' => wpList _ _ _ _ a' (World.drew _)) _ _
              repeat still_step
              refine wpStill_nil ?_
              go_wp2
              refine bodyPost_ret (v := .tuple #[.agg #[.int .i64 ((j : Int) + 1), .int .i64 x, .int .i64 y, .int .i64 z, .string t], .int .i64 0]) (res89 rfl rfl rfl (bk_drew (store5 hZZ.out))) rfl ?_
              subst e
              refine ⟨_, _, _, _, _, rfl, fun _ => rfl, ?_⟩
              exact blw_drew (blw_set (blw_set (blw_set (blw_set (blw_set hbel (by simp) _) (by simp) _) (by simp) _) (by simp) _) (by simp) _)
      · have hne : (1 + (q : Int) != (r.length : Int) + 1) = true := by rw [bne_iff_ne]; omega
        have e : n = 3 := by have := HN2.out; rw [if_pos (.inl hlen)] at this; exact this.symm
        clear hBW
        go_wp2
        refine bodyPost_ret (v := .tuple #[.agg #[.int .i64 0, .int .i64 0, .int .i64 0, .int .i64 0, .string ⟨#[]⟩], .int .i64 3]) (res89 rfl rfl rfl (store5 hZZ.out)) rfl ?_
        rw [e]
        refine ⟨_, _, _, _, _, rfl, fun h => (by cases h), ?_⟩
        exact blw_set (blw_set (blw_set (blw_set (blw_set hbel (by simp) _) (by simp) _) (by simp) _) (by simp) _) (by simp) _
end Go.Proofs.YtgeaebcchjmmjaaDoor
