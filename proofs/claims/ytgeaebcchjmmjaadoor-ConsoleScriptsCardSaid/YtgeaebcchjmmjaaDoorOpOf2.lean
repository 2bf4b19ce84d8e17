/- What Of of package op answers: the error is what counts. -/
import Derived.Test.YtgeaebcchjmmjaaDoorOpOf
namespace Go.Proofs.YtgeaebcchjmmjaaDoor
open Go.RowKit
/-- The error of an operation as it comes in. -/
def ofE (ns : List Int) (t : ByteArray) : Nat :=
  match ns with
  | [] => 9
  | k :: r => if okO k = false then 9 else if r.length ≠ (nsO k).size ∨ (t.size ≠ 0 ∧ txO k = false) then 3 else if 1048576 < t.size then 4 else 0
def IsOp (v : Value) : Prop := ∃ (a b c d : Int) (s : ByteArray), v = .agg #[.int .i64 a, .int .i64 b, .int .i64 c, .int .i64 d, .string s]
def OfEnd (n : Nat) (w : World) (e : Ending) (w' : World) : Prop := ∃ o, e = .returned (.tuple #[o, .int .i64 n]) ∧ IsOp o ∧ Below w.heap.size w w'
theorem ofEnd_zero (n : Nat) (w : World) : OfEnd n w (.returned (.tuple #[.agg #[.int .i64 0, .int .i64 0, .int .i64 0, .int .i64 0, .string ⟨#[]⟩], .int .i64 n])) w :=
  ⟨_, rfl, ⟨_, _, _, _, _, rfl⟩, Below.refl _ _⟩
theorem ofEnd_below {n : Nat} {w W : World} {e : Ending} {W' : World} (h : OfEnd n W e W') (hb : Below w.heap.size w W) : OfEnd n w e W' := by
  obtain ⟨o, h1, h2, h3⟩ := h; exact ⟨o, h1, h2, blw_then hb h3⟩
theorem ofEnd_z {n q : Nat} {z : Int} {w W : World} (e : n = q) (hz : z = (q : Int)) (hb : Below w.heap.size w W) : OfEnd n w (.returned (.tuple #[.agg #[.int .i64 0, .int .i64 0, .int .i64 0, .int .i64 0, .string ⟨#[]⟩], .int .i64 z])) W := by
  subst e; subst hz
  exact ⟨_, rfl, ⟨_, _, _, _, _, rfl⟩, hb⟩
theorem nil_beq (t : ByteArray) : (t.toList == []) = decide (t.size = 0) := by
  rw [Lib.toList_data, Bool.eq_iff_iff, beq_iff_eq, decide_eq_true_eq]
  cases t with | mk d => simp [ByteArray.size]
set_option maxRecDepth 100000 in
set_option maxHeartbeats 1000000 in
theorem opOf_none (a : Option Addr) (c : Nat) (t : ByteArray) (w : World) : Calls Tryd.prog 52 #[.agg #[.slice a 0 c, .string t]] w (OfEnd 9 w) := by
  go_enter Tryd.func52, Tryd.ntmps52
  go_wp2
  refine bodyPost_ret (v := .tuple #[.agg #[.int .i64 0, .int .i64 0, .int .i64 0, .int .i64 0, .string ⟨#[]⟩], .int .i64 9]) (res89 rfl rfl rfl (by first | exact bk_new _ _ | simpa using bk_new (w.alloc (.cells #[.slice a 0 c, .string t] 42)) _)) rfl (ofEnd_below (ofEnd_zero 9 _) ?_)
  repeat (with_reducible first | exact Below.refl _ _ | refine blw_alloc ?_ _ | refine blw_set ?_ (by simp) _)
theorem opS_le (i : Nat) (h : i < 24) : (opS i).size ≤ 3 := by
  have : ∀ i : Nat, i < 24 → (opS i).size ≤ 3 := by decide +kernel
  exact this i h
theorem nsO_le (k : Int) : (nsO k).size ≤ 3 := by
  unfold nsO
  split
  · rename_i h
    unfold okO at h
    simp at h
    exact opS_le _ (by omega)
  · decide
set_option maxRecDepth 100000 in
set_option maxHeartbeats 4000000 in
theorem opOf_some (b o cap : Nat) (k : Int) (r : List Int) (t : ByteArray) (w : World) (hk : InI k) (hr : r.length < 9223372036854775807) (ht0 : t.size ≤ 9223372036854775807) (hc : w.cell? ⟨b, o, none⟩ = some (.int .i64 k)) (hcs : ∀ j n, r[j]? = some n → w.cell? ⟨b, o + (j + 1), none⟩ = some (.int .i64 n)) :
    Calls Tryd.prog 52 #[.agg #[.slice (some ⟨b, o, none⟩) (r.length + 1) cap, .string t]] w (OfEnd (ofE (k :: r) t) w) := by
  have hlt := World.block_lt_of_cell? w _ hc
  have HCS := Lib.hid hcs
  have HC := Lib.hid (opof_any k hk)
  have hnil := nil_beq t
  clear hcs
  obtain ⟨n, hn⟩ : ∃ n, ofE (k :: r) t = n := ⟨_, rfl⟩
  rw [hn]
  have HN := Lib.hid hn
  clear hn
  unfold ofE at HN
  go_enter Tryd.func52, Tryd.ntmps52
  go_wp2_with fail
  refine (HC.out _).mono ?_
  rintro e w1 ⟨rfl, hb1⟩
  have hB1 := Lib.hid (blw_then (blw_alloc (blw_alloc (Below.refl w.heap.size w) _) _) hb1)
  have hz : w1.heap[w.heap.size + 1]? = some (.cells #[.int .i64 0, .int .i64 0, .int .i64 0, .int .i64 0, .string ⟨#[]⟩] 89 (0, 0)) := bk_below (by simpa using bk_new (w.alloc (.cells #[.slice (some ⟨b, o, none⟩) (r.length + 1) cap, .string t] 42)) _) hb1
  have hy : w1.heap[w.heap.size]? = some (.cells #[.slice (some ⟨b, o, none⟩) (r.length + 1) cap, .string t] 42 (0, 0)) := bk_below (bk_alloc (bk_new _ _) _) hb1
  have hs1 : w.heap.size + 1 < w1.heap.size := bk_lt hz
  have hs0 : w.heap.size < w1.heap.size := by omega
  have hsb : b < w1.heap.size := by omega
  obtain ⟨z0, z1, z2, z3, z4, zf⟩ := cells5 hz
  obtain ⟨y0, y1, yf⟩ := cells2 hy
  have hc1 := cell_below hB1.out hc
  have HZ := Lib.hid hz
  have HY := Lib.hid hy
  clear hz hy hb1 hc
  have hns := nsO_le k
  obtain ⟨m, hm⟩ : ∃ m, (nsO k).size = m := ⟨_, rfl⟩
  rw [hm] at hns
  rw [hm] at HN
  cases hok : okO k
  · have e : n = 9 := by have := HN.out; simp only [hok, if_true] at this; exact this.symm
    clear hnil
    go_wp2
    refine bodyPost_ret (v := .tuple #[.agg #[.int .i64 0, .int .i64 0, .int .i64 0, .int .i64 0, .string ⟨#[]⟩], .int .i64 9]) (res89 rfl rfl rfl (bk_alloc (store5 HZ.out) _)) rfl (ofEnd_z e rfl ?_)
    exact blw_alloc (blw_set (blw_set (blw_set (blw_set (blw_set hB1.out (by simp) _) (by simp) _) (by simp) _) (by simp) _) (by simp) _) _
  · by_cases hlen : r.length = m
    · have hne : ((r.length : Int) + 1 != 1 + (m : Int)) = false := by rw [bne_eq_false_iff_eq]; omega
      by_cases hbad : t.size ≠ 0 ∧ txO k = false
      · obtain ⟨ht, htx⟩ := hbad
        have hnil2 : (t.toList == []) = false := by rw [hnil]; simpa using ht
        have e : n = 3 := by have := HN.out; rw [hok, if_neg (by decide), if_pos (.inr ⟨ht, htx⟩)] at this; exact this.symm
        go_wp2
        refine bodyPost_ret (v := .tuple #[.agg #[.int .i64 0, .int .i64 0, .int .i64 0, .int .i64 0, .string ⟨#[]⟩], .int .i64 3]) (res89 rfl rfl rfl (bk_alloc (store5 HZ.out) _)) rfl (ofEnd_z e rfl ?_)
        exact blw_alloc (blw_set (blw_set (blw_set (blw_set (blw_set hB1.out (by simp) _) (by simp) _) (by simp) _) (by simp) _) (by simp) _) _
      · by_cases hbig : 1048576 < t.size
        · have e : n = 4 := by have := HN.out; rw [hok, if_neg (by decide), if_neg (by rintro (h | h); exact h hlen; exact hbad h), if_pos hbig] at this; exact this.symm
          have hnil2 : (t.toList == []) = false := by rw [hnil]; simp; intro h; rw [h] at hbig; simp at hbig
          have htx : txO k = true := by cases h : txO k; exact absurd ⟨by omega, h⟩ hbad; rfl
          have hbig2 : (1048576 : Int) < (t.size : Int) := by omega
          have hbig3 : decide (1048576 < t.size) = true := decide_eq_true hbig
          clear hnil
          go_wp2
          refine bodyPost_ret (v := .tuple #[.agg #[.int .i64 0, .int .i64 0, .int .i64 0, .int .i64 0, .string ⟨#[]⟩], .int .i64 4]) (res89 rfl rfl rfl (bk_alloc (store5 HZ.out) _)) rfl (ofEnd_z e rfl ?_)
          exact blw_alloc (blw_set (blw_set (blw_set (blw_set (blw_set hB1.out (by simp) _) (by simp) _) (by simp) _) (by simp) _) (by simp) _) _
        · have e : n = 0 := by have := HN.out; rw [hok, if_neg (by decide), if_neg (by rintro (h | h); exact h hlen; exact hbad h), if_neg hbig] at this; exact this.symm
          have hpass : t = ⟨#[]⟩ ∨ ((t.toList == []) = false ∧ txO k = true) := by
            by_cases ht : t.size = 0
            · left
              have : (t.toList == []) = true := by rw [hnil]; simpa using ht
              exact tl_inj (by simpa using this)
            · right
              refine ⟨by rw [hnil]; simpa using ht, ?_⟩
              cases h : txO k
              · exact absurd ⟨ht, h⟩ hbad
              · rfl
          have HE := Lib.hid e
          have HL := Lib.hid hlen
          have HM := Lib.hid hm
          clear hbad e hnil
          rcases hpass with rfl | ⟨hp1, hp2⟩
          all_goals
            go_wp2
            go_region
            go_wp2
            have hrow : ∀ T, (w1.alloc (.cells #[.string (nmO k), .string (nsO k), .bool T] 120)).heap[w1.heap.size]? = some (.cells #[.string (nmO k), .string (nsO k), .bool T] 120 (0, 0)) := fun T => bk_new _ _
            go_loopw [61] (fun i wr => ∃ (j : Nat) (x y z : Int) (s : ByteArray) (T : Bool), j ≤ m ∧ i = .int .i64 j ∧ wr.heap[w1.heap.size + 1]? = some (.cells #[.int .i64 k, .int .i64 x, .int .i64 y, .int .i64 z, .string s] 89 (0, 0)) ∧
              wr.heap[w1.heap.size]? = some (.cells #[.string (nmO k), .string (nsO k), .bool T] 120 (0, 0)) ∧ wr.heap[w.heap.size]? = some (.cells #[.slice (some ⟨b, o, none⟩) (m + 1) cap, .string s] 42 (0, 0)) ∧ wr.heap[w.heap.size + 1]? = some (.cells #[.int .i64 0, .int .i64 0, .int .i64 0, .int .i64 0, .string ⟨#[]⟩] 89 (0, 0)) ∧ Below w.heap.size w wr) (fun i _ => m - (intOf i).toNat)
            case atStart => exact ⟨0, 0, 0, 0, _, _, by omega, rfl, bk_drew (by simpa using bk_new (w1.alloc (.cells #[.string (nmO k), .string (nsO k), .bool _] 120)) _), bk_drew (bk_alloc (hrow _) _), bk_drew (bk_alloc (bk_alloc (by rw [← HL.out]; exact HY.out) _) _), bk_drew (bk_alloc (bk_alloc HZ.out _) _), blw_drew (blw_alloc (blw_alloc hB1.out _) _)⟩
            case round =>
              obtain ⟨j, x, y, z, s, T, hj, rfl, hX, hR, hY, hZ, hbel⟩ := hrel
              obtain ⟨x0, x1, x2, x3, x4, xf⟩ := cells5 hX
              obtain ⟨r0, r1, r2, rf⟩ := cells3 hR
              obtain ⟨q0, q1, qf⟩ := cells2 hY
              obtain ⟨o0, o1, o2, o3, o4, of⟩ := cells5 hZ
              by_cases hlt2 : j < m
              · have hix := run_ix (nsO k) j (by omega)
                have hfa : ∀ w, Calls Tryd.prog 79 #[.pointer (some ⟨w1.heap.size + 1, 0, none⟩), .int .u8 (bat (nsO k) j)] w fun e w' => e = .returned (.pointer (some ⟨w1.heap.size + 1, fieldN (bat (nsO k) j), none⟩)) ∧ w' = w := fun w => (field_any (w1.heap.size + 1) (bat (nsO k) j) w).mono fun _ _ h => ⟨h.1, h.2.symm⟩
                have hcell : ∃ v, wr.cell? ⟨b, o + (j + 1), none⟩ = some (.int .i64 v) := by
                  have hj2 : j < r.length := by rw [HL.out]; exact hlt2
                  exact ⟨r[j], cell_below hbel (HCS.out j r[j] (List.getElem?_eq_getElem hj2))⟩
                obtain ⟨v, hv⟩ := hcell
                have hst : ∃ x' y' z' : Int, (wr.setCell ⟨w1.heap.size + 1, fieldN (bat (nsO k) j), none⟩ (.int .i64 v)).heap[w1.heap.size + 1]? = some (.cells #[.int .i64 k, .int .i64 x', .int .i64 y', .int .i64 z', .string s] 89 (0, 0)) := by
                  unfold fieldN
                  split
                  · exact ⟨v, y, z, bk_set hX 1 _⟩
                  · split
                    · exact ⟨x, v, z, bk_set hX 2 _⟩
                    · exact ⟨x, y, v, bk_set hX 3 _⟩
                have hfc : ∃ u, wr.cell? ⟨w1.heap.size + 1, fieldN (bat (nsO k) j), none⟩ = some (.int .i64 u) := by
                  unfold fieldN
                  split
                  · exact ⟨_, x1⟩
                  · split
                    · exact ⟨_, x2⟩
                    · exact ⟨_, x3⟩
                obtain ⟨u, hu⟩ := hfc
                obtain ⟨x', y', z', hst⟩ := hst
                have HST := Lib.hid hst
                clear hst
                have hfr := xf (fieldN (bat (nsO k) j))
                generalize hfn : fieldN (bat (nsO k) j) = fn at *
                generalize bat (nsO k) j = ch at *
                obtain ⟨q, hq⟩ : ∃ q, j + 1 = q := ⟨_, rfl⟩
                have hw : IntKind.i64.wrap ((j : Int) + 1) = (q : Int) := by rw [IntWalk.i64_in _ (by omega)]; omega
                have hq1 : q < m + 1 := by omega
                have hq2 : (q : Int) < 1 + (m : Int) := by omega
                have hj2 : (j : Int) < (m : Int) := by omega
                rw [hq] at hv
                go_wp2
                refine wp_region_still_tail 12 (by kernel_rfl) (by kernel_rfl) ?_
                simp only [List.take_succ_cons, List.take_zero, List.drop_succ_cons, List.drop_zero]
                change wpStill _ _ (World.drew _) (fun a' => wpList _ _ _ _ a' (World.drew _)) _ _
                repeat still_step
                still_call (hfa _)
                repeat still_step
                refine wpStill_nil ?_
                go_wp2
                go_roundw
                case rel => exact ⟨j + 1, x', y', z', s, T, by omega, by go_num, bk_drew HST.out, bk_drew (bk_far hR (by simp <;> omega) _), bk_drew (bk_far hY (by simp <;> omega) _), bk_drew (bk_far hZ (by simp <;> omega) _), blw_drew (blw_set hbel (by simp <;> omega) _)⟩
                case measure => simp [intOf]; omega
              · go_wp2
                refine bodyPost_ret (v := .tuple #[.agg #[.int .i64 k, .int .i64 x, .int .i64 y, .int .i64 z, .string s], .int .i64 0]) (res89 rfl rfl rfl (store5 hZ)) rfl ?_
                rw [HE.out]
                refine ⟨_, rfl, ⟨_, _, _, _, _, rfl⟩, ?_⟩
                exact blw_set (blw_set (blw_set (blw_set (blw_set hbel (by simp) _) (by simp) _) (by simp) _) (by simp) _) (by simp) _
    · have e : n = 3 := by have := HN.out; rw [hok, if_neg (by decide), if_pos (.inl hlen)] at this; exact this.symm
      have hne : ((r.length : Int) + 1 != 1 + (m : Int)) = true := by rw [bne_iff_ne]; omega
      go_wp2
      refine bodyPost_ret (v := .tuple #[.agg #[.int .i64 0, .int .i64 0, .int .i64 0, .int .i64 0, .string ⟨#[]⟩], .int .i64 3]) (res89 rfl rfl rfl (bk_alloc (store5 HZ.out) _)) rfl (ofEnd_z e rfl ?_)
      exact blw_alloc (blw_set (blw_set (blw_set (blw_set (blw_set hB1.out (by simp) _) (by simp) _) (by simp) _) (by simp) _) (by simp) _) _
end Go.Proofs.YtgeaebcchjmmjaaDoor
