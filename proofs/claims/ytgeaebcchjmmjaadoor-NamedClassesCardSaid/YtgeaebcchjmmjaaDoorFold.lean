/- What Fold of package named answers. -/
import Derived.Test.YtgeaebcchjmmjaaDoorEscape2
import Derived.Test.YtgeaebcchjmmjaaDoorBytes
namespace Go.Proofs.YtgeaebcchjmmjaaDoor
open Go.RowKit
/-- A set, with the other case of some bytes. -/
def flp (n : Nat) (l : List Nat) : Nat := l.foldl (fun m b => m ||| 2 ^ (b ^^^ 32)) n
theorem flp_snoc (n : Nat) (l : List Nat) (k : Nat) (h : k < l.length) : flp n (l.take (k + 1)) = flp n (l.take k) ||| 2 ^ ((l.getD k 0) ^^^ 32) := by
  unfold flp
  rw [List.take_succ_eq_append_getElem h, List.foldl_append]
  simp [List.getD_eq_getElem?_getD, h]
theorem xor32 (b : Nat) (hb : b < 256) : bits .xor .u8 (b : Int) 32 = ((b ^^^ 32 : Nat) : Int) := by
  have hx : b ^^^ 32 < 2 ^ 8 := Nat.xor_lt_two_pow (by omega) (by omega)
  have h1 : (BitVec.ofInt 8 (b : Int)).toNat = b := by
    rw [BitVec.toNat_ofInt]; omega
  have h2 : (BitVec.ofInt 8 (32 : Int)).toNat = 32 := by decide
  show IntKind.u8.wrap ((BitVec.ofInt 8 (b : Int) ^^^ BitVec.ofInt 8 32).toNat : Nat) = _
  rw [BitVec.toNat_xor, h1, h2, IntKind.wrap_u8]
  omega
theorem own_form {w : World} {base n size : Nat} {e : TypeId} {v : Value} {xs : List Value} (h : w.ownsRow base e size v n xs) : ∃ A c, v = .slice A n c := by
  rcases h.2 with ⟨rfl, rfl⟩ | ⟨g, cap, cur, rfl, _⟩
  · have := h.1
    simp at this
    exact ⟨none, 0, rfl⟩
  · exact ⟨_, cap, rfl⟩
theorem u8len (l : List Nat) : (u8s l).length = l.length := by simp [u8s]
theorem flp_bit (l : List Nat) : ∀ (n i : Nat), (flp n l).testBit i = (n.testBit i || l.any fun b => (b ^^^ 32) == i) := by
  unfold flp
  induction l with
  | nil => intro n i; simp
  | cons b l ih =>
    intro n i
    rw [List.foldl_cons, ih, Nat.testBit_or, Nat.testBit_two_pow, List.any_cons, Bool.or_assoc]
    congr 2
/-- A set, with the other case of each letter. -/
def foldN (n : Nat) : Nat := flp n ((List.range 256).filter fun b => (n &&& clsN sAlpha).testBit b)
theorem flp_foldN {n : Nat} {l : List Nat} (h : (∀ b, b ∈ l → b < 256 ∧ (n &&& clsN sAlpha).testBit b = true) ∧ (∀ b, b < 256 → (n &&& clsN sAlpha).testBit b = true → b ∈ l)) : flp n l = foldN n := by
  refine Nat.eq_of_testBit_eq fun i => ?_
  rw [foldN, flp_bit, flp_bit]
  congr 1
  rw [Bool.eq_iff_iff, List.any_eq_true, List.any_eq_true]
  constructor
  · rintro ⟨b, hb, h1⟩
    exact ⟨b, by simp [List.mem_filter]; have := h.1 b hb; simpa using this, h1⟩
  · rintro ⟨b, hb, h1⟩
    simp only [List.mem_filter, List.mem_range] at hb
    exact ⟨b, h.2 b hb.1 hb.2, h1⟩
theorem u8s_at (l : List Nat) (k : Nat) (hk : k < l.length) : (u8s l)[k]? = some (.int .u8 (l.getD k 0 : Nat)) := by
  simp [u8s, List.getD_eq_getElem?_getD, hk]
theorem Tab.alloc {w : World} (h : Tab w) (o : Obj) : Tab (w.alloc o) := h.below (blw_alloc (Below.refl _ _) o)
theorem own_cell {W : World} {base n c : Nat} {e : TypeId} {A : Option Addr} {xs : List Value} {v : Value} (h : W.ownsRow base e 1 (.slice A n c) n xs) (k : Nat) (hx : xs[k]? = some v) : ∃ g, A = some ⟨g, 0, none⟩ ∧ W.cell? ⟨g, k, none⟩ = some v := by
  have hk : k < n := by
    have := (List.getElem?_eq_some_iff.1 hx).1
    have := h.1
    omega
  rcases h.2 with ⟨h1, h2⟩ | ⟨g, cap, cur, h1, hb, hg, h3, h4, h5, h6⟩
  · omega
  · injection h1 with h1 _ h7
    subst h1; subst h7
    exact ⟨g, rfl, (h.cellAt k (by omega)).trans hx⟩
set_option maxRecDepth 100000 in
set_option maxHeartbeats 4000000 in
theorem fold_any (n : Nat) (w : World) (hT : Tab w) :
    Calls Tryd.prog 10 #[sv n] w fun e w' => e = .returned (sv (foldN n)) ∧ Below w.heap.size w w' := by
  have HT := Lib.hid hT
  clear hT
  unfold sv
  go_enter Tryd.func10, Tryd.ntmps10
  go_wp2
  go_region_with (first | (go_at_call 34; refine (nof_any _ _).mono ?_; rintro e w1 ⟨rfl, hb1⟩; obtain ⟨hc1, hf1⟩ := bcell hb1; have HT1 := Lib.hid (show Tab w1 from Tab.below (by repeat (with_reducible first | exact HT.out | apply Tab.alloc | apply Tab.drew)) hb1)) | (go_at_call 12; refine (and_any n (clsN sAlpha) _).mono ?_; rintro e w2 ⟨rfl, hb2⟩; have HT2 := Lib.hid (show Tab w2 from Tab.below HT1.out hb2)) | (go_at_call 33; refine (bytes_any _ _ HT2.out).mono ?_; rintro e w3 ⟨v, l, rfl, hown, hlen, hmem, hb3⟩; obtain ⟨A, c, rfl⟩ := own_form hown))
  all_goals
    have HF := Lib.hid (flp_foldN hmem)
    have HM := Lib.hid hmem.1
    have HO := Lib.hid hown
    have hB3 : Below w.heap.size w w3 := blw_then (blw_then (blw_then (blw_drew (blw_alloc (blw_alloc (blw_alloc (Below.refl _ _) _) _) _)) hb1) hb2) hb3
    have HZ : Hid (w3.heap[w.heap.size + 1]? = some (.cells (sc 0) 24 (0, 0))) := Lib.hid (by
      refine bk_below (bk_below (bk_below (bk_drew (bk_alloc ?_ _)) hb1) hb2) hb3
      rw [sc_zero]
      have := bk_new (w.alloc (.cells (sc n) 24)) (.cells #[.int .u64 0, .int .u64 0, .int .u64 0, .int .u64 0] 24)
      simpa [sc] using this)
    have HS : Hid (w3.heap[w.heap.size + 1 + 1]? = some (.cells (sc n) 24 (0, 0))) := Lib.hid (by
      refine bk_below (bk_below (bk_below (bk_drew ?_) hb1) hb2) hb3
      have := bk_new ((w.alloc (.cells (sc n) 24)).alloc (.cells #[.int .u64 0, .int .u64 0, .int .u64 0, .int .u64 0] 24)) (.cells (sc n) 24)
      simpa [sc] using this)
    have hw2 : w.heap.size + 1 + 1 < w2.heap.size := by
      have h1 := hb1.size
      have h2 := hb2.size
      simp at h1
      omega
    clear hmem hown hc1 hf1 hb1 hb2 hb3
    go_wp2
    simp only [Act.put, List.getElem_toArray, List.getElem_cons_succ, List.getElem_cons_zero, List.setIfInBounds_toArray, List.set_cons_succ, List.set_cons_zero]
    go_loopw [12] (fun i wr => ∃ k : Nat, k ≤ l.length ∧ i = .int .i64 k ∧ wr.heap[w.heap.size + 1]? = some (.cells (sc 0) 24 (0, 0)) ∧ wr.heap[w.heap.size + 1 + 1]? = some (.cells (sc (flp n (l.take k))) 24 (0, 0)) ∧
      wr.ownsRow w2.heap.size 5 1 (.slice A l.length c) l.length (u8s l) ∧ Below w.heap.size w wr) (fun i _ => l.length - (intOf i).toNat)
    case atStart => exact ⟨0, by omega, rfl, HZ.out, HS.out, HO.out, hB3⟩
    case round =>
      obtain ⟨k, hk, rfl, hz, hs, hown, hbel⟩ := hrel
      have HZ2 := Lib.hid hz
      have HS2 := Lib.hid hs
      clear hz hs
      by_cases hlt : k < l.length
      · obtain ⟨g, rfl, hcell⟩ := own_cell hown k (u8s_at l k hlt)
        have HO2 := Lib.hid hown
        clear hown
        have hx := (HM.out _ (show l.getD k 0 ∈ l by rw [List.getD_eq_getElem?_getD, List.getElem?_eq_getElem hlt]; exact List.getElem_mem hlt)).1
        have HSN := Lib.hid (flp_snoc n l k hlt)
        generalize l.getD k 0 = x at *
        obtain ⟨m, HMM⟩ : ∃ m, Hid (flp n (l.take k) = m) := ⟨_, Lib.hid rfl⟩
        have HS3 := HS2.out
        rw [HMM.out] at HS3
        obtain ⟨c0, c1, c2, c3, cf⟩ := sc_cells HS3
        have hbl : w.heap.size + 1 + 1 < wr.heap.size := bk_lt HS3
        have HS3 := Lib.hid HS3
        have hxor := xor32 x hx
        have hxl : x ^^^ 32 < 256 := Nat.xor_lt_two_pow (n := 8) (by omega) (by decide)
        generalize x ^^^ 32 = y at *
        go_wp2
        go_region_with (first | (go_at_call 32; refine (of1_any y hxl _ _ _ (by simp)).mono ?_; rintro e w4 ⟨rfl, hb4⟩; have hs4 := bk_below (bk_drew (bk_alloc HS3.out _)) hb4; obtain ⟨f0, f1, f2, f3, ff⟩ := sc_cells hs4; have HS4 := Lib.hid hs4; clear hs4) | (go_at_call 35; refine (or_any m (2 ^ y) _).mono ?_; rintro e w5 ⟨rfl, hb5⟩; have hs5 := bk_below HS4.out hb5; obtain ⟨e0, e1, e2, e3, ef⟩ := sc_cells hs5; have HS5 := Lib.hid hs5; clear hs5))
        all_goals
          have hB5 : Below w.heap.size w w5 := blw_then (blw_then (blw_drew (blw_alloc hbel _)) hb4) hb5
          have HZ5 := Lib.hid (bk_below (bk_below (bk_drew (bk_alloc HZ2.out (.cells #[.int .u8 y] 5))) hb4) hb5)
          have HO5 := Lib.hid (own_below (own_below ((HO2.out.alloc (.cells #[.int .u8 y] 5)).drew) hb4) hb5)
          clear hb4 hb5
          go_wp2
          go_roundw
          case rel =>
            refine ⟨k + 1, by omega, by go_num, ?_, ?_, ?_, ?_⟩
            · exact bk_far (bk_far (bk_far (bk_far HZ5.out (by simp) _) (by simp) _) (by simp) _) (by simp) _
            · rw [HSN.out, HMM.out]
              exact sc_store4 HS5.out
            · exact ownsRow_setCell_below (ownsRow_setCell_below (ownsRow_setCell_below (ownsRow_setCell_below HO5.out hw2 _) hw2 _) hw2 _) hw2 _
            · exact blw_set (blw_set (blw_set (blw_set hB5 (by simp; omega) _) (by simp; omega) _) (by simp; omega) _) (by simp; omega) _
          case measure => simp [intOf]; omega
      · obtain ⟨c0, c1, c2, c3, cf⟩ := sc_cells HS2.out
        obtain ⟨d0, d1, d2, d3, df⟩ := sc_cells HZ2.out
        go_wp2
        have hkl : k = l.length := by omega
        subst hkl
        rw [← HF.out]
        have hst := sc_store4 (m := flp n l) HZ2.out
        refine bodyPost_ret (v := sv (flp n l)) (res_sv rfl rfl (by simpa using hst)) rfl ⟨rfl, ?_⟩
        repeat (with_reducible first | exact hbel | refine blw_set ?_ (by simp) _)
end Go.Proofs.YtgeaebcchjmmjaaDoor
