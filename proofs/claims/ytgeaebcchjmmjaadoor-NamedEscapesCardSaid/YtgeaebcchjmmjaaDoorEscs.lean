/- The law NamedEscapes returns true for every byte. -/
import Derived.Test.YtgeaebcchjmmjaaDoorAwake02
import Derived.Test.YtgeaebcchjmmjaaDoorRefEsc2
namespace Go.Proofs.YtgeaebcchjmmjaaDoor
open Go.RowKit
/-- What a byte behind a backslash stands for: the set, and whether there is one. -/
structure EscIs (c n : Nat) (b : Bool) : Prop where
  lt : n < 2 ^ 256
  go : ∀ w, Calls Tryd.prog 13 #[.int .u8 c] w fun e w' => e = .returned (.tuple #[sv n, .bool b]) ∧ Below w.heap.size w w'
  page : ∀ w, Calls Tryd.prog 14 #[.int .i64 c] w fun e w' => e = .returned (.tuple #[sv n, .bool b]) ∧ Below w.heap.size w w'
theorem escIs_mk {c n : Nat} {p : Nat → Bool} {b : Bool} (hn : col p 256 = n) (hb : (!(n == 0)) = b)
    (go : ∀ w, Calls Tryd.prog 13 #[.int .u8 c] w fun e w' => e = .returned (.tuple #[sv n, .bool b]) ∧ Below w.heap.size w w')
    (page : ∀ w, Calls Tryd.prog 14 #[.int .i64 c] w fun e w' => e = .returned (.tuple #[sv (col p 256), .bool (!(col p 256 == 0))]) ∧ Below w.heap.size w w') : EscIs c n b := by
  subst hn; subst hb
  exact ⟨col_lt p, go, page⟩
theorem col_none {p : Nat → Bool} (h : ∀ i, i < 256 → p i = false) : col p 256 = 0 := by
  refine Nat.eq_of_testBit_eq fun i => ?_
  rw [col_bit, Nat.zero_testBit]
  by_cases hi : i < 256
  · simp [h i hi]
  · simp [hi]
theorem col_one {p : Nat → Bool} {c : Nat} (hc : c < 256) (h : ∀ i, i < 256 → p i = decide (i = c)) : col p 256 = 2 ^ c := by
  refine Nat.eq_of_testBit_eq fun i => ?_
  rw [col_bit, Nat.testBit_two_pow]
  by_cases hi : i < 256
  · rw [h i hi]
    simp only [hi, decide_true, Bool.true_and, decide_eq_decide]
    exact ⟨fun h => h.symm, fun h => h.symm⟩
  · have : ¬ c = i := by omega
    simp [hi, this]
theorem alnum_bit : ∀ b : Nat, b < 256 → (clsN sAlnum).testBit b = alB b := by decide +kernel
theorem esc_is (c : Nat) (hc : c < 256) : ∃ n b, EscIs c n b := by
  by_cases h110 : c = 110
  · subst h110; exact ⟨1024, true, escIs_mk (by decide +kernel) rfl esc_n refEsc_n⟩
  by_cases h116 : c = 116
  · subst h116; exact ⟨512, true, escIs_mk (by decide +kernel) rfl esc_t refEsc_t⟩
  by_cases h114 : c = 114
  · subst h114; exact ⟨8192, true, escIs_mk (by decide +kernel) rfl esc_r refEsc_r⟩
  by_cases h100 : c = 100
  · subst h100; exact ⟨_, true, escIs_mk (by decide +kernel) (by decide +kernel) esc_d refEsc_d⟩
  by_cases h115 : c = 115
  · subst h115; exact ⟨_, true, escIs_mk (by decide +kernel) (by decide +kernel) esc_s refEsc_s⟩
  by_cases h119 : c = 119
  · subst h119; exact ⟨_, true, escIs_mk (by decide +kernel) (by decide +kernel) esc_w refEsc_w⟩
  by_cases h68 : c = 68
  · subst h68; exact ⟨_, true, escIs_mk (by decide +kernel) (by decide +kernel) esc_D refEsc_D⟩
  by_cases h83 : c = 83
  · subst h83; exact ⟨_, true, escIs_mk (by decide +kernel) (by decide +kernel) esc_S refEsc_S⟩
  by_cases h87 : c = 87
  · subst h87; exact ⟨_, true, escIs_mk (by decide +kernel) (by decide +kernel) esc_W refEsc_W⟩
  have ne : ∀ k : Nat, c ≠ k → (((c : Int) == (k : Int)) = false) := fun k h => by rw [beq_eq_false_iff_ne]; omega
  have g110 := ne 110 h110
  have g116 := ne 116 h116
  have g114 := ne 114 h114
  have g100 := ne 100 h100
  have g115 := ne 115 h115
  have g119 := ne 119 h119
  have g68 := ne 68 h68
  have g83 := ne 83 h83
  have g87 := ne 87 h87
  cases ht : alB c
  · refine ⟨2 ^ c, true, escIs_mk (p := qDef c) ?_ ?_ (esc_yes c hc g110 g116 g114 g100 g115 g119 g68 g83 g87 (by rw [alnum_bit c hc]; exact ht)) (refEsc_def c g110 g116 g114 g100 g115 g119 g68 g83 g87)⟩
    · refine col_one hc fun i hi => ?_
      unfold qDef
      by_cases he : i = c
      · subst he; simp [ht]
      · simp [he]
    · simp
  · refine ⟨0, false, escIs_mk (p := qDef c) ?_ rfl (esc_no c hc g110 g116 g114 g100 g115 g119 g68 g83 g87 (by rw [alnum_bit c hc]; exact ht)) (refEsc_def c g110 g116 g114 g100 g115 g119 g68 g83 g87)⟩
    refine col_none fun i hi => ?_
    unfold qDef
    by_cases he : i = c
    · subst he; simp [ht]
    · simp [he]
theorem dot_bit : ∀ c : Nat, c < 256 → (allB ^^^ 1024).testBit c = !(c == 10) := by decide +kernel
theorem dot_cnt : cnt (allB ^^^ 1024) = 255 := by decide +kernel
set_option maxRecDepth 100000 in
set_option maxHeartbeats 4000000 in
theorem escs_walk (c : Nat) (hc : c < 256) (w : World) (hT : Tab w) : Calls Tryd.prog 4 #[.int .u8 c] w fun e w' => e = .returned (.bool true) ∧ Below w.heap.size w w' := by
  obtain ⟨n, b, E⟩ := esc_is c hc
  have heq := eql_sv n n E.lt E.lt
  have hdot := Lib.hid (dot_bit c hc)
  have hdc := Lib.hid dot_cnt
  have HE := Lib.hid E
  clear E
  go_enter Tryd.func4, Tryd.ntmps4
  go_wp2_with fail
  refine (awake02 _ hT).mono ?_
  rintro e w1 ⟨rfl, hb1⟩
  clear hT
  go_wp2_with fail
  refine (HE.out.go _).mono ?_
  rintro e w2 ⟨rfl, hb2⟩
  have hB2 := blw_then hb1 hb2
  clear hb1 hb2
  go_wp2_with fail
  refine (HE.out.page _).mono ?_
  rintro e w3 ⟨rfl, hb3⟩
  have hB3 := blw_then (blw_alloc hB2 _) hb3
  obtain ⟨a0, a1, a2, a3, af⟩ := sc_cells (show w3.heap[w2.heap.size]? = some (.cells (sc n) 24 (0, 0)) from bk_below (bk_new w2 (.cells (sc n) 24)) hb3)
  have hlt : w2.heap.size < w3.heap.size := by have h := hb3.size; simp at h; omega
  clear hB2 hb3
  by_cases hq : c = 10
  · have hd : (allB ^^^ 1024).testBit c = false := by rw [hdot.out]; simp [hq]
    have hd1 : ((c : Int) != 10) = false := by simp [hq]
    have hD := Lib.hid hd
    clear hq hd
    go_wp2_with fail
    refine (dot_any _).mono ?_
    rintro e w4 ⟨rfl, hb4⟩
    go_wp2_with fail
    refine (has_any (allB ^^^ 1024) c _ (by omega) (by omega)).mono ?_
    rw [Int.toNat_natCast, hD.out]
    rintro e w5 ⟨rfl, hb5⟩
    go_wp2_with fail
    refine (dot_any _).mono ?_
    rintro e w6 ⟨rfl, hb6⟩
    go_wp2_with fail
    refine (count_any (allB ^^^ 1024) _).mono ?_
    rw [hdc.out]
    rintro e w7 ⟨rfl, hb7⟩
    go_wp2
    go_ret
    exact ⟨rfl, blw_then (blw_then (blw_then (blw_then (blw_alloc hB3 _) hb4) hb5) hb6) hb7⟩
  · have hd : (allB ^^^ 1024).testBit c = true := by rw [hdot.out]; simp [hq]
    have hd1 : ((c : Int) != 10) = true := by rw [bne_iff_ne]; omega
    have hD := Lib.hid hd
    clear hq hd
    go_wp2_with fail
    refine (dot_any _).mono ?_
    rintro e w4 ⟨rfl, hb4⟩
    go_wp2_with fail
    refine (has_any (allB ^^^ 1024) c _ (by omega) (by omega)).mono ?_
    rw [Int.toNat_natCast, hD.out]
    rintro e w5 ⟨rfl, hb5⟩
    go_wp2_with fail
    refine (dot_any _).mono ?_
    rintro e w6 ⟨rfl, hb6⟩
    go_wp2_with fail
    refine (count_any (allB ^^^ 1024) _).mono ?_
    rw [hdc.out]
    rintro e w7 ⟨rfl, hb7⟩
    go_wp2
    go_ret
    exact ⟨rfl, blw_then (blw_then (blw_then (blw_then (blw_alloc hB3 _) hb4) hb5) hb6) hb7⟩
end Go.Proofs.YtgeaebcchjmmjaaDoor
