/- What Bytes of package byteset answers: just the bytes of a set. -/
import Derived.Test.YtgeaebcchjmmjaaDoorSets4
import Derived.Test.YtgeaebcchjmmjaaDoorLow
namespace Go.Proofs.YtgeaebcchjmmjaaDoor
open Go.RowKit Go.Lib
theorem info5 : (Tryd.prog.info? 5).map (fun i => (i.zero, i.size, i.bytes)) = some (some (.int .u8 0), 1, 1) := by kernel_rfl
theorem ixk (n k : Nat) (hk : k < 4) (w : World) : (Instr.index 24 (.agg #[.int .u64 (wd n 0), .int .u64 (wd n 1), .int .u64 (wd n 2), .int .u64 (wd n 3)]) (.int .i64 k)).run Tryd.prog w = .ok (.int .u64 (wd n k)) w := by
  match k, hk with
  | 0, _ => exact ix0 _ _ _ _ w
  | 1, _ => exact ix1 _ _ _ _ w
  | 2, _ => exact ix2 _ _ _ _ w
  | 3, _ => exact ix3 _ _ _ _ w
/-- math/bits.TrailingZeros64, where something is set. -/
theorem tz_any (x : Nat) (hx0 : x ≠ 0) (hx : x < 18446744073709551616) (w : World) (hT : Tab w) :
    Calls Tryd.prog 67 #[.int .u64 x] w fun e w' => e = .returned (.int .i64 (ctz 64 x)) ∧ w = w' := by
  obtain ⟨hlow, hk⟩ := Lib.lowest_bit 64 x hx0 hx
  obtain ⟨hi, htab⟩ := Lib.deBruijn64_at _ hk
  have e1 : IntKind.u64.wrap (-(x : Int)) = ((18446744073709551616 - x : Nat) : Int) := by rw [IntKind.wrap_u64]; omega
  refine (tz_core x (ctz 64 x) _ w (by rw [beq_eq_false_iff_ne]; omega) ?_ hi hk ?_).mono fun e w' h => ⟨h.1, h.2.symm⟩
  · have hlow' : x &&& (18446744073709551616 - x) = 2 ^ ctz 64 x := hlow
    rw [e1, bits_and_u64_nat x _ hx (by omega), hlow', IntKind.wrap_u64]
    clear hi htab hlow hlow' e1
    generalize 2 ^ ctz 64 x = a
    omega
  · rw [hT _ hi, htab]
/-- What has been told of words ahead of k. -/
def Told0 (n k : Nat) (l : List Nat) : Prop := (∀ b, b ∈ l → b < 256 ∧ n.testBit b = true) ∧ (∀ b, b < 64 * k → n.testBit b = true → b ∈ l) ∧ l.length ≤ 64 * k
/-- .. and of word k but for the bits of x. -/
def Told (n k x : Nat) (l : List Nat) : Prop :=
  (∀ b, b ∈ l → b < 256 ∧ n.testBit b = true) ∧ (∀ b, b < 64 * k → n.testBit b = true → b ∈ l) ∧
  (∀ i, i < 64 → n.testBit (64 * k + i) = true → x.testBit i = true ∨ 64 * k + i ∈ l) ∧ (∀ i, x.testBit i = true → n.testBit (64 * k + i) = true) ∧
  (∃ p, p ≤ 64 ∧ l.length ≤ 64 * k + p ∧ ∀ i, x.testBit i = true → p ≤ i) ∧ x < 18446744073709551616
theorem Told.start {n k : Nat} {l : List Nat} (h : Told0 n k l) : Told n k (wn n k) l := by
  refine ⟨h.1, h.2.1, fun i hi hb => .inl ?_, fun i hi => ?_, ⟨0, by omega, by have := h.2.2; omega, fun _ _ => Nat.zero_le _⟩, wn_lt n k⟩
  · rw [wn_testBit]; simp [hi, hb]
  · rw [wn_testBit] at hi; simp at hi; exact hi.2
theorem Told.step {n k x : Nat} {l : List Nat} (h : Told n k x l) (hk : k < 4) (h0 : x ≠ 0) : Told n k (x &&& (x - 1)) (l ++ [64 * k + ctz 64 x]) := by
  obtain ⟨a, b, c, d, ⟨p, e1, e2, e3⟩, h1⟩ := h
  have h1' : x < 2 ^ 64 := h1
  have hl := (low_form x h0 h1')
  obtain ⟨_, _, hlt⟩ := hl
  have hp := e3 _ (low_is x h0 h1')
  refine ⟨fun y hy => ?_, fun y h2 h3 => by simp [b y h2 h3], fun i hi hb => ?_, fun i hi => ?_, ⟨ctz 64 x + 1, by omega, by simp; omega, fun i hi => ?_⟩, Nat.lt_trans (low_lt x h0) h1⟩
  · simp only [List.mem_append, List.mem_singleton] at hy
    rcases hy with hy | rfl
    · exact a y hy
    · exact ⟨by omega, d _ (low_is x h0 h1')⟩
  · rw [low_bit x i h0 h1']
    by_cases he : i = ctz 64 x
    · right; simp [he]
    · rcases c i hi hb with h | h
      · left; simp [h, he]
      · right; simp [h]
  · rw [low_bit x i h0 h1'] at hi
    simp at hi
    exact d i hi.1
  · rw [low_bit x i h0 h1'] at hi
    simp only [Bool.and_eq_true, Bool.not_eq_true', decide_eq_false_iff_not] at hi
    obtain ⟨hi1, hi2⟩ := hi
    have := low_least x h0 h1' i hi1
    omega
theorem Told.done {n k : Nat} {l : List Nat} (h : Told n k 0 l) : Told0 n (k + 1) l := by
  obtain ⟨a, b, c, d, ⟨p, e1, e2, e3⟩, h1⟩ := h
  refine ⟨a, fun y h2 h3 => ?_, by omega⟩
  by_cases hy : y < 64 * k
  · exact b y hy h3
  · have := c (y - 64 * k) (by omega) (by rwa [show 64 * k + (y - 64 * k) = y by omega])
    rw [show 64 * k + (y - 64 * k) = y by omega] at this
    simpa using this
theorem Told.len {n k x : Nat} {l : List Nat} (h : Told n k x l) (hk : k < 4) : l.length ≤ 256 := by
  obtain ⟨a, b, c, d, ⟨p, e1, e2, e3⟩, h1⟩ := h
  omega
theorem Told.lt {n k x : Nat} {l : List Nat} (h : Told n k x l) : x < 18446744073709551616 := by
  obtain ⟨_, _, _, _, _, h1⟩ := h
  exact h1
def u8s (l : List Nat) : List Value := l.map fun (b : Nat) => Value.int .u8 (b : Int)
set_option maxRecDepth 100000 in
set_option maxHeartbeats 1000000 in
theorem bytes_any (n : Nat) (w : World) (hT : Tab w) :
    Calls Tryd.prog 33 #[sv n] w fun e w' => ∃ v l, e = .returned v ∧ w'.ownsRow w.heap.size 5 1 v l.length (u8s l) ∧ l.length ≤ 256 ∧ ((∀ b, b ∈ l → b < 256 ∧ n.testBit b = true) ∧ (∀ b, b < 256 → n.testBit b = true → b ∈ l)) ∧ Below w.heap.size w w' := by
  have HT := Lib.hid hT
  clear hT
  unfold sv
  obtain ⟨i0, hi, hz0, hz1, hz2⟩ := info_parts info5
  go_enter Tryd.func33, Tryd.ntmps33
  go_wp2
  go_loopw [3, 7] (fun v i wr => ∃ (k : Nat) (l : List Nat), k ≤ 4 ∧ i = .int .i64 k ∧ wr.ownsRow w.heap.size 5 1 v l.length (u8s l) ∧ Told0 n k l ∧ Below w.heap.size w wr) (fun _ i _ => 4 - (intOf i).toNat)
  case atStart => exact ⟨0, [], by omega, rfl, World.ownsRow_nil _ _ _ _, ⟨fun _ h => by simp at h, fun _ h => by omega, by simp⟩, blw_alloc (Below.refl _ _) _⟩
  case round =>
    obtain ⟨k, l, hk, rfl, hown, htold, hbel⟩ := hrel
    have HO := Lib.hid hown
    have HD := Lib.hid htold
    clear hown htold
    by_cases hlt : k < 4
    · have hix := ixk n k hlt
      have hdk : decide ((k : Int) < 4) = true := decide_eq_true (by omega)
      go_wp2
      obtain ⟨wo, rfl⟩ : ∃ wo : World, wo = wr := ⟨_, rfl⟩
      go_loopw [3, 5] (fun v y wr => ∃ (x : Nat) (l : List Nat), y = .int .u64 x ∧ wr.ownsRow w.heap.size 5 1 v l.length (u8s l) ∧ Told n k x l ∧ Below w.heap.size w wr) (fun _ y _ => (intOf y).toNat)
      case atStart => exact ⟨wn n k, l, rfl, HO.out, Told.start HD.out, hbel⟩
      case round =>
        obtain ⟨x, l2, rfl, hown, htold, hbel2⟩ := hrel
        have hT2 := (HT.out.below hbel2)
        have hx64 : x < 18446744073709551616 := htold.lt
        have HD2 := Lib.hid htold
        have HO2 := Lib.hid hown
        clear htold hown
        by_cases hx0 : x = 0
        · subst hx0
          go_wp2
          go_roundw
          case rel => exact ⟨k + 1, l2, by omega, by go_num, HO2.out, Told.done HD2.out, hbel2⟩
          case measure => simp [intOf]; omega
        · have hne : ((x : Int) == 0) = false := by rw [beq_eq_false_iff_ne]; omega
          have hne' : ((x : Int) != 0) = true := by rw [bne_iff_ne]; omega
          have hc64 : ctz 64 x < 64 := ctz_lt x hx0 hx64
          have hx1 : 1 ≤ x := by omega
          go_wp2_with (first | (go_at_call 67; refine (tz_any x hx0 hx64 _ hT2).mono ?_; rintro e w1 ⟨rfl, rfl⟩) | (at_builtin; refine wpList_append_own _ rfl _ _ 65 rfl w.heap.size 5 i0 (.int .u8 0) 1 1 Tryd.underlying65 hi hz0 hz1 hz2 rfl (by decide) _ _ _ rfl (HO2.out.alloc _) ⟨wr.heap.size, 0, none⟩ 1 1 [.int .u8 ((k : Int) * 64 + (ctz 64 x : Nat))] rfl rfl ?c1 ?c2 ?c3 ?c4 ?c5 ?_))
          case c1 =>
            intro j u hj
            match j, hj with
            | 0, hj => simp at hj; subst hj; simp [Addr.add]
          case c2 => intro u hu; simp at hu; subst hu; rfl
          case c3 => have := HD2.out.len hlt; unfold maxLen; omega
          case c4 => have := HD2.out.len hlt; omega
          case c5 => have := hbel2.size; simp; omega
          intro v' w1 hown' hgrow _
          have hb1 : Below w.heap.size w w1 := (blw_alloc hbel2 _).grown hgrow (by have := hbel2.size; simp; omega) (fun q hq => own_base HO2.out q hq)
          have HB := Lib.hid hown'
          have HB2 := Lib.hid hb1
          clear hown' hgrow hb1
          go_wp2
          go_roundw
          case rel =>
            have e1 : bits .and .u64 (x : Int) ((x : Int) - 1) = ((x &&& (x - 1) : Nat) : Int) := by
              rw [show (x : Int) - 1 = ((x - 1 : Nat) : Int) by omega]
              exact bits_and_u64_nat x (x - 1) hx64 (by omega)
            rw [e1]
            refine ⟨x &&& (x - 1), l2 ++ [64 * k + ctz 64 x], rfl, ?_, Told.step HD2.out hlt hx0, HB2.out⟩
            have := HB.out
            rw [List.length_append]
            unfold u8s at this ⊢
            rw [List.map_append]
            simpa [Int.mul_comm] using this
          case measure =>
            have := low_lt x hx0
            have e1 : bits .and .u64 (x : Int) ((x : Int) - 1) = ((x &&& (x - 1) : Nat) : Int) := by
              rw [show (x : Int) - 1 = ((x - 1 : Nat) : Int) by omega]
              exact bits_and_u64_nat x (x - 1) hx64 (by omega)
            rw [e1]
            simp only [intOf]
            omega
    · go_wp2
      go_ret
      have hk4 : k = 4 := by omega
      subst hk4
      obtain ⟨ta, tb, tc⟩ := HD.out
      exact ⟨_, l, rfl, HO.out, tc, ⟨ta, tb⟩, hbel⟩
end Go.Proofs.YtgeaebcchjmmjaaDoor
