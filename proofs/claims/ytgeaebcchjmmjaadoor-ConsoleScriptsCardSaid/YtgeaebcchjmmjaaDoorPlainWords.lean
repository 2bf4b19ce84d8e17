/- Words, numerals and digits as lists of bytes: a text is the join of its words; numerals and digits read back. -/
import Derived.Lib.SplitLaws
import Derived.Lib.AtoiAllCases
import Derived.Lib.ItoaNum
import Derived.Lib.Join
namespace Go.Proofs.YtgeaebcchjmmjaaDoor
open Go.Lib
/-- The pieces between blanks. -/
def wdsL : List UInt8 → List (List UInt8)
  | [] => [[]]
  | c :: r => if c = 32 then [] :: wdsL r else match wdsL r with
    | [] => [[c]]
    | h :: t => (c :: h) :: t
theorem wdsL_ne : ∀ l, wdsL l ≠ []
  | [] => by simp [wdsL]
  | c :: r => by
    rw [wdsL]
    split
    · simp
    · split <;> simp
def joinL : List (List UInt8) → List UInt8
  | [] => []
  | [x] => x
  | x :: y :: r => x ++ 32 :: joinL (y :: r)
theorem joinL_eq : ∀ ws : List (List UInt8), join ws [32] = joinL ws
  | [] => rfl
  | [x] => by simp [join, List.intercalate, joinL]
  | x :: y :: r => by
    have := joinL_eq (y :: r)
    unfold join at this ⊢
    rw [joinL, ← this]
    simp [List.intercalate, List.intersperse]
theorem join_wds : ∀ l, joinL (wdsL l) = l
  | [] => rfl
  | c :: r => by
    have ih := join_wds r
    rw [wdsL]
    cases h : wdsL r with
    | nil => exact absurd h (wdsL_ne r)
    | cons a t =>
      rw [h] at ih
      split
      · rename_i hc
        rw [joinL, ih, hc]; rfl
      · cases t with
        | nil => simp only [joinL] at ih ⊢; rw [ih]
        | cons b t => simp only [joinL] at ih ⊢; rw [List.cons_append, ih]
theorem wdsL_app (a : List UInt8) (ha : ∀ c ∈ a, c ≠ 32) : ∀ (l h : List UInt8) (t : List (List UInt8)), wdsL l = h :: t → wdsL (a ++ l) = (a ++ h) :: t := by
  induction a with
  | nil => intro l h t e; exact e
  | cons c a ih =>
    intro l h t e
    have := ih (fun x hx => ha x (List.mem_cons_of_mem _ hx)) l h t e
    rw [List.cons_append, wdsL, if_neg (ha c (List.mem_cons_self ..)), this]
    rfl
theorem wds_join : ∀ ws : List (List UInt8), ws ≠ [] → (∀ w ∈ ws, ∀ c ∈ w, c ≠ 32) → wdsL (joinL ws) = ws
  | [], h, _ => absurd rfl h
  | [x], _, h => by
    have := wdsL_app x (h x (List.mem_singleton.2 rfl)) [] [] [] rfl
    simpa [joinL] using this
  | x :: y :: r, _, h => by
    have ih := wds_join (y :: r) (by simp) (fun w hw => h w (List.mem_cons_of_mem _ hw))
    have := wdsL_app x (h x (List.mem_cons_self ..)) (32 :: joinL (y :: r)) [] (y :: r) (by rw [wdsL, if_pos rfl, ih])
    rw [joinL, this, List.append_nil]
theorem wds_no : ∀ (l w : List UInt8), w ∈ wdsL l → ∀ c ∈ w, c ≠ 32
  | [], w, hw, c, hc => by simp [wdsL] at hw; subst hw; cases hc
  | d :: r, w, hw, c, hc => by
    have ih := wds_no r
    rw [wdsL] at hw
    split at hw
    · rcases List.mem_cons.1 hw with rfl | hw
      · cases hc
      · exact ih w hw c hc
    · rename_i hd
      split at hw
      · rename_i e; exact absurd e (wdsL_ne r)
      · rename_i h t e
        rcases List.mem_cons.1 hw with rfl | hw
        · rcases List.mem_cons.1 hc with rfl | hc
          · exact hd
          · exact ih h (by rw [e]; exact List.mem_cons_self ..) c hc
        · exact ih w (by rw [e]; exact List.mem_cons_of_mem _ hw) c hc
theorem wdsL_small : ∀ (l w : List UInt8), w ∈ wdsL l → w.length ≤ l.length
  | [], w, hw => by simp [wdsL] at hw; subst hw; simp
  | c :: l, w, hw => by
    have ih := wdsL_small l
    rw [wdsL] at hw
    split at hw
    · rcases List.mem_cons.1 hw with rfl | hw
      · simp
      · have := ih w hw; simp; omega
    · split at hw
      · rename_i e; exact absurd e (wdsL_ne l)
      · rename_i h t e
        rcases List.mem_cons.1 hw with rfl | hw
        · have := ih h (by rw [e]; exact List.mem_cons_self ..); simp; omega
        · have := ih w (by rw [e]; exact List.mem_cons_of_mem _ hw); simp; omega
theorem wdsL_count : ∀ l : List UInt8, (wdsL l).length ≤ l.length + 1
  | [] => by simp [wdsL]
  | c :: l => by
    have ih := wdsL_count l
    rw [wdsL]
    split
    · simp; omega
    · split
      · simp
      · rename_i h t e
        rw [e] at ih
        simp at ih ⊢; omega
theorem split_wds : ∀ l, split l [32] = wdsL l
  | [] => by
    unfold split
    rw [count_miss (by simp [index])]
    rfl
  | c :: r => by
    have ih := split_wds r
    unfold split at ih ⊢
    rw [wdsL]
    by_cases hc : c = 32
    · subst hc
      have hix : index (32 :: r) [32] = ((0 : Nat) : Int) := by rw [index]; simp [List.isPrefixOf]
      rw [if_pos rfl, count_cons_eq, Nat.add_comm, splitK, hix]
      simp only [Int.toNat_natCast, List.length_singleton]
      rw [if_neg (by decide)]
      simp [ih]
    · rw [if_neg hc, count_cons_ne c 32 r hc]
      have hp : ([32] : List UInt8).isPrefixOf (c :: r) = false := by simp [List.isPrefixOf, Ne.symm hc]
      have hix : index (c :: r) [32] = if index r [32] == -1 then -1 else index r [32] + 1 := by rw [index, hp]; simp
      rw [← ih]
      cases hk : count r [32] with
      | zero => rfl
      | succ k =>
        have hne : index r [32] ≠ -1 := fun e => by rw [count_miss e] at hk; cases hk
        have hge := index_ge r [32]
        obtain ⟨i, hi⟩ : ∃ i : Nat, index r [32] = i := ⟨(index r [32]).toNat, by omega⟩
        rw [if_neg (fun e => hne (beq_iff_eq.1 e)), hi] at hix
        rw [splitK, splitK, hix, hi, if_neg (fun e => by have := beq_iff_eq.1 e; omega), if_neg (fun e => by have := beq_iff_eq.1 e; omega)]
        have e1 : ((i : Int) + 1).toNat = i + 1 := by omega
        rw [e1, Int.toNat_natCast]
        show (List.take (i + 1 + 0) (c :: r)) :: splitK [32] 0 k (List.drop (i + 1 + 1) (c :: r)) = (c :: List.take (i + 0) r) :: splitK [32] 0 k (List.drop (i + 1) r)
        rfl
/-! Numerals. -/
def digitsOnly (l : List UInt8) : Prop := ∀ c ∈ l, 48 ≤ c.toNat ∧ c.toNat ≤ 57
theorem dig_toNat (q : Nat) (h : q < 10) : (UInt8.ofNat (48 + q)).toNat = 48 + q := by
  rw [UInt8.toNat_ofNat']; omega
theorem dec_only : ∀ u, digitsOnly (decDigits u) := by
  intro u
  induction u using Nat.strongRecOn with
  | _ u ih =>
    by_cases h : u < 10
    · rw [decDigits, dif_pos h]
      intro c hc
      have hc := List.mem_singleton.1 hc
      subst hc
      rw [dig_toNat u h]; omega
    · rw [decDigits, dif_neg h]
      intro c hc
      rcases List.mem_append.1 hc with hc | hc
      · exact ih (u / 10) (by omega) c hc
      · have hc := List.mem_singleton.1 hc
        subst hc
        rw [dig_toNat (u % 10) (by omega)]; omega
theorem dec_ne (u : Nat) : decDigits u ≠ [] := by
  by_cases h : u < 10
  · rw [decDigits, dif_pos h]; simp
  · rw [decDigits, dif_neg h]; simp
def rdStepL (neg : Bool) (n : Int) (c : Nat) : Int := if neg then IntKind.i64.wrap (IntKind.i64.wrap (n * 10) - ((c : Int) - 48)) else IntKind.i64.wrap (IntKind.i64.wrap (n * 10) + ((c : Int) - 48))
def rdL (neg : Bool) : List UInt8 → Int → Int
  | [], n => n
  | c :: r, n => if c.toNat < 48 ∨ 57 < c.toNat then 0 else rdL neg r (rdStepL neg n c.toNat)
theorem rdL_app (neg : Bool) (a b : List UInt8) (ha : digitsOnly a) : ∀ n, rdL neg (a ++ b) n = rdL neg b (rdL neg a n) := by
  induction a with
  | nil => intro n; rfl
  | cons c a ih =>
    intro n
    have hc := ha c (List.mem_cons_self ..)
    rw [List.cons_append, rdL, rdL, if_neg (by omega), if_neg (by omega)]
    exact ih (fun x hx => ha x (List.mem_cons_of_mem _ hx)) _
theorem rdL_pos : ∀ u : Nat, u ≤ 9223372036854775807 → rdL false (decDigits u) 0 = u := by
  intro u
  induction u using Nat.strongRecOn with
  | _ u ih =>
    intro hu
    by_cases h : u < 10
    · rw [decDigits, dif_pos h, rdL, dig_toNat u h, if_neg (by omega), rdL]
      unfold rdStepL
      rw [if_neg (by decide), IntKind.wrap_i64, IntKind.wrap_i64]
      omega
    · have := ih (u / 10) (by omega) (by omega)
      rw [decDigits, dif_neg h, rdL_app _ _ _ (dec_only _), this, rdL, dig_toNat (u % 10) (by omega), if_neg (by omega), rdL]
      unfold rdStepL
      rw [if_neg (by decide), IntKind.wrap_i64, IntKind.wrap_i64]
      omega
theorem rdL_neg : ∀ u : Nat, u ≤ 9223372036854775808 → rdL true (decDigits u) 0 = -(u : Int) := by
  intro u
  induction u using Nat.strongRecOn with
  | _ u ih =>
    intro hu
    by_cases h : u < 10
    · rw [decDigits, dif_pos h, rdL, dig_toNat u h, if_neg (by omega), rdL]
      unfold rdStepL
      rw [if_pos rfl, IntKind.wrap_i64, IntKind.wrap_i64]
      omega
    · have := ih (u / 10) (by omega) (by omega)
      rw [decDigits, dif_neg h, rdL_app _ _ _ (dec_only _), this, rdL, dig_toNat (u % 10) (by omega), if_neg (by omega), rdL]
      unfold rdStepL
      rw [if_pos rfl, IntKind.wrap_i64, IntKind.wrap_i64]
      omega
/-- What the page's Read answers. -/
def rdNL (l : List UInt8) : Int := if 20 < l.length then 0 else match l with
  | [] => 0
  | c :: r => if c.toNat = 45 then rdL true r 0 else rdL false (c :: r) 0
theorem dec_len' : ∀ (k u : Nat), u < 10 ^ (k + 1) → (decDigits u).length ≤ k + 1
  | 0, u, h => by rw [decDigits, dif_pos (by simpa using h)]; simp
  | k + 1, u, h => by
    by_cases h2 : u < 10
    · rw [decDigits, dif_pos h2]; simp
    · rw [decDigits, dif_neg h2]
      have := dec_len' k (u / 10) (by rw [Nat.pow_succ] at h; omega)
      simp; omega
theorem dec_19 (u : Nat) (h : u ≤ 9223372036854775808) : (decDigits u).length ≤ 19 :=
  dec_len' 18 u (by have hp : (10 : Nat) ^ (18 + 1) = 10000000000000000000 := by decide
                    omega)
theorem rdN_itoa (n : Int) (h0 : -9223372036854775808 ≤ n) (h1 : n ≤ 9223372036854775807) : rdNL (itoa n) = n := by
  unfold rdNL itoa
  by_cases h : n < 0
  · have hl := dec_19 n.natAbs (by omega)
    rw [if_pos h, if_neg (by simp; omega)]
    show (if (45 : UInt8).toNat = 45 then rdL true (decDigits n.natAbs) 0 else _) = n
    rw [if_pos (by decide), rdL_neg _ (by omega)]
    omega
  · have hl := dec_19 n.toNat (by omega)
    rw [if_neg h, if_neg (by omega)]
    have hd := dec_only n.toNat
    have hr := rdL_pos n.toNat (by omega)
    cases e : decDigits n.toNat with
    | nil => exact absurd e (dec_ne _)
    | cons c r =>
      rw [e] at hd hr
      have := hd c (List.mem_cons_self ..)
      show (if c.toNat = 45 then rdL true r 0 else rdL false (c :: r) 0) = n
      rw [if_neg (by omega), hr]
      omega
theorem parse_app : ∀ (a b : List UInt8) (acc v : Nat), parseUint10 acc a = .ok v → parseUint10 acc (a ++ b) = parseUint10 v b
  | [], b, acc, v, h => by simp only [parseUint10] at h; injection h with h; subst h; rfl
  | c :: a, b, acc, v, h => by
    rw [List.cons_append]
    simp only [parseUint10] at h ⊢
    split at h
    · rename_i h1
      rw [if_pos h1]
      split at h
      · cases h
      · rename_i h2
        rw [if_neg h2]
        split at h
        · cases h
        · rename_i h3
          rw [if_neg h3]
          exact parse_app a b _ v h
    · cases h
theorem parse_dec : ∀ u : Nat, u ≤ 9223372036854775808 → parseUint10 0 (decDigits u) = .ok u := by
  intro u
  induction u using Nat.strongRecOn with
  | _ u ih =>
    intro hu
    by_cases h : u < 10
    · rw [decDigits, dif_pos h, parseUint10, dig_toNat u h, if_pos (by omega), if_neg (by omega), if_neg (by omega), parseUint10]
      congr 1
      omega
    · have := ih (u / 10) (by omega) (by omega)
      rw [decDigits, dif_neg h, parse_app _ _ _ _ this, parseUint10, dig_toNat (u % 10) (by omega), if_pos (by omega), if_neg (by omega), if_neg (by omega), parseUint10]
      congr 1
      omega
theorem atoi_itoa (n : Int) (h0 : -9223372036854775808 ≤ n) (h1 : n ≤ 9223372036854775807) : atoiAll (itoa n) = .ok n := by
  unfold itoa
  by_cases h : n < 0
  · have hp : parseMag (decDigits n.natAbs) = .ok n.natAbs := by
      unfold parseMag
      rw [if_neg (dec_ne _), parse_dec _ (by omega)]
    rw [if_pos h, atoiAll_minus, hp]
    unfold signed
    simp only
    rw [if_neg (by omega)]
    congr 1
    omega
  · have hp : parseMag (decDigits n.toNat) = .ok n.toNat := by
      unfold parseMag
      rw [if_neg (dec_ne _), parse_dec _ (by omega)]
    rw [if_neg h]
    have hd := dec_only n.toNat
    cases e : decDigits n.toNat with
    | nil => exact absurd e (dec_ne _)
    | cons c r =>
      rw [e] at hd hp
      have := hd c (List.mem_cons_self ..)
      rw [atoiAll_plain c r (by omega) (by omega), hp]
      unfold signless
      simp only
      rw [if_neg (by omega)]
      congr 1
      omega
def canL (w : List UInt8) : Option Int := match atoiAll w with
  | .ok n => if itoa n = w then some n else none
  | _ => none
theorem canL_itoa (n : Int) (h0 : -9223372036854775808 ≤ n) (h1 : n ≤ 9223372036854775807) : canL (itoa n) = some n := by
  unfold canL
  rw [atoi_itoa n h0 h1]
  simp
theorem canL_some {w : List UInt8} {n : Int} (h : canL w = some n) : w = itoa n ∧ -9223372036854775808 ≤ n ∧ n ≤ 9223372036854775807 := by
  unfold canL at h
  split at h
  · rename_i v e
    split at h
    · rename_i hv
      injection h with h
      subst h
      exact ⟨hv.symm, atoiAll_bounds e⟩
    · cases h
  · cases h
theorem itoa_no32 (n : Int) : ∀ c ∈ itoa n, c ≠ 32 := by
  intro c hc e
  subst e
  unfold itoa at hc
  split at hc
  · rcases List.mem_cons.1 hc with h | h
    · cases h
    · have := dec_only _ _ h
      revert this; decide
  · have := dec_only _ _ hc
    revert this; decide
theorem itoa_no61 (n : Int) : (itoa n).head? ≠ some 61 := by
  intro e
  unfold itoa at e
  split at e
  · simp at e
  · have hd := dec_only n.toNat
    cases h : decDigits n.toNat with
    | nil => rw [h] at e; cases e
    | cons c r =>
      rw [h] at e hd
      simp at e
      subst e
      have := hd 61 (List.mem_cons_self ..)
      revert this; decide
/-! Digits. -/
def hexD' (q : Nat) : UInt8 := [48, 49, 50, 51, 52, 53, 54, 55, 56, 57, 97, 98, 99, 100, 101, 102].getD q 0
def hexL' (l : List UInt8) : List UInt8 := l.flatMap fun b => [hexD' (b.toNat / 16), hexD' (b.toNat % 16)]
def digs16 : List UInt8 := [48, 49, 50, 51, 52, 53, 54, 55, 56, 57, 97, 98, 99, 100, 101, 102]
theorem ix_hexD : ∀ q : Nat, q < 16 → indexByte digs16 (hexD' q) = q := by decide +kernel
theorem ix_of : ∀ c : UInt8, indexByte digs16 c = -1 ∨ ∃ q : Nat, q < 16 ∧ indexByte digs16 c = q ∧ c = hexD' q := by
  intro c
  rcases h : indexByte digs16 c with q | q
  · right
    have hs := indexByte_some (o := q) h
    have hq : q < 16 := by
      rcases Nat.lt_or_ge q 16 with h2 | h2
      · exact h2
      · have := hs.1; rw [List.getElem?_eq_none (by exact h2)] at this; cases this
    refine ⟨q, hq, rfl, ?_⟩
    have := hs.1
    unfold hexD'
    rw [List.getD_eq_getElem?_getD]
    unfold digs16 at this
    rw [this]; rfl
  · left
    have := indexByte_ge digs16 c
    omega
/-- What Bytes of package answer answers. -/
def bytesG : List UInt8 → Option (List UInt8)
  | [] => some []
  | [_] => none
  | a :: b :: r => if indexByte digs16 a < 0 ∨ indexByte digs16 b < 0 then none else (bytesG r).map fun t => UInt8.ofNat ((indexByte digs16 a).toNat * 16 + (indexByte digs16 b).toNat) :: t
/-- What the page's Bytes answers. -/
def bytesR : List UInt8 → List UInt8
  | a :: b :: r => if indexByte digs16 a < 0 ∨ indexByte digs16 b < 0 then bytesR r else UInt8.ofNat ((indexByte digs16 a).toNat * 16 + (indexByte digs16 b).toNat) :: bytesR r
  | _ => []
theorem byte_16 (b : UInt8) : UInt8.ofNat (b.toNat / 16 * 16 + b.toNat % 16) = b := by
  rw [Nat.mul_comm, Nat.div_add_mod]; simp
theorem bytesG_hex : ∀ t, bytesG (hexL' t) = some t
  | [] => rfl
  | b :: t => by
    have ih := bytesG_hex t
    have hb : b.toNat < 256 := UInt8.toNat_lt _
    have h1 := ix_hexD (b.toNat / 16) (by omega)
    have h2 := ix_hexD (b.toNat % 16) (by omega)
    show bytesG (hexD' (b.toNat / 16) :: hexD' (b.toNat % 16) :: hexL' t) = _
    rw [bytesG, h1, h2, if_neg (by omega), ih]
    simp only [Int.toNat_natCast, Option.map_some, byte_16]
theorem bytesR_hex : ∀ t, bytesR (hexL' t) = t
  | [] => rfl
  | b :: t => by
    have ih := bytesR_hex t
    have hb : b.toNat < 256 := UInt8.toNat_lt _
    have h1 := ix_hexD (b.toNat / 16) (by omega)
    have h2 := ix_hexD (b.toNat % 16) (by omega)
    show bytesR (hexD' (b.toNat / 16) :: hexD' (b.toNat % 16) :: hexL' t) = _
    rw [bytesR, h1, h2, if_neg (by omega), ih]
    simp only [Int.toNat_natCast, byte_16]
theorem bytesG_some : ∀ (x t : List UInt8), bytesG x = some t → x = hexL' t
  | [], t, h => by simp only [bytesG] at h; injection h with h; subst h; rfl
  | [_], t, h => by simp only [bytesG] at h; cases h
  | a :: b :: r, t, h => by
    rw [bytesG] at h
    split at h
    · cases h
    · rename_i hn
      rcases ix_of a with ha | ⟨q, hq, ha, rfl⟩
      · omega
      rcases ix_of b with hb | ⟨p, hp, hb, rfl⟩
      · omega
      cases hr : bytesG r with
      | none => rw [hr] at h; cases h
      | some u =>
        rw [hr, ha, hb] at h
        simp only [Int.toNat_natCast, Option.map_some, Option.some.injEq] at h
        subst h
        have ih := bytesG_some r u hr
        have e : (UInt8.ofNat (q * 16 + p)).toNat = q * 16 + p := by rw [UInt8.toNat_ofNat']; omega
        show _ = hexD' ((UInt8.ofNat (q * 16 + p)).toNat / 16) :: hexD' ((UInt8.ofNat (q * 16 + p)).toNat % 16) :: hexL' u
        rw [e, ← ih, show (q * 16 + p) / 16 = q by omega, show (q * 16 + p) % 16 = p by omega]
theorem hex_no32 (t : List UInt8) : ∀ c ∈ hexL' t, c ≠ 32 := by
  have hq : ∀ q : Nat, q < 16 → hexD' q ≠ 32 := by decide +kernel
  intro c hc
  unfold hexL' at hc
  obtain ⟨b, _, hb⟩ := List.mem_flatMap.1 hc
  have hb2 : b.toNat < 256 := UInt8.toNat_lt _
  simp at hb
  rcases hb with rfl | rfl
  · exact hq _ (by omega)
  · exact hq _ (by omega)
/-! Lines. -/
/-- What words of package console answers: the numbers and the text, or nothing. -/
def wordsP : List Int → List (List UInt8) → Option (List Int × List UInt8)
  | ns, [] => some (ns, [])
  | ns, w :: rest =>
    if rest = [] ∧ w.head? = some 61 then
      match bytesG w.tail with
      | some t => if t = [] then none else some (ns, t)
      | none => none
    else match canL w with
      | some n => wordsP (ns ++ [n]) rest
      | none => none
/-- What the page's Read builds. -/
def wordsR : List Int → List (List UInt8) → List Int × List UInt8
  | ns, [] => (ns, [])
  | ns, w :: rest => if rest = [] ∧ w.head? = some 61 then (ns, bytesR w.tail) else wordsR (ns ++ [rdNL w]) rest
def txW (t : List UInt8) : List (List UInt8) := if t = [] then [] else [61 :: hexL' t]
theorem wordsP_some : ∀ (rest : List (List UInt8)) (ns ns' : List Int) (t : List UInt8), wordsP ns rest = some (ns', t) →
    ∃ ms : List Int, ns' = ns ++ ms ∧ (∀ n ∈ ms, -9223372036854775808 ≤ n ∧ n ≤ 9223372036854775807) ∧ wordsR ns rest = (ns', t) ∧ rest = ms.map itoa ++ txW t
  | [], ns, ns', t, h => by
    simp only [wordsP, Option.some.injEq, Prod.mk.injEq] at h
    obtain ⟨rfl, rfl⟩ := h
    exact ⟨[], by simp, by simp, rfl, rfl⟩
  | w :: rest, ns, ns', t, h => by
    rw [wordsP] at h
    rw [wordsR]
    split at h
    · rename_i hc
      rw [if_pos hc]
      split at h
      · rename_i u hu
        split at h
        · cases h
        · rename_i hu2
          simp only [Option.some.injEq, Prod.mk.injEq] at h
          obtain ⟨rfl, rfl⟩ := h
          have e := bytesG_some _ _ hu
          refine ⟨[], by simp, by simp, by rw [e, bytesR_hex], ?_⟩
          obtain ⟨hr, hw⟩ := hc
          cases w with
          | nil => cases hw
          | cons c w =>
            simp at hw
            subst hw
            subst hr
            unfold txW
            rw [if_neg hu2]
            simp at e ⊢
            exact e
      · cases h
    · rename_i hc
      rw [if_neg hc]
      split at h
      · rename_i n hn
        obtain ⟨hw, hn0, hn1⟩ := canL_some hn
        obtain ⟨ms, h1, h2, h3, h4⟩ := wordsP_some rest (ns ++ [n]) ns' t h
        refine ⟨n :: ms, by rw [h1]; simp, ?_, ?_, ?_⟩
        · intro m hm
          rcases List.mem_cons.1 hm with rfl | hm
          · exact ⟨hn0, hn1⟩
          · exact h2 m hm
        · rw [hw, rdN_itoa n hn0 hn1]; exact h3
        · rw [hw, h4]; rfl
      · cases h
theorem wordsR_form : ∀ (rest : List (List UInt8)) (ns : List Int), ∃ ms, (wordsR ns rest).1 = ns ++ ms
  | [], ns => ⟨[], by simp [wordsR]⟩
  | w :: rest, ns => by
    rw [wordsR]
    split
    · exact ⟨[], by simp⟩
    · obtain ⟨ms, h⟩ := wordsR_form rest (ns ++ [rdNL w])
      exact ⟨rdNL w :: ms, by rw [h]; simp⟩
theorem wrap_in' (x : Int) : -9223372036854775808 ≤ IntKind.i64.wrap x ∧ IntKind.i64.wrap x ≤ 9223372036854775807 := by rw [IntKind.wrap_i64]; constructor <;> omega
theorem rdL_in (neg : Bool) : ∀ (l : List UInt8) (n : Int), (-9223372036854775808 ≤ n ∧ n ≤ 9223372036854775807) → -9223372036854775808 ≤ rdL neg l n ∧ rdL neg l n ≤ 9223372036854775807
  | [], n, h => h
  | c :: r, n, h => by
    rw [rdL]
    split
    · decide
    · exact rdL_in neg r _ (by unfold rdStepL; split <;> exact wrap_in' _)
theorem rdNL_in (l : List UInt8) : -9223372036854775808 ≤ rdNL l ∧ rdNL l ≤ 9223372036854775807 := by
  unfold rdNL
  split
  · decide
  · cases l with
    | nil => decide
    | cons c r =>
      show (-9223372036854775808 ≤ (if c.toNat = 45 then rdL true r 0 else rdL false (c :: r) 0)) ∧ (if c.toNat = 45 then rdL true r 0 else rdL false (c :: r) 0) ≤ 9223372036854775807
      split
      · exact rdL_in _ _ _ (by decide)
      · exact rdL_in _ _ _ (by decide)
theorem wordsR_back : ∀ (rest : List (List UInt8)) (ns ms : List Int), (wordsR ns rest).1 = ns ++ ms → rest = ms.map itoa ++ txW (wordsR ns rest).2 → wordsP ns rest = some (wordsR ns rest)
  | [], ns, ms, h, e => rfl
  | w :: rest, ns, ms, h, e => by
    rw [wordsR] at h e ⊢
    rw [wordsP]
    by_cases hc : rest = [] ∧ w.head? = some 61
    · rw [if_pos hc] at h e ⊢
      rw [if_pos hc]
      have hms : ms = [] := by
        have := congrArg List.length h
        simp at this
        exact this
      subst hms
      obtain ⟨rfl, hw⟩ := hc
      unfold txW at e
      simp only [List.map_nil, List.nil_append] at e
      split at e
      · cases e
      · rename_i ht
        simp only [List.cons.injEq, and_true] at e
        have e2 : w.tail = hexL' (bytesR w.tail) := by rw [e]; simp [bytesR_hex]
        rw [e2, bytesG_hex, bytesR_hex]
        simp only
        rw [if_neg ht]
    · rw [if_neg hc] at h e ⊢
      rw [if_neg hc]
      obtain ⟨ms', hms'⟩ := wordsR_form rest (ns ++ [rdNL w])
      rw [hms', List.append_assoc] at h
      have h2 := List.append_cancel_left h
      subst h2
      simp only [List.map_cons, List.cons_append, List.nil_append, List.cons.injEq] at e
      obtain ⟨e1, e2⟩ := e
      have hin := rdNL_in w
      have hcan : canL w = some (rdNL w) := by
        have := canL_itoa (rdNL w) hin.1 hin.2
        rwa [← e1] at this
      rw [hcan]
      simp only
      exact wordsR_back rest _ ms' hms' e2
/-- An operation's line: its words. -/
def lineW (name : List UInt8) (ns : List Int) (t : List UInt8) : List (List UInt8) := name :: (ns.map itoa ++ txW t)
def lineL (name : List UInt8) (ns : List Int) (t : List UInt8) : List UInt8 := joinL (lineW name ns t)
theorem lineW_no (name : List UInt8) (hn : ∀ c ∈ name, c ≠ 32) (ns : List Int) (t : List UInt8) : ∀ w ∈ lineW name ns t, ∀ c ∈ w, c ≠ 32 := by
  intro w hw
  rcases List.mem_cons.1 hw with rfl | hw
  · exact hn
  rcases List.mem_append.1 hw with hw | hw
  · obtain ⟨n, _, rfl⟩ := List.mem_map.1 hw
    exact itoa_no32 n
  · unfold txW at hw
    split at hw
    · cases hw
    · simp at hw
      subst hw
      intro c hc
      rcases List.mem_cons.1 hc with rfl | hc
      · decide
      · exact hex_no32 t c hc
/-- Read by words, or read and written again: the same lines pass, with the same numbers and text. -/
theorem reads_same (name : List UInt8) (hn : ∀ c ∈ name, c ≠ 32) (k : Int) (rest : List (List UInt8)) (s : List UInt8) (hs : wdsL s = name :: rest) :
    (∃ ms, (wordsR [k] rest).1 = k :: ms ∧ (lineL name ms (wordsR [k] rest).2 = s ↔ wordsP [k] rest = some (wordsR [k] rest)) ∧ (lineL name ms (wordsR [k] rest).2 ≠ s ↔ wordsP [k] rest = none)) := by
  obtain ⟨ms, hms⟩ := wordsR_form rest [k]
  refine ⟨ms, hms, ?_⟩
  have key : lineL name ms (wordsR [k] rest).2 = s ↔ wordsP [k] rest = some (wordsR [k] rest) := by
    constructor
    · intro e
      refine wordsR_back rest [k] ms hms ?_
      have := congrArg wdsL e
      rw [hs] at this
      unfold lineL at this
      rw [wds_join _ (by simp [lineW]) (lineW_no name hn _ _)] at this
      unfold lineW at this
      simp only [List.cons.injEq, true_and] at this
      exact this.symm
    · intro e
      obtain ⟨ms', h1, h2, h3, h4⟩ := wordsP_some rest [k] _ _ e
      have hm : ms = ms' := by
        have := hms.symm.trans h1
        exact List.append_cancel_left this
      subst hm
      have := join_wds s
      rw [hs] at this
      rw [← this]
      unfold lineL lineW
      rw [← h4]
  refine ⟨key, ?_⟩
  constructor
  · intro hne
    cases e : wordsP [k] rest with
    | none => rfl
    | some p =>
      obtain ⟨ns', t⟩ := p
      obtain ⟨_, _, _, h3, _⟩ := wordsP_some rest [k] _ _ e
      exact absurd (key.2 (by rw [e, h3])) hne
  · intro e e2
    rw [key.1 e2] at e
    cases e
/-- A line that was made from numbers and a text is read as these. -/
theorem wordsP_line : ∀ (ms : List Int) (ns : List Int) (t : List UInt8), (∀ n ∈ ms, -9223372036854775808 ≤ n ∧ n ≤ 9223372036854775807) → wordsP ns (ms.map itoa ++ txW t) = some (ns ++ ms, t)
  | [], ns, t, _ => by
    unfold txW
    split
    · rename_i h; subst h; simp [wordsP]
    · rename_i h
      show wordsP ns [61 :: hexL' t] = _
      rw [wordsP, if_pos ⟨rfl, rfl⟩, List.tail_cons, bytesG_hex]
      simp only
      rw [if_neg h, List.append_nil]
  | n :: ms, ns, t, h => by
    have hn := h n (List.mem_cons_self ..)
    rw [List.map_cons, List.cons_append, wordsP, if_neg (fun hc => itoa_no61 n hc.2), canL_itoa n hn.1 hn.2]
    simp only
    rw [wordsP_line ms (ns ++ [n]) t (fun m hm => h m (List.mem_cons_of_mem _ hm))]
    simp
end Go.Proofs.YtgeaebcchjmmjaaDoor
