/- Lines as lists of bytes: a text is the join of its lines. -/
import Derived.Lib.SplitLaws
import Derived.Lib.AtoiAllCases
import Derived.Lib.ItoaNum
import Derived.Lib.Join
namespace Go.Proofs.YtgeaebcchjmmjaaDoor
open Go.Lib
/-- The pieces between blanks. -/
def linL : List UInt8 → List (List UInt8)
  | [] => [[]]
  | c :: r => if c = 10 then [] :: linL r else match linL r with
    | [] => [[c]]
    | h :: t => (c :: h) :: t
theorem linL_ne : ∀ l, linL l ≠ []
  | [] => by simp [linL]
  | c :: r => by
    rw [linL]
    split
    · simp
    · split <;> simp
def jnlL : List (List UInt8) → List UInt8
  | [] => []
  | [x] => x
  | x :: y :: r => x ++ 10 :: jnlL (y :: r)
theorem jnlL_eq : ∀ ws : List (List UInt8), join ws [10] = jnlL ws
  | [] => rfl
  | [x] => by simp [join, List.intercalate, jnlL]
  | x :: y :: r => by
    have := jnlL_eq (y :: r)
    unfold join at this ⊢
    rw [jnlL, ← this]
    simp [List.intercalate, List.intersperse]
theorem join_lin : ∀ l, jnlL (linL l) = l
  | [] => rfl
  | c :: r => by
    have ih := join_lin r
    rw [linL]
    cases h : linL r with
    | nil => exact absurd h (linL_ne r)
    | cons a t =>
      rw [h] at ih
      split
      · rename_i hc
        rw [jnlL, ih, hc]; rfl
      · cases t with
        | nil => simp only [jnlL] at ih ⊢; rw [ih]
        | cons b t => simp only [jnlL] at ih ⊢; rw [List.cons_append, ih]
theorem linL_app (a : List UInt8) (ha : ∀ c ∈ a, c ≠ 10) : ∀ (l h : List UInt8) (t : List (List UInt8)), linL l = h :: t → linL (a ++ l) = (a ++ h) :: t := by
  induction a with
  | nil => intro l h t e; exact e
  | cons c a ih =>
    intro l h t e
    have := ih (fun x hx => ha x (List.mem_cons_of_mem _ hx)) l h t e
    rw [List.cons_append, linL, if_neg (ha c (List.mem_cons_self ..)), this]
    rfl
theorem lin_join : ∀ ws : List (List UInt8), ws ≠ [] → (∀ w ∈ ws, ∀ c ∈ w, c ≠ 10) → linL (jnlL ws) = ws
  | [], h, _ => absurd rfl h
  | [x], _, h => by
    have := linL_app x (h x (List.mem_singleton.2 rfl)) [] [] [] rfl
    simpa [jnlL] using this
  | x :: y :: r, _, h => by
    have ih := lin_join (y :: r) (by simp) (fun w hw => h w (List.mem_cons_of_mem _ hw))
    have := linL_app x (h x (List.mem_cons_self ..)) (10 :: jnlL (y :: r)) [] (y :: r) (by rw [linL, if_pos rfl, ih])
    rw [jnlL, this, List.append_nil]
theorem lin_no : ∀ (l w : List UInt8), w ∈ linL l → ∀ c ∈ w, c ≠ 10
  | [], w, hw, c, hc => by simp [linL] at hw; subst hw; cases hc
  | d :: r, w, hw, c, hc => by
    have ih := lin_no r
    rw [linL] at hw
    split at hw
    · rcases List.mem_cons.1 hw with rfl | hw
      · cases hc
      · exact ih w hw c hc
    · rename_i hd
      split at hw
      · rename_i e; exact absurd e (linL_ne r)
      · rename_i h t e
        rcases List.mem_cons.1 hw with rfl | hw
        · rcases List.mem_cons.1 hc with rfl | hc
          · exact hd
          · exact ih h (by rw [e]; exact List.mem_cons_self ..) c hc
        · exact ih w (by rw [e]; exact List.mem_cons_of_mem _ hw) c hc
theorem linL_small : ∀ (l w : List UInt8), w ∈ linL l → w.length ≤ l.length
  | [], w, hw => by simp [linL] at hw; subst hw; simp
  | c :: l, w, hw => by
    have ih := linL_small l
    rw [linL] at hw
    split at hw
    · rcases List.mem_cons.1 hw with rfl | hw
      · simp
      · have := ih w hw; simp; omega
    · split at hw
      · rename_i e; exact absurd e (linL_ne l)
      · rename_i h t e
        rcases List.mem_cons.1 hw with rfl | hw
        · have := ih h (by rw [e]; exact List.mem_cons_self ..); simp; omega
        · have := ih w (by rw [e]; exact List.mem_cons_of_mem _ hw); simp; omega
theorem linL_count : ∀ l : List UInt8, (linL l).length ≤ l.length + 1
  | [] => by simp [linL]
  | c :: l => by
    have ih := linL_count l
    rw [linL]
    split
    · simp; omega
    · split
      · simp
      · rename_i h t e
        rw [e] at ih
        simp at ih ⊢; omega
theorem split_lin : ∀ l, split l [10] = linL l
  | [] => by
    unfold split
    rw [count_miss (by simp [index])]
    rfl
  | c :: r => by
    have ih := split_lin r
    unfold split at ih ⊢
    rw [linL]
    by_cases hc : c = 10
    · subst hc
      have hix : index (10 :: r) [10] = ((0 : Nat) : Int) := by rw [index]; simp [List.isPrefixOf]
      rw [if_pos rfl, count_cons_eq, Nat.add_comm, splitK, hix]
      simp only [Int.toNat_natCast, List.length_singleton]
      rw [if_neg (by decide)]
      simp [ih]
    · rw [if_neg hc, count_cons_ne c 10 r hc]
      have hp : ([10] : List UInt8).isPrefixOf (c :: r) = false := by simp [List.isPrefixOf, Ne.symm hc]
      have hix : index (c :: r) [10] = if index r [10] == -1 then -1 else index r [10] + 1 := by rw [index, hp]; simp
      rw [← ih]
      cases hk : count r [10] with
      | zero => rfl
      | succ k =>
        have hne : index r [10] ≠ -1 := fun e => by rw [count_miss e] at hk; cases hk
        have hge := index_ge r [10]
        obtain ⟨i, hi⟩ : ∃ i : Nat, index r [10] = i := ⟨(index r [10]).toNat, by omega⟩
        rw [if_neg (fun e => hne (beq_iff_eq.1 e)), hi] at hix
        rw [splitK, splitK, hix, hi, if_neg (fun e => by have := beq_iff_eq.1 e; omega), if_neg (fun e => by have := beq_iff_eq.1 e; omega)]
        have e1 : ((i : Int) + 1).toNat = i + 1 := by omega
        rw [e1, Int.toNat_natCast]
        show (List.take (i + 1 + 0) (c :: r)) :: splitK [10] 0 k (List.drop (i + 1 + 1) (c :: r)) = (c :: List.take (i + 0) r) :: splitK [10] 0 k (List.drop (i + 1) r)
        rfl
end Go.Proofs.YtgeaebcchjmmjaaDoor
