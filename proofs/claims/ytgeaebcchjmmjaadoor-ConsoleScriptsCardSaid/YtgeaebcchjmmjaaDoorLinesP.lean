/- The plain part of the law ConsoleLines: the lines of a row of operations, up to the first that has none. -/
import Derived.Test.YtgeaebcchjmmjaaDoorRaws
namespace Go.Proofs.YtgeaebcchjmmjaaDoor
open Go.RowKit Go.Lib
def lnR (r : Raw) : List UInt8 × Nat := lineS r.1 r.2.data.toList
/-- What Text of package console answers, from the k-th operation on. -/
def textGo : Nat → List UInt8 → List Raw → List UInt8 × Nat × Nat
  | _, acc, [] => (acc, 0, 0)
  | k, acc, r :: rs => if (lnR r).2 = 0 then textGo (k + 1) (acc ++ ((lnR r).1 ++ [10])) rs else ([], k + 1, (lnR r).2)
def textS (rs : List Raw) : List UInt8 × Nat × Nat := textGo 0 [] rs
/-- What the law adds up. -/
def addR (k : Nat) (st : List UInt8 × Nat × Nat) (r : Raw) : List UInt8 × Nat × Nat :=
  if (lnR r).2 = 0 then (st.1 ++ ((lnR r).1 ++ [10]), st.2) else if st.2.2 = 0 then (st.1, k + 1, (lnR r).2) else st
def addGo : Nat → List UInt8 × Nat × Nat → List Raw → List UInt8 × Nat × Nat
  | _, st, [] => st
  | k, st, r :: rs => addGo (k + 1) (addR k st r) rs
theorem addGo_bad : ∀ (rs : List Raw) (k : Nat) (st : List UInt8 × Nat × Nat), st.2.2 ≠ 0 → (addGo k st rs).2 = st.2
  | [], _, _, _ => rfl
  | r :: rs, k, st, h => by
    rw [addGo]
    have h2 : (addR k st r).2 = st.2 := by
      unfold addR
      split
      · rfl
      · first | rfl | (rw [if_neg h])
    rw [addGo_bad rs (k + 1) (addR k st r) (by rw [h2]; exact h), h2]
theorem text_add : ∀ (rs : List Raw) (k : Nat) (acc : List UInt8), textGo k acc rs = ((if (addGo k (acc, 0, 0) rs).2.2 ≠ 0 then [] else (addGo k (acc, 0, 0) rs).1), (addGo k (acc, 0, 0) rs).2)
  | [], k, acc => rfl
  | r :: rs, k, acc => by
    rw [textGo, addGo]
    by_cases h : (lnR r).2 = 0
    · have e : addR k (acc, 0, 0) r = (acc ++ ((lnR r).1 ++ [10]), 0, 0) := by unfold addR; rw [if_pos h]
      rw [if_pos h, e]
      exact text_add rs (k + 1) _
    · have e : addR k (acc, 0, 0) r = (acc, k + 1, (lnR r).2) := by unfold addR; rw [if_neg h]; rfl
      have hb := addGo_bad rs (k + 1) (acc, k + 1, (lnR r).2) h
      rw [if_neg h, e, hb, if_pos h]
/-- What came to be of a row of operations, before the k-th. -/
theorem addGo_step (rs : List Raw) : ∀ (k j : Nat) (st : List UInt8 × Nat × Nat) (r : Raw), rs[k]? = some r → addGo j st (rs.take (k + 1)) = addR (j + k) (addGo j st (rs.take k)) r := by
  induction rs with
  | nil => intro k j st r h; simp at h
  | cons a rs ih =>
    intro k j st r h
    cases k with
    | zero =>
      simp at h
      subst h
      rfl
    | succ k =>
      simp only [List.take_succ_cons, addGo]
      rw [ih k (j + 1) (addR j st a) r (by simpa using h), show j + 1 + k = j + (k + 1) by omega]
theorem ln_len (r : Raw) (hi : ∀ n ∈ r.1, InI n) (ht : r.2.size ≤ 30) : (lnR r).1.length ≤ 400 := by
  obtain ⟨ns, t⟩ := r
  unfold lnR lineS
  cases ns with
  | nil => simp
  | cons k ms =>
    show (if ofE (k :: ms) (ba t.data.toList) = 0 then (lineL (nmO k).data.toList ms t.data.toList, 0) else ([], ofE (k :: ms) (ba t.data.toList))).1.length ≤ 400
    by_cases he : ofE (k :: ms) (ba t.data.toList) = 0
    · rw [if_pos he]
      obtain ⟨hl, _, _⟩ := ofE_len he
      have h1 := flat_len ms (fun n hn => hi n (List.mem_cons_of_mem _ hn))
      have h2 := nmO_len k
      have h3 : (nmO k).data.toList.length = (nmO k).size := rfl
      have h4 := hexL_len t.data.toList
      have h5 : t.data.toList.length = t.size := rfl
      simp only
      rw [lineL_flat, List.length_append, List.length_append]
      have h6 : (if t.data.toList = [] then [] else 32 :: 61 :: hexL t.data.toList).length ≤ 2 + 2 * t.size := by
        split
        · simp
        · simp [h4, h5]; omega
      simp only at ht
      omega
    · rw [if_neg he]; simp
theorem ln_read (r : Raw) (hi : ∀ n ∈ r.1, InI n) (h : (lnR r).2 = 0) : readS (lnR r).1 = (r.1, r.2.data.toList, 0) := by
  obtain ⟨ns, t⟩ := r
  unfold lnR lineS at h ⊢
  cases ns with
  | nil => simp at h
  | cons k ms =>
    simp only at h ⊢
    by_cases he : ofE (k :: ms) (ba t.data.toList) = 0
    · rw [if_pos he]
      exact read_line k ms t.data.toList he (fun n hn => hi n (List.mem_cons_of_mem _ hn))
    · rw [if_neg he] at h
      exact absurd h he
theorem few_ok (rs : List Raw) (hi : ∀ r ∈ rs, ∀ n ∈ r.1, InI n) : ∀ r ∈ fewR rs, (∀ n ∈ r.1, InI n) ∧ r.2.size ≤ 30 := by
  intro r hr
  obtain ⟨q, hq, rfl⟩ := List.mem_map.1 hr
  refine ⟨fun n hn => hi q (List.mem_of_mem_take hq) n (List.mem_of_mem_take hn), ?_⟩
  show (q.2.extract 0 (min q.2.size 30)).size ≤ 30
  rw [ByteArray.size_extract]; omega
theorem few_len (rs : List Raw) : (fewR rs).length ≤ 12 := by
  unfold fewR
  rw [List.length_map, List.length_take]; omega
end Go.Proofs.YtgeaebcchjmmjaaDoor
