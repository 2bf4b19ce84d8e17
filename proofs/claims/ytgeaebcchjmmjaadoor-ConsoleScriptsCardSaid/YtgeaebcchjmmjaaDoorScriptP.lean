/- The plain part of the law ConsoleScripts: the operations of a text, line by line. -/
import Derived.Test.YtgeaebcchjmmjaaDoorLinesP
import Derived.Test.YtgeaebcchjmmjaaDoorPlainLines
namespace Go.Proofs.YtgeaebcchjmmjaaDoor
open Go.RowKit Go.Lib
/-- Is a line passed over? -/
def skipL (s : List UInt8) : Bool := s.isEmpty || s.head? == some 35
def scriptGo : Nat → List Raw → List (List UInt8) → List Raw × Nat × Nat
  | _, acc, [] => (acc, 0, 0)
  | k, acc, s :: ls => if skipL s = true then scriptGo (k + 1) acc ls else if (readS s).2.2 = 0 then scriptGo (k + 1) (acc ++ [((readS s).1, ba (readS s).2.1)]) ls else ([], k + 1, (readS s).2.2)
def scriptS (s : List UInt8) : List Raw × Nat × Nat := scriptGo 0 [] (linL s)
/-- The lines from the k-th byte on, the first of them from the fr-th. -/
def linF (s : ByteArray) : Nat → Nat → Nat → List ByteArray
  | 0, _, fr => [s.extract fr s.size]
  | f + 1, k, fr => if bat s k = 10 then s.extract fr k :: linF s f (k + 1) (k + 1) else linF s f (k + 1) fr
theorem linF_list (s : ByteArray) : ∀ (f k fr : Nat), f + k = s.size → fr ≤ k → ∀ h t, linL (s.data.toList.drop k) = h :: t → dls (linF s f k fr) = ((s.data.toList.drop fr).take (k - fr) ++ h) :: t
  | 0, k, fr, hf, hfr, h, t, e => by
    have hl : s.data.toList.length = s.size := rfl
    rw [List.drop_of_length_le (by omega)] at e
    simp only [linL, List.cons.injEq] at e
    obtain ⟨rfl, rfl⟩ := e
    show [(s.extract fr s.size).data.toList] = _
    rw [Lib.extract_to_end, List.append_nil, List.take_of_length_le (by rw [List.length_drop]; omega)]
  | f + 1, k, fr, hf, hfr, h, t, e => by
    have hk : k < s.size := by omega
    have hb : bat s k < 256 := bat_lt s k
    rw [drop_bat s k hk, linL] at e
    obtain ⟨h2, t2, e2⟩ : ∃ h2 t2, linL (s.data.toList.drop (k + 1)) = h2 :: t2 := by
      cases e3 : linL (s.data.toList.drop (k + 1)) with
      | nil => exact absurd e3 (linL_ne _)
      | cons a b => exact ⟨a, b, rfl⟩
    rw [linF]
    by_cases h32 : bat s k = 10
    · rw [if_pos h32]
      rw [if_pos (by rw [h32]; rfl)] at e
      have ih := linF_list s f (k + 1) (k + 1) (by omega) (Nat.le_refl _) h2 t2 e2
      simp only [List.cons.injEq] at e
      obtain ⟨rfl, rfl⟩ := e
      show (s.extract fr k).data.toList :: dls (linF s f (k + 1) (k + 1)) = _
      rw [ih, e2, Lib.extract_data, List.append_nil, Nat.sub_self, List.take_zero, List.nil_append]
    · rw [if_neg h32]
      have hne : UInt8.ofNat (bat s k) ≠ 10 := fun h => h32 (by
        have := congrArg UInt8.toNat h
        rw [UInt8.toNat_ofNat'] at this
        have h3 : (10 : UInt8).toNat = 10 := rfl
        omega)
      rw [if_neg hne, e2] at e
      have ih := linF_list s f (k + 1) fr (by omega) (by omega) h2 t2 e2
      simp only [List.cons.injEq] at e
      obtain ⟨rfl, rfl⟩ := e
      rw [ih]
      congr 1
      have : (s.data.toList.drop fr).take (k + 1 - fr) = (s.data.toList.drop fr).take (k - fr) ++ [UInt8.ofNat (bat s k)] := by
        rw [show k + 1 - fr = (k - fr) + 1 by omega, List.take_add_one, List.getElem?_drop, show fr + (k - fr) = k by omega]
        have h1 : k < s.data.toList.length := hk
        have e1 : UInt8.ofNat (bat s k) = s.data.toList[k] := by unfold bat; rw [List.getD_eq_getElem?_getD, List.getElem?_eq_getElem h1]; simp
        rw [List.getElem?_eq_getElem h1, e1]
        rfl
      rw [this, List.append_assoc]
      rfl
theorem lin_list (s : ByteArray) : dls (linF s s.size 0 0) = linL s.data.toList := by
  cases e : linL s.data.toList with
  | nil => exact absurd e (linL_ne _)
  | cons h t =>
    rw [linF_list s s.size 0 0 (by omega) (Nat.le_refl _) h t (by simpa using e)]
    rfl
/-- What Text writes. -/
def wrote (L : List Raw) : List UInt8 := L.flatMap fun r => (lnR r).1 ++ [10]
theorem text_ok : ∀ (L : List Raw) (k : Nat) (acc : List UInt8), (textGo k acc L).2.2 = 0 → (∀ r ∈ L, (lnR r).2 = 0) ∧ (textGo k acc L).1 = acc ++ wrote L
  | [], k, acc, _ => ⟨fun r h => (by cases h), by simp [textGo, wrote]⟩
  | r :: L, k, acc, h => by
    rw [textGo] at h ⊢
    by_cases h0 : (lnR r).2 = 0
    · rw [if_pos h0] at h ⊢
      obtain ⟨h1, h2⟩ := text_ok L (k + 1) _ h
      refine ⟨fun q hq => ?_, ?_⟩
      · rcases List.mem_cons.1 hq with rfl | hq
        · exact h0
        · exact h1 q hq
      · rw [h2]
        simp [wrote]
    · rw [if_neg h0] at h
      exact absurd h h0
/-- A line that was written is no remark, is not empty, and holds no line's end. -/
theorem ln_form (r : Raw) (h : (lnR r).2 = 0) : skipL (lnR r).1 = false ∧ ∀ c ∈ (lnR r).1, c ≠ 10 := by
  obtain ⟨ns, t⟩ := r
  unfold lnR lineS at h ⊢
  cases ns with
  | nil => simp at h
  | cons k ms =>
    simp only at h ⊢
    by_cases he : ofE (k :: ms) (ba t.data.toList) = 0
    · rw [if_pos he]
      obtain ⟨_, hok, _⟩ := ofE_len he
      have hk : 1 ≤ k ∧ k ≤ 24 := by unfold okO at hok; simpa using hok
      have hall : ∀ i : Nat, i < 24 → ((opN i).data.toList.all fun c => c != 10 && c != 35) = true ∧ (opN i).data.toList ≠ [] := by decide +kernel
      have hnm : nmO k = opN (k - 1).toNat := by unfold nmO; rw [hok, if_pos rfl]
      obtain ⟨ha, hne⟩ := hall (k - 1).toNat (by omega)
      simp only
      rw [lineL_flat, hnm]
      generalize (opN (k - 1).toNat).data.toList = nm at *
      have hn10 : ∀ c ∈ nm, c ≠ 10 ∧ c ≠ 35 := fun c hc => by
        have := List.all_eq_true.1 ha c hc
        simpa using this
      constructor
      · cases nm with
        | nil => exact absurd rfl hne
        | cons c l =>
          have hc := (hn10 c (List.mem_cons_self ..)).2
          unfold skipL
          simp [hc]
      · intro c hc
        rcases List.mem_append.1 hc with hc | hc
        · rcases List.mem_append.1 hc with hc | hc
          · exact (hn10 c hc).1
          · obtain ⟨n, _, hn⟩ := List.mem_flatMap.1 hc
            rcases List.mem_cons.1 hn with rfl | hn
            · decide
            · intro e
              subst e
              unfold itoa at hn
              split at hn
              · rcases List.mem_cons.1 hn with h | h
                · cases h
                · have := dec_only _ _ h
                  revert this; decide
              · have := dec_only _ _ hn
                revert this; decide
        · split at hc
          · cases hc
          · rcases List.mem_cons.1 hc with rfl | hc
            · decide
            · rcases List.mem_cons.1 hc with rfl | hc
              · decide
              · have hq : ∀ q : Nat, q < 16 → hexD q ≠ 10 := by decide +kernel
                unfold hexL at hc
                obtain ⟨b, _, hb⟩ := List.mem_flatMap.1 hc
                have hb2 : b.toNat < 256 := UInt8.toNat_lt _
                simp at hb
                rcases hb with rfl | rfl
                · exact hq _ (by omega)
                · exact hq _ (by omega)
    · rw [if_neg he] at h
      exact absurd h he
theorem lin_wrote : ∀ L : List Raw, (∀ r ∈ L, (lnR r).2 = 0) → linL (wrote L) = L.map (fun r => (lnR r).1) ++ [[]]
  | [], _ => rfl
  | r :: L, h => by
    have ih := lin_wrote L (fun q hq => h q (List.mem_cons_of_mem _ hq))
    have hf := ln_form r (h r (List.mem_cons_self ..))
    have e : wrote (r :: L) = (lnR r).1 ++ (10 :: wrote L) := by simp [wrote]
    rw [e, linL_app (lnR r).1 hf.2 (10 :: wrote L) [] (linL (wrote L)) (by rw [linL, if_pos rfl]), ih]
    simp
theorem script_lines : ∀ (L : List Raw) (k : Nat) (acc : List Raw), (∀ r ∈ L, (lnR r).2 = 0 ∧ ∀ n ∈ r.1, InI n) → scriptGo k acc (L.map (fun r => (lnR r).1) ++ [[]]) = (acc ++ L, 0, 0)
  | [], k, acc, _ => by simp [scriptGo, skipL]
  | r :: L, k, acc, h => by
    obtain ⟨h0, hi⟩ := h r (List.mem_cons_self ..)
    have hr := ln_read r hi h0
    have hf := (ln_form r h0).1
    rw [List.map_cons, List.cons_append, scriptGo, if_neg (by rw [hf]; decide), hr, if_pos rfl, script_lines L (k + 1) _ (fun q hq => h q (List.mem_cons_of_mem _ hq))]
    simp [ba]
/-- What was written is read again, behind a remark and an empty line. -/
theorem script_back (L : List Raw) (h : ∀ r ∈ L, (lnR r).2 = 0 ∧ ∀ n ∈ r.1, InI n) : scriptS ([35, 32, 10, 10] ++ wrote L) = (L, 0, 0) := by
  unfold scriptS
  have hl := lin_wrote L (fun r hr => (h r hr).1)
  have e : linL ([35, 32, 10, 10] ++ wrote L) = [35, 32] :: [] :: linL (wrote L) := by
    show linL (35 :: 32 :: 10 :: 10 :: wrote L) = _
    simp [linL]
  rw [e, hl, scriptGo, if_pos (by decide), scriptGo, if_pos (by decide), script_lines L _ [] h]
  rfl
theorem lin_wrote_len (L : List Raw) (h : ∀ r ∈ L, (lnR r).2 = 0 ∧ (∀ n ∈ r.1, InI n) ∧ r.2.size ≤ 30) : ∀ l ∈ linL ([35, 32, 10, 10] ++ wrote L), l.length ≤ 900 := by
  have hl := lin_wrote L (fun r hr => (h r hr).1)
  have e : linL ([35, 32, 10, 10] ++ wrote L) = [35, 32] :: [] :: linL (wrote L) := by
    show linL (35 :: 32 :: 10 :: 10 :: wrote L) = _
    simp [linL]
  rw [e, hl]
  intro l hlm
  simp only [List.mem_cons, List.mem_append, List.mem_map, List.mem_nil_iff, or_false] at hlm
  rcases hlm with rfl | rfl | ⟨r, hr, rfl⟩ | rfl
  · decide
  · decide
  · obtain ⟨_, h2, h3⟩ := h r hr
    have := ln_len r h2 h3
    omega
  · decide
theorem wrote_len : ∀ L : List Raw, (∀ r ∈ L, (∀ n ∈ r.1, InI n) ∧ r.2.size ≤ 30) → (wrote L).length ≤ 401 * L.length
  | [], _ => by simp [wrote]
  | r :: L, h => by
    have h1 := h r (List.mem_cons_self ..)
    have h2 := ln_len r h1.1 h1.2
    have h3 := wrote_len L (fun q hq => h q (List.mem_cons_of_mem _ hq))
    have e : wrote (r :: L) = (lnR r).1 ++ (10 :: wrote L) := by simp [wrote]
    rw [e, List.length_append, List.length_cons, List.length_cons]
    omega
end Go.Proofs.YtgeaebcchjmmjaaDoor
