/- The plain part of what Read of the page's layer 43 answers. -/
import Derived.Test.YtgeaebcchjmmjaaDoorRLine
import Derived.Test.YtgeaebcchjmmjaaDoorReadRef
namespace Go.Proofs.YtgeaebcchjmmjaaDoor
open Go.RowKit Go.Lib
theorem drop_bat (s : ByteArray) (k : Nat) (hk : k < s.size) : s.data.toList.drop k = UInt8.ofNat (bat s k) :: s.data.toList.drop (k + 1) := by
  have h1 : k < s.data.toList.length := hk
  have e1 : UInt8.ofNat (bat s k) = s.data.toList[k] := by unfold bat; rw [List.getD_eq_getElem?_getD, List.getElem?_eq_getElem h1]; simp
  rw [List.drop_eq_getElem_cons h1, e1]
theorem wdsF_list (s : ByteArray) : ∀ (f k fr : Nat), f + k = s.size → fr ≤ k → ∀ h t, wdsL (s.data.toList.drop k) = h :: t → dls (wdsF s f k fr) = ((s.data.toList.drop fr).take (k - fr) ++ h) :: t
  | 0, k, fr, hf, hfr, h, t, e => by
    have hl : s.data.toList.length = s.size := rfl
    rw [List.drop_of_length_le (by omega)] at e
    simp only [wdsL, List.cons.injEq] at e
    obtain ⟨rfl, rfl⟩ := e
    show [(s.extract fr s.size).data.toList] = _
    rw [Lib.extract_to_end, List.append_nil, List.take_of_length_le (by rw [List.length_drop]; omega)]
  | f + 1, k, fr, hf, hfr, h, t, e => by
    have hk : k < s.size := by omega
    have hb : bat s k < 256 := bat_lt s k
    rw [drop_bat s k hk, wdsL] at e
    obtain ⟨h2, t2, e2⟩ : ∃ h2 t2, wdsL (s.data.toList.drop (k + 1)) = h2 :: t2 := by
      cases e3 : wdsL (s.data.toList.drop (k + 1)) with
      | nil => exact absurd e3 (wdsL_ne _)
      | cons a b => exact ⟨a, b, rfl⟩
    rw [wdsF]
    by_cases h32 : bat s k = 32
    · rw [if_pos h32]
      rw [if_pos (by rw [h32]; rfl)] at e
      have ih := wdsF_list s f (k + 1) (k + 1) (by omega) (Nat.le_refl _) h2 t2 e2
      simp only [List.cons.injEq] at e
      obtain ⟨rfl, rfl⟩ := e
      show (s.extract fr k).data.toList :: dls (wdsF s f (k + 1) (k + 1)) = _
      rw [ih, e2, Lib.extract_data, List.append_nil, Nat.sub_self, List.take_zero, List.nil_append]
    · rw [if_neg h32]
      have hne : UInt8.ofNat (bat s k) ≠ 32 := fun h => h32 (by
        have := congrArg UInt8.toNat h
        rw [UInt8.toNat_ofNat'] at this
        have h3 : (32 : UInt8).toNat = 32 := rfl
        omega)
      rw [if_neg hne, e2] at e
      have ih := wdsF_list s f (k + 1) fr (by omega) (by omega) h2 t2 e2
      simp only [List.cons.injEq] at e
      obtain ⟨rfl, rfl⟩ := e
      rw [ih]
      congr 1
      have : (s.data.toList.drop fr).take (k + 1 - fr) = (s.data.toList.drop fr).take (k - fr) ++ [UInt8.ofNat (bat s k)] := by
        rw [show k + 1 - fr = (k - fr) + 1 by omega, List.take_add_one, List.getElem?_drop, show fr + (k - fr) = k by omega]
        have h1 : k < s.data.toList.length := hk
        have e1 : UInt8.ofNat (bat s k) = s.data.toList[k] := by unfold bat; rw [List.getD_eq_getElem?_getD, List.getElem?_eq_getElem h1]; simp
        rw [List.getElem?_eq_getElem h1, e1]
        rfl
      rw [this, List.append_assoc]
      rfl
theorem wds_list (s : ByteArray) : dls (wds s) = wdsL s.data.toList := by
  cases e : wdsL s.data.toList with
  | nil => exact absurd e (wdsL_ne _)
  | cons h t =>
    have := wdsF_list s s.size 0 0 (by omega) (Nat.le_refl _) h t (by simpa using e)
    rw [wds, this]
    rfl
theorem rd_list (neg : Bool) (s : ByteArray) : ∀ (f k : Nat) (n : Int), s.size ≤ f + k → rd neg s f k n = rdL neg (s.data.toList.drop k) n
  | 0, k, n, h => by
    have hl : s.data.toList.length = s.size := rfl
    rw [List.drop_of_length_le (by omega)]; rfl
  | f + 1, k, n, h => by
    rw [rd]
    have hl : s.data.toList.length = s.size := rfl
    by_cases hk : k < s.size
    · have hb : bat s k < 256 := bat_lt s k
      have e : (UInt8.ofNat (bat s k)).toNat = bat s k := by rw [UInt8.toNat_ofNat']; omega
      rw [if_pos hk, drop_bat s k hk, rdL, e, rd_list neg s f (k + 1) _ (by omega)]
      rfl
    · rw [if_neg hk, List.drop_of_length_le (by omega)]; rfl
theorem rdN_list (s : ByteArray) : rdN s = rdNL s.data.toList := by
  unfold rdN rdNL
  have hl : s.data.toList.length = s.size := rfl
  rw [hl]
  by_cases h20 : 20 < s.size
  · rw [if_pos h20, if_pos h20]
  · rw [if_neg h20, if_neg h20]
    by_cases h0 : 0 < s.size
    · have hd := drop_bat s 0 h0
      rw [List.drop_zero] at hd
      have hb : bat s 0 < 256 := bat_lt s 0
      have e : (UInt8.ofNat (bat s 0)).toNat = bat s 0 := by rw [UInt8.toNat_ofNat']; omega
      by_cases h45 : bat s 0 = 45
      · have hn : rdNeg s = true := by simp [rdNeg, h0, h45]
        have hf : rdFrom s = 1 := by unfold rdFrom; rw [hn]; rfl
        rw [hn, hf, rd_list true s 20 1 0 (by omega)]
        generalize s.data.toList.drop (0 + 1) = r at hd
        rw [hd]
        show _ = if (UInt8.ofNat (bat s 0)).toNat = 45 then rdL true r 0 else _
        rw [e, if_pos h45]
      · have hn : rdNeg s = false := by simp [rdNeg, h45]
        have hf : rdFrom s = 0 := by unfold rdFrom; rw [hn]; rfl
        rw [hn, hf, rd_list false s 20 0 0 (by omega), List.drop_zero]
        generalize s.data.toList.drop (0 + 1) = r at hd
        rw [hd]
        show _ = if (UInt8.ofNat (bat s 0)).toNat = 45 then _ else rdL false _ 0
        rw [e, if_neg h45]
    · have hnil : s.data.toList = [] := List.eq_nil_of_length_eq_zero (by omega)
      have hn : rdNeg s = false := by simp [rdNeg, h0]
      have hf : rdFrom s = 0 := by unfold rdFrom; rw [hn]; rfl
      rw [hn, hf, rd_list false s 20 0 0 (by omega), List.drop_zero, hnil]
      rfl
theorem findO_spec (s : ByteArray) : ∀ k, k ≤ 24 → findO s k = 0 ∨ ∃ i, i < 24 ∧ findO s k = i + 1 ∧ opN i = s
  | 0, _ => .inl rfl
  | k + 1, h => by
    rw [findO]
    split
    · rename_i e
      exact .inr ⟨23 - k, by omega, by omega, e⟩
    · exact findO_spec s k (by omega)
theorem kindN_of (s : ByteArray) (i : Nat) (hi : i < 24) : opN i = s ↔ kindN s = i + 1 := by
  constructor
  · rintro rfl
    have : ∀ i : Nat, i < 24 → kindN (opN i) = i + 1 := by decide +kernel
    exact this i hi
  · intro h
    rcases findO_spec s 24 (Nat.le_refl _) with h0 | ⟨j, hj, h1, h2⟩
    · unfold kindN at h; omega
    · unfold kindN at h
      have : i = j := by omega
      rw [this]; exact h2
theorem bytesR_len : ∀ x : List UInt8, (bytesR x).length ≤ x.length
  | [] => by simp [bytesR]
  | [_] => by simp [bytesR]
  | a :: b :: r => by
    have := bytesR_len r
    rw [bytesR]
    split
    · simp; omega
    · simp; omega
/-- The page's Read, told by what its Line answers. -/
theorem read_law (s : List UInt8) (x : ByteArray) (rest : List (List UInt8)) (hs : wdsL s = x.data.toList :: rest) (kd : Nat) (hk : kindN x = kd) (h0 : kd ≠ 0) (h24 : kd ≤ 24) (ns : List Int) (t : ByteArray) (hr : wordsR [(kd : Int)] rest = (ns, t.data.toList)) :
    rOut (wordsP [(kd : Int)] rest) = if (lineS ns t.data.toList).2 ≠ 0 ∨ (lineS ns t.data.toList).1 ≠ s then ([], [], 3) else (ns, t.data.toList, 0) := by
  have hno : ∀ c ∈ x.data.toList, c ≠ 32 := wds_no s x.data.toList (by rw [hs]; exact List.mem_cons_self ..)
  obtain ⟨ms, h1, h2, h3⟩ := reads_same x.data.toList hno kd rest s hs
  rw [hr] at h1 h2 h3
  simp only at h1 h2 h3
  subst h1
  have hnm : (nmO (kd : Int)).data.toList = x.data.toList := by
    have hx := (kindN_of x (kd - 1) (by omega)).2 (by omega)
    have hok : okO (kd : Int) = true := by unfold okO; simp; omega
    unfold nmO
    rw [hok, if_pos rfl, show ((kd : Int) - 1).toNat = kd - 1 by omega, hx]
  have hl : lineS ((kd : Int) :: ms) t.data.toList = if ofE ((kd : Int) :: ms) t = 0 then (lineL x.data.toList ms t.data.toList, 0) else ([], ofE ((kd : Int) :: ms) t) := by
    show (if ofE ((kd : Int) :: ms) (ba t.data.toList) = 0 then (lineL (nmO (kd : Int)).data.toList ms t.data.toList, 0) else _) = _
    rw [hnm]; rfl
  rw [hl]
  by_cases he : ofE ((kd : Int) :: ms) t = 0
  · rw [if_pos he]
    simp only [ne_eq, not_true_eq_false, false_or]
    by_cases hb : lineL x.data.toList ms t.data.toList = s
    · rw [if_neg (fun h => h hb), h2.1 hb]
      show (if ofE ((kd : Int) :: ms) (ba t.data.toList) = 0 then _ else _) = _
      exact if_pos he
    · rw [if_pos hb, h3.1 hb]; rfl
  · rw [if_neg he, if_pos (.inl he)]
    by_cases hb : lineL x.data.toList ms t.data.toList = s
    · rw [h2.1 hb]
      show (if ofE ((kd : Int) :: ms) (ba t.data.toList) = 0 then _ else _) = _
      exact if_neg he
    · rw [h3.1 hb]; rfl
end Go.Proofs.YtgeaebcchjmmjaaDoor
