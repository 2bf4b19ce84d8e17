/- An argument that is a row of operations, opened. -/
import Derived.Test.YtgeaebcchjmmjaaDoorRaws
import Derived.Deep.SlicePairs
import Derived.ChangeSlices
import Derived.ProofKit
namespace Go.Proofs.YtgeaebcchjmmjaaDoor
open Go.ChangeShapes Go.WideShapes Go.RowKit
theorem addr_at {w : World} {a : Addr} {v : Value} (h : w.cell? (a.add 0) = some v) : a = ⟨a.block, a.off, none⟩ := by
  obtain ⟨b, o, s⟩ := a
  have hs : s = none := by
    have h2 : ((⟨b, o, s⟩ : Addr).add 0) = ⟨b, o, s⟩ := by unfold Addr.add; rfl
    rw [h2] at h
    unfold World.cell? at h
    split at h
    · cases s with
      | none => rfl
      | some x => simp at h
    · cases h
  subst hs
  rfl
theorem addr_add (b o k : Nat) : (⟨b, o, none⟩ : Addr).add k = ⟨b, o + k, none⟩ := by
  unfold Addr.add
  split
  · rename_i h0; subst h0; rfl
  · rfl
section
variable {H : Type} {enc : TypeId × Value → H} {w : World}
set_option maxRecDepth 100000 in
theorem open_nums {fuel : Nat} {v : Value} {y : DataW H} {p : List MemPlace} (h : DataW.trod enc Tryd.prog w 0 (fun _ => true) true fuel 40 [v] = some (y, p)) : ∃ ns, IntsAt w v ns := by
  have c3 : Tryd.prog.cellsOf 3 = 1 := by kernel_rfl
  rcases open_ints Tryd.underlying40 Tryd.underlying3 c3 h with ⟨hc, _⟩ | ⟨a, len, cap, zs, hc, _, hl, hm, hz, _, hcell, hwf⟩
  · simp only [List.cons.injEq, and_true] at hc
    subst hc
    exact ⟨[], fun _ h => (by cases h), by simp, .inl ⟨rfl, none, 0, rfl⟩⟩
  · simp only [List.cons.injEq, and_true] at hc
    subst hc
    simp only [if_true] at hz
    have hin : ∀ n ∈ zs, InI n := fun n hn => by
      have := hwf n hn
      simp only [Lit.wf, Bool.and_eq_true, decide_eq_true_eq] at this
      exact this
    have hlz : (zs.take len).length = len := by rw [List.length_take]; omega
    unfold maxLen at hm
    refine ⟨zs.take len, fun n hn => hin n (List.mem_of_mem_take hn), by omega, ?_⟩
    cases len with
    | zero => exact .inl ⟨rfl, some a, _, rfl⟩
    | succ len =>
      have h0 := hcell 0 (by omega)
      have ha := addr_at h0
      refine .inr ⟨a.block, a.off, cap, ?_, by omega, fun j n hj => ?_⟩
      · rw [hlz, ← ha]
      · have hjl : j < len + 1 := by
          have := (List.getElem?_eq_some_iff.1 hj).1
          omega
        have hc := hcell j (by omega)
        rw [ha, addr_add] at hc
        rw [hc]
        rw [List.getElem?_take, if_pos hjl] at hj
        rw [List.getD_eq_getElem?_getD, hj]
        rfl
set_option maxRecDepth 100000 in
theorem open_raws {r : Reach} {b0 : Nat} {v : Value} {d : DataW H} {p : List MemPlace} (hv : Value.okWide Tryd.prog w r b0 49 v) (h : DataW.Trod enc Tryd.prog w 0 (fun _ => true) true 49 v d p) :
    ∃ rs, RawsAt w v rs ∧ (∀ r ∈ rs, ∀ n ∈ r.1, InI n) ∧ (∀ r ∈ rs, r.2.size ≤ 9223372036854775807) := by
  have c42 : Tryd.prog.cellsOf 42 = 2 := by kernel_rfl
  have c40 : Tryd.prog.cellsOf 40 = 1 := by kernel_rfl
  have c9 : Tryd.prog.cellsOf 9 = 1 := by kernel_rfl
  obtain ⟨A, n, c, rfl⟩ := okWide_slice Tryd.underlying49 hv
  obtain ⟨fuel, hf⟩ := h
  rcases Go.Deep.open_slice_pairs Tryd.underlying49 Tryd.underlying42 c42 rfl rfl c40 c9 hf with ⟨hc, _⟩ | ⟨a, len, cap, m, k, V0, V1, D0, D1, P0, P1, hc, _, hl, hm, hmm, _, hel⟩
  · have hc' : [Value.slice A n c] = [.slice none 0 0] := hc
    simp only [List.cons.injEq, and_true] at hc'
    rw [hc']
    exact ⟨[], ⟨by simp, .inl ⟨rfl, none, 0, rfl⟩⟩, fun _ h => (by cases h), fun _ h => (by cases h)⟩
  · have hc' : [Value.slice A n c] = [.slice (some a) len cap] := hc
    simp only [List.cons.injEq, and_true] at hc'
    rw [hc']
    simp only [if_true] at hmm
    subst hmm
    have each : ∀ i, i < len → ∃ r : Raw, IntsAt w (V0 i) r.1 ∧ V1 i = .string r.2 ∧ r.2.size ≤ 9223372036854775807 := fun i hi => by
      obtain ⟨_, _, h0, h1⟩ := hel i (by omega)
      obtain ⟨ns, hns⟩ := open_nums h0
      obtain ⟨s, hs, _, hz⟩ := DataW.trod_string Tryd.underlying9 h1
      simp only [List.cons.injEq, and_true] at hs
      unfold maxLen at hz
      exact ⟨(ns, s), hns, hs, by show s.size ≤ _; omega⟩
    obtain ⟨R, hR⟩ := Go.Deep.choose_lt each
    have hmem : ∀ r ∈ (List.range len).map R, ∃ i, i < len ∧ r = R i := fun r hr => by
      obtain ⟨i, hi, rfl⟩ := List.mem_map.1 hr
      exact ⟨i, List.mem_range.1 hi, rfl⟩
    unfold maxLen at hm
    refine ⟨(List.range len).map R, ⟨by simp; omega, ?_⟩, ?_, ?_⟩
    · cases len with
      | zero => exact .inl ⟨rfl, some a, _, rfl⟩
      | succ len =>
        obtain ⟨h0, _⟩ := hel 0 (by omega)
        rw [Nat.zero_mul] at h0
        have ha := addr_at h0
        refine .inr ⟨a.block, a.off, m, by simp [← ha], by simpa using hl, fun i r hr => ?_⟩
        have hil : i < len + 1 := by
          have := (List.getElem?_eq_some_iff.1 hr).1
          simpa using this
        obtain ⟨g0, g1, _⟩ := hel i (by omega)
        rw [ha, addr_add] at g0 g1
        simp [hil] at hr
        subst hr
        obtain ⟨k1, k2, _⟩ := hR i hil
        exact ⟨V0 i, g0, k1, by rw [← k2]; exact g1⟩
    · intro r hr
      obtain ⟨i, hi, rfl⟩ := hmem r hr
      exact (hR i hi).1.1
    · intro r hr
      obtain ⟨i, hi, rfl⟩ := hmem r hr
      exact (hR i hi).2.2
end
end Go.Proofs.YtgeaebcchjmmjaaDoor
