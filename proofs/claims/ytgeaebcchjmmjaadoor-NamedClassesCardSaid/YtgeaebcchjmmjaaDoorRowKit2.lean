/- The frame of a row: a set of bytes as an argument, opened and shut; the table of math/bits, from the row's condition to its cells; a world that meets the condition. -/
import Derived.Test.YtgeaebcchjmmjaaDoorRows
import Derived.Test.YtgeaebcchjmmjaaDoorSets4
import Derived.ChangeSame
import Derived.ChangeVars
import Derived.JoinedOf
import Derived.RowKit
import Derived.RowKitTokens
import Derived.LaidLaws
import Derived.LaidHandle
import Derived.Stop.Joined
import Derived.Lib.LaidTab
import Derived.Lib.SmallJoins
import Derived.OpenShut
namespace Go.Proofs.YtgeaebcchjmmjaaDoor
open Go.ChangeShapes Go.WideShapes Go.RowKit
theorem own : ownKnob Tryd.prog.godebug = none := by kernel_rfl
theorem cells24 : Tryd.prog.cellsOf 24 = 4 := by kernel_rfl
theorem cells22' : Tryd.prog.cellsOf 22 = 1 := by kernel_rfl
theorem cells5 : Tryd.prog.cellsOf 5 = 1 := by kernel_rfl
theorem tabName : Tryd.prog.globalNamed "math/bits.deBruijn64tab" = some 0 := by kernel_rfl
theorem tabType : (Tryd.prog.globals[0]?).map (·.type) = some 132 := by kernel_rfl
theorem cells132 : Tryd.prog.cellsOf 132 = 64 := by kernel_rfl
def tabInts : List Int := Lib.deBruijn64tab.map fun (n : Nat) => (n : Int)
theorem tab_is : (Rows.laid_math_bits_deBruijn64tab : DataW Unit) = Lib.tabData .u8 tabInts := by rfl
theorem tab_of_laid {W : World} (h : laidMetH Tryd.prog [("math/bits.deBruijn64tab", Rows.laid_math_bits_deBruijn64tab)] W) : Tab W := by
  have h' : laidMet Tryd.prog (("math/bits.deBruijn64tab", Lib.tabData .u8 tabInts) :: []) W := by rw [← tab_is]; exact h
  have ht := Lib.tabIs_of_head tabName tabType Tryd.underlying132 Tryd.underlying5 cells5 cells132 h'
  intro j hj
  have := ht.cell tabName j (by simpa [tabInts, Lib.deBruijn64tab] using hj)
  rw [this]
  congr 2
  have e : ∀ j, j < 64 → tabInts.getD j 0 = ((Lib.deBruijn64tab.getD j 0 : Nat) : Int) := by decide +kernel
  exact e j hj
def tabCells : Array Value := (tabInts.map fun z => Value.int .u8 z).toArray
/-- A world that meets the condition: the settled one, the table laid. -/
noncomputable def laidWorld (os : Os) : World :=
  { World.holding Tryd.prog os ⟨#[], #[], []⟩ with heap := (World.holding Tryd.prog os ⟨#[], #[], []⟩).heap.modify 0 fun
      | .cells _ t frozen => .cells tabCells t frozen
      | o => o }
section
variable {H : Type} {enc : TypeId × Value → H} {w : World} {base : Nat} {spare : Nat → Bool} {held : Bool}
theorem okWide_arr {P : Program} {r : Reach} {t e : TypeId} {n : Nat} {v : Value} (ht : P.underlying t = some (.array n e)) (h : Value.okWide P w r base t v) : ∃ cs, v = .agg cs ∧ cs.size = P.cellsOf t := by
  simp only [Value.okWide, ht] at h
  obtain ⟨cs, h1, h2, _⟩ := h
  exact ⟨cs, h1, h2⟩
def setData {H : Type} (n : Nat) : DataW H := .agg [.lit (.int .u64 (wd n 0)), .lit (.int .u64 (wd n 1)), .lit (.int .u64 (wd n 2)), .lit (.int .u64 (wd n 3))]
theorem u64_nat {a : Int} (h : (Lit.int .u64 a).wf = true) : ∃ m : Nat, a = (m : Int) ∧ m < 18446744073709551616 := by
  simp only [Lit.wf, Bool.and_eq_true, decide_eq_true_eq] at h
  have h1 : 0 ≤ a := h.1
  have h2 : a ≤ 18446744073709551615 := h.2
  obtain ⟨m, rfl⟩ := Int.eq_ofNat_of_zero_le h1
  refine ⟨m, rfl, ?_⟩
  clear h h1
  omega
set_option maxRecDepth 100000 in
theorem open_set {r : Reach} {b0 : Nat} {v : Value} {d : DataW H} {p : List MemPlace} (hv : Value.okWide Tryd.prog w r b0 24 v) (h : DataW.Trod enc Tryd.prog w base spare held 24 v d p) :
    ∃ n, n < 2 ^ 256 ∧ v = sv n ∧ d = setData n ∧ p = [] := by
  obtain ⟨cs, rfl, hsz⟩ := okWide_arr Tryd.underlying24 hv
  obtain ⟨c0, c1, c2, c3, rfl⟩ := Joins.array4 (hsz.trans cells24)
  obtain ⟨fuel, hf⟩ := h
  obtain ⟨xs, m, _, hx, _, hl, hat⟩ := DataW.trod_array Tryd.underlying24 hf
  obtain ⟨y0, y1, y2, y3, rfl⟩ : ∃ y0 y1 y2 y3, xs = [y0, y1, y2, y3] := by
    match xs, hl with
    | [a, b, c, d], _ => exact ⟨a, b, c, d, rfl⟩
  have g0 := hat 0 (by decide)
  have g1 := hat 1 (by decide)
  have g2 := hat 2 (by decide)
  have g3 := hat 3 (by decide)
  rw [cells22'] at g0 g1 g2 g3
  obtain ⟨a0, e0, rfl, w0⟩ := DataW.trod_int Tryd.underlying22 (show DataW.trod enc Tryd.prog w base spare held m 22 [c0] = some y0 from g0)
  obtain ⟨a1, e1, rfl, w1⟩ := DataW.trod_int Tryd.underlying22 (show DataW.trod enc Tryd.prog w base spare held m 22 [c1] = some y1 from g1)
  obtain ⟨a2, e2, rfl, w2⟩ := DataW.trod_int Tryd.underlying22 (show DataW.trod enc Tryd.prog w base spare held m 22 [c2] = some y2 from g2)
  obtain ⟨a3, e3, rfl, w3⟩ := DataW.trod_int Tryd.underlying22 (show DataW.trod enc Tryd.prog w base spare held m 22 [c3] = some y3 from g3)
  simp only [List.cons.injEq, and_true] at e0 e1 e2 e3
  subst e0; subst e1; subst e2; subst e3
  obtain ⟨m0, rfl, b0⟩ := u64_nat w0
  obtain ⟨m1, rfl, b1⟩ := u64_nat w1
  obtain ⟨m2, rfl, b2⟩ := u64_nat w2
  obtain ⟨m3, rfl, b3⟩ := u64_nat w3
  obtain ⟨n, hn, k0, k1, k2, k3⟩ := wd_of m0 m1 m2 m3 b0 b1 b2 b3
  simp only [Prod.mk.injEq] at hx
  refine ⟨n, hn, ?_, ?_, ?_⟩
  · rw [k0, k1, k2, k3]
  · rw [hx.1, k0, k1, k2, k3]; rfl
  · rw [hx.2]; rfl
theorem wd_wf (n j : Nat) : (Lit.int .u64 (wd n j)).wf = true := by
  simp only [Lit.wf, Bool.and_eq_true, decide_eq_true_eq]
  have hmin : IntKind.u64.min = 0 := rfl
  have hmax : IntKind.u64.max = 18446744073709551615 := rfl
  have := wn_lt n j
  unfold wd
  omega
theorem shut_set (n : Nat) : DataW.Trod enc Tryd.prog w base spare held 24 (sv n) (setData n) [] := by
  refine ⟨2, ?_⟩
  have h : ∀ j, DataW.trod enc Tryd.prog w base spare held 1 22 [.int .u64 (wd n j)] = some (.lit (.int .u64 (wd n j)), []) := fun j => by
    unfold DataW.trod
    rw [Tryd.underlying22]
    simp [wd_wf]
  show DataW.trod enc Tryd.prog w base spare held 2 24 [.int .u64 (wd n 0), .int .u64 (wd n 1), .int .u64 (wd n 2), .int .u64 (wd n 3)] = _
  have hr : List.range 4 = [0, 1, 2, 3] := rfl
  unfold DataW.trod
  rw [Tryd.underlying24]
  simp [cells24, cells22', hr, h, setData]
end
end Go.Proofs.YtgeaebcchjmmjaaDoor
