/- The frame of the console's rows: the wrap that keeps the world's shape, the environment out of the row's condition, a world that meets the condition. -/
import Derived.Test.YtgeaebcchjmmjaaDoorCReads
import Derived.ChangeSame
import Derived.ChangeVars
import Derived.RowKitTokens
import Derived.LaidLaws
import Derived.LaidHandle
import Derived.Stop.Joined
import Derived.Lib.LaidTab
import Derived.Lib.SmallJoins
import Derived.OpenShut
import Derived.Test.YtgeaebcchjmmjaaDoorTie
import Derived.Test.YtgeaebcchjmmjaaDoorCards
import Derived.HandedShaped
import Derived.Shelf.Vars
import Derived.Lay
import Derived.LaidMore
import Derived.SevenTiedAt
import Derived.ChangeMaps5
namespace Go.Proofs.YtgeaebcchjmmjaaDoor
open Go.ChangeShapes Go.WideShapes Go.RowKit
theorem own43 : ownKnob Tryd.prog.godebug = none := by kernel_rfl
theorem returns_and_shaped {H : Type} {enc : TypeId × Value → H} {a : Assume} {C : Checked} {os : Os} {f : FuncId} {fn : Func} {s : ChangeSpec} {conds : List PathCond} {apart fresh handsOn again : Bool} {X : World → Array Value → Prop}
    (hX : ∀ (w w' : World) (args : Array Value), w.heap = w'.heap → X w args → X w' args)
    (own : ownKnob C.prog.godebug = none) (started : os.Started) (noInit : C.prog.inits.idxOf? f = none) (hfn : C.prog.funcs[f]? = some fn)
    (witness : ∃ (w : World) (tape : Tape) (i : Input), w.os = os ∧ (w.forCall tape i).Shaped C.prog ∧ i.vars = [] ∧ Input.okWide C.prog (w.forCall tape i) .any w.heap.size f i ∧
      ((s.pre enc C.prog fn conds apart (w.forCall tape i).memory i.args ∧ X (w.forCall tape i).memory i.args) ∧ sizedMet enc C.prog fn (OpenSpec.ofChange s) apart (w.forCall tape i).memory i.args) ∧ a.holds C.prog (lone (Frame.enter C.prog f i.args .normal) [] (w.forCall tape i)))
    (contract : ∀ (W : World) (base : Nat) (args : Array Value) (ds gs : List (DataW H)) (before : List MemPlace),
      (∀ (j : Nat) t v, fn.params[j]? = some t → args[j]? = some v → Value.okWide C.prog W .any base t v) →
      DataW.Whole enc C.prog fn.params.toList s.vars apart W args.toList ds gs before →
      conds.all (PathCond.test C.prog ⟨fn.params.toList, ds, s.plain.varTypes C.prog, gs⟩) = true →
      (DataW.weightsEach C.prog (fn.params.toList ++ s.plain.varTypes C.prog) (ds ++ gs)).all (· ≤ reachBytes) = true → X W args → W.ShapedOpen C.prog →
      a.holds C.prog (lone (Frame.enter C.prog f args .normal) [] W) →
      Calls C.prog f args W fun e W' => ∃ v, e = .returned v ∧ s.post enc C.prog fn apart fresh handsOn again W args v W') :
    ReturnsInHanded a C os f .any (fun w args => (s.pre enc C.prog fn conds apart w args ∧ X w args) ∧ sizedMet enc C.prog fn (OpenSpec.ofChange s) apart w args) (s.post enc C.prog fn apart fresh handsOn again) := by
  refine returnsInHanded_of_calls own started noInit witness ?_
  intro w tape i _ hsh _ hok hpre hholds
  obtain ⟨_, _, _, fn', hfn', _, _, _, _, hval⟩ := hok
  have e : fn' = fn := Option.some.inj (hfn'.symm.trans hfn)
  subst e
  obtain ⟨⟨⟨ds, gs, before, hw, hc⟩, hx⟩, hz⟩ := hpre
  have hw' := DataW.Whole.of_heap (w' := w.forCall tape i) (by rfl) hw
  refine (contract (w.forCall tape i) w.heap.size i.args ds gs before hval hw' hc (hz.weights hw) (hX _ _ _ (by rfl) hx) hsh hholds).mono fun e W' ⟨v, he, hp⟩ => ?_
  subst he
  exact ChangeSpec.post_blind hp
def laid7 : List (String × DataW Unit) := [("math/bits.deBruijn32tab", Rows.laid_math_bits_deBruijn32tab), ("math/bits.deBruijn64tab", Rows.laid_math_bits_deBruijn64tab), ("internal/strconv.uint64pow10", Rows.laid_internal_strconv_uint64pow10), ("unicode/utf8.acceptRanges", Rows.laid_unicode_utf8_acceptRanges), ("strconv.ErrRange", Rows.laid_strconv_ErrRange), ("strconv.ErrSyntax", Rows.laid_strconv_ErrSyntax), ("unicode/utf8.first", Rows.laid_unicode_utf8_first)]
theorem pow_is : (Rows.laid_internal_strconv_uint64pow10 : DataW Unit) = Lib.tabData .u64 Lib.pow10Tab := by kernel_rfl
theorem sizes9 : (decide (Tryd.prog.globals.size ≤ 8) && decide (8 < (begin Tryd.prog (fun _ _ => 0) default).world.heap.size)) = true := by kernel_rfl
theorem maxLenShape : ((begin Tryd.prog (fun _ _ => 0) default).world.heap[1]?).bind Obj.row? = some (#[.int .i64 0], 3) := by kernel_rfl
theorem arr_one {c : Array Value} {v : Value} (h : c.toList = [v]) : c = #[v] := by
  cases c with
  | mk l => exact congrArg Array.mk h
theorem env_of_laid {W : World} (h : laidMetH Tryd.prog laid7 W) (hsh : W.ShapedOpen Tryd.prog) : CEnv W := by
  have hs := sizes9
  simp only [Bool.and_eq_true, decide_eq_true_eq] at hs
  obtain ⟨o, _, ho, _⟩ := hsh.2 8 hs.1 hs.2
  have h9 : 9 ≤ W.heap.size := bk_lt ho
  have hm : ∃ m, W.cell? ⟨1, 0, none⟩ = some (.int .i64 m) := cell_of_shapedOpen_int hsh (of_decide_eq_true (by kernel_rfl)) maxLenShape rfl (by kernel_rfl) (by kernel_rfl) Tryd.underlying3
  rw [MakeChecks.laidMetH_plain _ _ _ (by kernel_rfl)] at h
  obtain ⟨ps, hl, _, _⟩ := h
  obtain ⟨_, _, _, _, _, _, _, _, _, _, hl, _⟩ := hl
  obtain ⟨_, _, _, _, _, _, _, _, _, _, hl, _⟩ := hl
  obtain ⟨g2, t2, c2, f2, p2, q2, hg2, ht2, hv2, hd2, hl, _⟩ := hl
  obtain ⟨_, _, _, _, _, _, _, _, _, _, hl, _⟩ := hl
  obtain ⟨g4, t4, c4, f4, p4, q4, hg4, ht4, hv4, hd4, hl, _⟩ := hl
  obtain ⟨g5, t5, c5, f5, p5, q5, hg5, ht5, hv5, hd5, hl, _⟩ := hl
  have cP : Tryd.prog.cellsOf 22 = 1 := by kernel_rfl
  have cT : Tryd.prog.cellsOf 177 = 20 := by kernel_rfl
  have hty4 : (Tryd.prog.globals[4]?).map (·.type) = some 177 := by kernel_rfl
  have hty3 : (Tryd.prog.globals[3]?).map (·.type) = some 106 := by kernel_rfl
  have hty2 : (Tryd.prog.globals[2]?).map (·.type) = some 106 := by kernel_rfl
  obtain rfl := Option.some.inj (nPow.symm.trans hg2)
  obtain rfl := Option.some.inj (nRan.symm.trans hg4)
  obtain rfl := Option.some.inj (nSyn.symm.trans hg5)
  obtain rfl := Option.some.inj (hty4.symm.trans ht2)
  obtain rfl := Option.some.inj (hty3.symm.trans ht4)
  obtain rfl := Option.some.inj (hty2.symm.trans ht5)
  rw [pow_is] at hd2
  refine ⟨?_, ?_, ?_, hm, h9⟩
  · unfold Lib.TabIs
    rw [hv2, ← Lib.cells_of_tab Tryd.underlying177 Tryd.underlying22 cP cT hd2]
  · obtain ⟨_, u, v, hc, _, _⟩ := iface_of_trod Tryd.underlying106 hd5
    exact ⟨u, v, hv5.trans (congrArg some (arr_one hc))⟩
  · obtain ⟨_, u, v, hc, _, _⟩ := iface_of_trod Tryd.underlying106 hd4
    exact ⟨u, v, hv4.trans (congrArg some (arr_one hc))⟩
end Go.Proofs.YtgeaebcchjmmjaaDoor
