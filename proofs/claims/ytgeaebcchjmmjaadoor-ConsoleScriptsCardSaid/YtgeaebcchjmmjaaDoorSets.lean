/- What the functions Has, each and the three closures of package byteset do to sets that are told as numbers. -/
import Derived.Test.YtgeaebcchjmmjaaDoorProg
import Derived.Test.YtgeaebcchjmmjaaDoorBits
import Derived.Test.YtgeaebcchjmmjaaDoorHeap
import Derived.WalkKit
import Derived.WalkSpells
import Derived.WalkLawsBesides
import Derived.Deep.RegionWith
import Derived.Deep.RegionHeld3
import Derived.Deep.QuietTactic
import Derived.BigQuiet
import Derived.StillTailTactics
import Derived.Deep.DeepCutAuto
import Derived.Deep.CutBlock
import Derived.Deep.LoopGhost
import Derived.Lib.Hide
namespace Go.Proofs.YtgeaebcchjmmjaaDoor
open Go.RowKit

abbrev sv (n : Nat) : Value := .agg #[.int .u64 (wd n 0), .int .u64 (wd n 1), .int .u64 (wd n 2), .int .u64 (wd n 3)]
theorem wd_cell (n j : Nat) (h : j < 4) (W : World) (T : TypeId) : (W.alloc (.cells #[.int .u64 (wd n 0), .int .u64 (wd n 1), .int .u64 (wd n 2), .int .u64 (wd n 3)] T)).cell? ⟨W.heap.size, j, none⟩ = some (.int .u64 (wd n j)) := by
  match j, h with
  | 0, _ => simp
  | 1, _ => simp
  | 2, _ => simp
  | 3, _ => simp
set_option maxHeartbeats 400000 in
theorem has_any (n : Nat) (b : Int) (w : World) (hb0 : 0 ≤ b) (hb : b < 256) :
    Calls Tryd.prog 15 #[sv n, .int .u8 b] w fun e w' => e = .returned (.bool (n.testBit b.toNat)) ∧ Below w.heap.size w w' := by
  have hc := wd_cell n (b / 64).toNat (by omega)
  unfold sv
  go_enter Tryd.func15, Tryd.ntmps15
  go_wp2
  go_ret
  refine ⟨?_, blw_alloc (Below.refl _ _) _⟩
  exact congrArg (fun x => Ending.returned (.bool x)) (wd_has n b hb0)

set_option maxRecDepth 100000 in
set_option maxHeartbeats 2000000 in
theorem each_any (f : Nat) (g : Int → Int → Int) (hcall : ∀ args w, (callFunc f args).run Tryd.prog w = .ok (.enter f args) w)
    (hf : ∀ x y w, Calls Tryd.prog f #[.int .u64 x, .int .u64 y] w fun e w' => e = .returned (.int .u64 (g x y)) ∧ w' = w)
    (a0 a1 a2 a3 b0 b1 b2 b3 : Int) (w : World) :
    Calls Tryd.prog 40 #[.agg #[.int .u64 a0, .int .u64 a1, .int .u64 a2, .int .u64 a3], .agg #[.int .u64 b0, .int .u64 b1, .int .u64 b2, .int .u64 b3], .func (.func f) #[] #[]] w fun e w' =>
      e = .returned (.agg #[.int .u64 (g a0 b0), .int .u64 (g a1 b1), .int .u64 (g a2 b2), .int .u64 (g a3 b3)]) ∧ Below w.heap.size w w' := by
  go_enter Tryd.func40, Tryd.ntmps40
  go_wp2
  refine wp_loop_rounds 5 ?_
  rw [rounds_succ]
  go_wp2
  refine wp_region_still_tail 9 (by kernel_rfl) (by kernel_rfl) ?_
  simp only [List.take_succ_cons, List.take_zero, List.drop_succ_cons, List.drop_zero]
  change wpStill _ _ (World.drew _) (fun a' => wpList _ _ _ _ a' (World.drew _)) _ _
  repeat still_step
  still_call (hf _ _ _)
  refine wpStill_nil ?_
  go_wp2
  rw [rounds_succ]
  go_wp2
  refine wp_region_still_tail 9 (by kernel_rfl) (by kernel_rfl) ?_
  simp only [List.take_succ_cons, List.take_zero, List.drop_succ_cons, List.drop_zero]
  change wpStill _ _ (World.drew _) (fun a' => wpList _ _ _ _ a' (World.drew _)) _ _
  repeat still_step
  still_call (hf _ _ _)
  refine wpStill_nil ?_
  go_wp2
  rw [rounds_succ]
  go_wp2
  refine wp_region_still_tail 9 (by kernel_rfl) (by kernel_rfl) ?_
  simp only [List.take_succ_cons, List.take_zero, List.drop_succ_cons, List.drop_zero]
  change wpStill _ _ (World.drew _) (fun a' => wpList _ _ _ _ a' (World.drew _)) _ _
  repeat still_step
  still_call (hf _ _ _)
  refine wpStill_nil ?_
  go_wp2
  rw [rounds_succ]
  go_wp2
  refine wp_region_still_tail 9 (by kernel_rfl) (by kernel_rfl) ?_
  simp only [List.take_succ_cons, List.take_zero, List.drop_succ_cons, List.drop_zero]
  change wpStill _ _ (World.drew _) (fun a' => wpList _ _ _ _ a' (World.drew _)) _ _
  repeat still_step
  still_call (hf _ _ _)
  refine wpStill_nil ?_
  go_wp2
  rw [rounds_succ]
  go_wp2
  refine bodyPost_ret (v := .agg #[.int .u64 (g a0 b0), .int .u64 (g a1 b1), .int .u64 (g a2 b2), .int .u64 (g a3 b3)]) (by simp [results, Tryd.results40, go_sem]) rfl ⟨rfl, ?_⟩
  exact blw_drew (blw_drew (blw_drew (blw_drew (blw_alloc (blw_alloc (blw_alloc (Below.refl _ _) _) _) _))))

theorem and1 (x y : Int) (w : World) : Calls Tryd.prog 41 #[.int .u64 x, .int .u64 y] w fun e w' => e = .returned (.int .u64 (bits .and .u64 x y)) ∧ w' = w := by
  go_enter Tryd.func41, Tryd.ntmps41
  go_wp2
  all_goals first | (go_ret; exact ⟨rfl, rfl⟩) | (exfalso; revert ‹_›; decide)
theorem and1_call (args : Array Value) (w : World) : (callFunc 41 args).run Tryd.prog w = .ok (.enter 41 args) w := by kernel_rfl

theorem or1 (x y : Int) (w : World) : Calls Tryd.prog 68 #[.int .u64 x, .int .u64 y] w fun e w' => e = .returned (.int .u64 (bits .or .u64 x y)) ∧ w' = w := by
  go_enter Tryd.func68, Tryd.ntmps68
  go_wp2
  all_goals first | (go_ret; exact ⟨rfl, rfl⟩) | (exfalso; revert ‹_›; decide)
theorem or1_call (args : Array Value) (w : World) : (callFunc 68 args).run Tryd.prog w = .ok (.enter 68 args) w := by kernel_rfl

theorem not1 (x y : Int) (w : World) : Calls Tryd.prog 69 #[.int .u64 x, .int .u64 y] w fun e w' => e = .returned (.int .u64 (bits .xor .u64 IntKind.u64.max x)) ∧ w' = w := by
  go_enter Tryd.func69, Tryd.ntmps69
  go_wp2
  all_goals first | (go_ret; exact ⟨rfl, rfl⟩) | (exfalso; revert ‹_›; decide)
theorem not1_call (args : Array Value) (w : World) : (callFunc 69 args).run Tryd.prog w = .ok (.enter 69 args) w := by kernel_rfl

end Go.Proofs.YtgeaebcchjmmjaaDoor
