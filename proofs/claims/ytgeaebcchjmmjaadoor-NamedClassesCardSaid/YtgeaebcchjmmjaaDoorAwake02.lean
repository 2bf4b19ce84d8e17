/- The page of layer 2 has its examples. -/
import Derived.Test.YtgeaebcchjmmjaaDoorFoldLaw
import Derived.Test.YtgeaebcchjmmjaaDoorEqSet
namespace Go.Proofs.YtgeaebcchjmmjaaDoor
open Go.RowKit
theorem cnt_w : cnt (clsN sAlnum ||| 39614081257132168796771975168) = 63 := by decide +kernel
theorem fold_a1 : foldN (ofN [97, 49]) = ofN [65, 97, 49] := by decide +kernel
set_option maxRecDepth 100000 in
set_option maxHeartbeats 4000000 in
theorem awake02 (w : World) (hT : Tab w) : Calls Tryd.prog 9 #[] w fun e w' => e = .returned (.bool true) ∧ Below w.heap.size w w' := by
  have HT := Lib.hid hT
  clear hT
  go_enter Tryd.func9, Tryd.ntmps9
  go_wp2_with fail
  refine (esc_w _).mono ?_
  rintro e w1 ⟨rfl, hb1⟩
  have HT1 := Lib.hid (HT.out.below hb1)
  go_wp2_with fail
  refine (count_any (clsN sAlnum ||| 39614081257132168796771975168) _).mono ?_
  rw [cnt_w]
  rintro e w2 ⟨rfl, hb2⟩
  go_wp2_with fail
  refine (of_any [97, 49] _ _ _ (by decide) (by decide) (fun k hk => ?_)).mono ?_
  · match k, hk with
    | 0, _ => simp
    | 1, _ => simp
  rintro e w3 ⟨rfl, hb3⟩
  have HT3 := Lib.hid (((HT1.out.alloc _).below hb2 |>.alloc _).below hb3)
  go_wp2_with fail
  refine (fold_any _ _ HT3.out).mono ?_
  rintro e w4 ⟨rfl, hb4⟩
  go_wp2_with fail
  refine (of_any [65, 97, 49] _ _ _ (by decide) (by decide) (fun k hk => ?_)).mono ?_
  · match k, hk with
    | 0, _ => simp
    | 1, _ => simp
    | 2, _ => simp
  rintro e w5 ⟨rfl, hb5⟩
  rw [fold_a1]
  have he := eql_sv (ofN [65, 97, 49]) (ofN [65, 97, 49]) (by decide +kernel) (by decide +kernel)
  go_wp2
  go_ret
  exact ⟨rfl, blw_then (blw_alloc (blw_then (blw_then (blw_alloc (blw_then (blw_alloc hb1 _) hb2) _) hb3) hb4) _) hb5⟩
end Go.Proofs.YtgeaebcchjmmjaaDoor
