/- What of, Name, field and Of of package op answer. -/
import Derived.Test.YtgeaebcchjmmjaaDoorOpRows
import Derived.Test.YtgeaebcchjmmjaaDoorStructs
namespace Go.Proofs.YtgeaebcchjmmjaaDoor
open Go.RowKit
/-- What of answers. -/
def okO (k : Int) : Bool := decide (1 ≤ k) && decide (k ≤ 24)
def nmO (k : Int) : ByteArray := if okO k then opN (k - 1).toNat else ⟨#[]⟩
def nsO (k : Int) : ByteArray := if okO k then opS (k - 1).toNat else ⟨#[]⟩
def txO (k : Int) : Bool := if okO k then opT (k - 1).toNat else false
set_option maxRecDepth 100000 in
set_option maxHeartbeats 1000000 in
theorem opof_in (j : Nat) (hj : j < 24) (w : World) :
    Calls Tryd.prog 78 #[.int .i64 ((j : Int) + 1)] w fun e w' => e = .returned (.tuple #[.agg #[.string (opN j), .string (opS j), .bool (opT j)], .bool true]) ∧ Below w.heap.size w w' := by
  go_enter Tryd.func78, Tryd.ntmps78
  go_wp2_with fail
  refine (oprows_any _).mono ?_
  rintro e w1 ⟨g, rfl, hrow, hb1⟩
  have HR := Lib.hid hrow
  have hz : w1.heap[w.heap.size]? = some (.cells #[.string ⟨#[]⟩, .string ⟨#[]⟩, .bool false] 120 (0, 0)) := bk_below (bk_new _ _) hb1
  have HB := Lib.hid (blw_then (blw_alloc (Below.refl w.heap.size w) _) hb1)
  clear hrow hb1
  obtain ⟨hc0, hc1, hc2⟩ := HR.out j hj
  obtain ⟨z0, z1, z2, zf⟩ := cells3 hz
  have HZ := Lib.hid hz
  clear hz
  go_wp2
  refine bodyPost_ret (v := .tuple #[.agg #[.string (opN j), .string (opS j), .bool (opT j)], .bool true]) (res120 rfl rfl rfl (store3 HZ.out)) rfl ⟨rfl, ?_⟩
  exact blw_set (blw_set (blw_set HB.out (by simp) _) (by simp) _) (by simp) _
set_option maxRecDepth 100000 in
set_option maxHeartbeats 1000000 in
theorem opof_out (k : Int) (h0 : InI k) (hk : okO k = false) (w : World) :
    Calls Tryd.prog 78 #[.int .i64 k] w fun e w' => e = .returned (.tuple #[.agg #[.string ⟨#[]⟩, .string ⟨#[]⟩, .bool false], .bool false]) ∧ Below w.heap.size w w' := by
  obtain ⟨h0, h1⟩ := h0
  have hk2 : k < 1 ∨ 24 < k := by unfold okO at hk; simp at hk; omega
  clear hk
  go_enter Tryd.func78, Tryd.ntmps78
  go_wp2_with fail
  refine (oprows_any _).mono ?_
  rintro e w1 ⟨g, rfl, hrow, hb1⟩
  clear hrow
  have hz : w1.heap[w.heap.size]? = some (.cells #[.string ⟨#[]⟩, .string ⟨#[]⟩, .bool false] 120 (0, 0)) := bk_below (bk_new _ _) hb1
  have HB := Lib.hid (blw_then (blw_alloc (Below.refl w.heap.size w) _) hb1)
  clear hb1
  obtain ⟨z0, z1, z2, zf⟩ := cells3 hz
  have HZ := Lib.hid hz
  clear hz
  rcases hk2 with hk2 | hk2
  · go_wp2
    refine bodyPost_ret (v := .tuple #[.agg #[.string ⟨#[]⟩, .string ⟨#[]⟩, .bool false], .bool false]) (res120 rfl rfl rfl (store3 HZ.out)) rfl ⟨rfl, ?_⟩
    exact blw_set (blw_set (blw_set HB.out (by simp) _) (by simp) _) (by simp) _
  · go_wp2
    refine bodyPost_ret (v := .tuple #[.agg #[.string ⟨#[]⟩, .string ⟨#[]⟩, .bool false], .bool false]) (res120 rfl rfl rfl (store3 HZ.out)) rfl ⟨rfl, ?_⟩
    exact blw_set (blw_set (blw_set HB.out (by simp) _) (by simp) _) (by simp) _
theorem opof_any (k : Int) (h0 : InI k) (w : World) :
    Calls Tryd.prog 78 #[.int .i64 k] w fun e w' => e = .returned (.tuple #[.agg #[.string (nmO k), .string (nsO k), .bool (txO k)], .bool (okO k)]) ∧ Below w.heap.size w w' := by
  cases hk : okO k
  · unfold nmO nsO txO
    simp only [hk]
    exact opof_out k h0 hk w
  · have hk2 : 1 ≤ k ∧ k ≤ 24 := by unfold okO at hk; simpa using hk
    obtain ⟨j, rfl⟩ : ∃ j : Nat, k = j + 1 := ⟨(k - 1).toNat, by omega⟩
    have e0 : ((j : Int) + 1 - 1).toNat = j := by omega
    unfold nmO nsO txO
    simp only [hk, e0, if_true]
    exact opof_in j (by omega) w
set_option maxRecDepth 100000 in
set_option maxHeartbeats 1000000 in
theorem opName_any (k : Int) (h0 : InI k) (w : World) : Calls Tryd.prog 57 #[.int .i64 k] w fun e w' => e = .returned (.string (nmO k)) ∧ Below w.heap.size w w' := by
  go_enter Tryd.func57, Tryd.ntmps57
  go_wp2_with fail
  refine (opof_any k h0 _).mono ?_
  rintro e w1 ⟨rfl, hb1⟩
  go_wp2
  go_ret
  exact ⟨rfl, blw_alloc hb1 _⟩
/-- Which of an operation's numbers a letter means. -/
def fieldN (c : Nat) : Nat := if c = 83 then 1 else if c = 65 then 2 else 3
set_option maxRecDepth 100000 in
theorem field_any (g c : Nat) (w : World) : Calls Tryd.prog 79 #[.pointer (some ⟨g, 0, none⟩), .int .u8 c] w fun e w' => e = .returned (.pointer (some ⟨g, fieldN c, none⟩)) ∧ w = w' := by
  by_cases h1 : c = 83
  · subst h1
    go_enter Tryd.func79, Tryd.ntmps79
    go_wp2
    go_ret
    exact ⟨rfl, rfl⟩
  · by_cases h2 : c = 65
    · subst h2
      go_enter Tryd.func79, Tryd.ntmps79
      go_wp2
      go_ret
      exact ⟨rfl, rfl⟩
    · have e1 : ((c : Int) == 83) = false := by rw [beq_eq_false_iff_ne]; omega
      have e2 : ((c : Int) == 65) = false := by rw [beq_eq_false_iff_ne]; omega
      have e3 : fieldN c = 3 := by unfold fieldN; rw [if_neg h1, if_neg h2]
      rw [e3]
      go_enter Tryd.func79, Tryd.ntmps79
      go_wp2
      go_ret
      exact ⟨rfl, rfl⟩
end Go.Proofs.YtgeaebcchjmmjaaDoor
