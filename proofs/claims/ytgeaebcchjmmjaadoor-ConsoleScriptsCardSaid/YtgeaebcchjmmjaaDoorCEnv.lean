/- What of the library's tables and variables the console's calls read; kept by every call that keeps what lay below a block. -/
import Derived.Test.YtgeaebcchjmmjaaDoorBytesRef
import Derived.WalkSmall
import Derived.Lib.AppendIntMem
import Derived.Lib.AtoiErrMem
namespace Go.Proofs.YtgeaebcchjmmjaaDoor
open Go.RowKit Go.Lib
def CEnv (w : World) : Prop :=
  Lib.TabIs Tryd.prog w "internal/strconv.uint64pow10" .u64 Lib.pow10Tab ∧ (∃ tp p, w.var? Tryd.prog "strconv.ErrSyntax" = some #[.iface tp p]) ∧ (∃ tp p, w.var? Tryd.prog "strconv.ErrRange" = some #[.iface tp p]) ∧ (∃ m, w.cell? ⟨1, 0, none⟩ = some (.int .i64 m)) ∧ 9 ≤ w.heap.size
theorem nPow : Tryd.prog.globalNamed "internal/strconv.uint64pow10" = some 4 := by kernel_rfl
theorem nSyn : Tryd.prog.globalNamed "strconv.ErrSyntax" = some 2 := by kernel_rfl
theorem nRan : Tryd.prog.globalNamed "strconv.ErrRange" = some 3 := by kernel_rfl
theorem CEnv.below {w W : World} {B : Nat} (h : CEnv w) (hb : Below B w W) (hB : 9 ≤ B) : CEnv W := by
  obtain ⟨h1, ⟨t2, p2, h2⟩, ⟨t3, p3, h3⟩, ⟨m, h4⟩, h5⟩ := h
  exact ⟨var?_below hb nPow (by omega) h1, ⟨t2, p2, var?_below hb nSyn (by omega) h2⟩, ⟨t3, p3, var?_below hb nRan (by omega) h3⟩, ⟨m, (hb.cell (p := ⟨1, 0, none⟩) (by show 1 < B; omega)).trans h4⟩, Nat.le_trans h5 hb.size⟩
theorem CEnv.blw {w W : World} (h : CEnv w) (hb : Below w.heap.size w W) : CEnv W := h.below hb h.2.2.2.2
theorem itoa_any (n : Int) (hn : InI n) (w : World) (h : CEnv w) : Calls Tryd.prog 58 #[.int .i64 n] w fun e w' => e = .returned (.string ⟨(Lib.itoa n).toArray⟩) ∧ Below w.heap.size w w' :=
  (Tryd.strconv_Itoa n hn.1 hn.2 w h.1).mono fun _ _ ⟨he, k, os, hw⟩ => ⟨he, by rw [hw]; exact below_grow _ w (Nat.le_refl _) k os⟩
def AtoiEnd (s : ByteArray) (w : World) (e : Ending) (w' : World) : Prop :=
  ∃ n ev, e = .returned (.tuple #[.int .i64 n, ev]) ∧ Below w.heap.size w w' ∧ InI n ∧ ((ev = .nilIface ∧ Lib.atoiAll s.data.toList = .ok n) ∨ (∃ N, ev = .iface 159 (.pointer (some N)) ∧ ∀ v, Lib.atoiAll s.data.toList ≠ .ok v))
theorem atoi_any (s : ByteArray) (hs : s.size ≤ 2000000) (w : World) (h : CEnv w) : Calls Tryd.prog 77 #[.string s] w (AtoiEnd s w) := by
  obtain ⟨_, ⟨t2, p2, h2⟩, ⟨t3, p3, h3⟩, _⟩ := h
  cases e : Lib.atoiAll s.data.toList with
  | ok v =>
    refine (Tryd.strconv_Atoi_ok s (by omega) v e w).mono ?_
    rintro e' w' ⟨rfl, hw⟩
    refine ⟨v, _, rfl, ?_, Lib.atoiAll_bounds e, .inl ⟨rfl, e⟩⟩
    rcases hw with rfl | ⟨t, rfl⟩
    · exact Below.refl _ _
    · exact Lib.bytesWorld_below _ _ _
  | range =>
    refine (Tryd.strconv_Atoi_range_var s (by omega) e t3 p3 w h3).mono ?_
    rintro e' w' ⟨N, rfl, _, _, hw⟩
    exact ⟨_, _, rfl, hw, Lib.atoiSat_bounds _, .inr ⟨_, rfl, fun v hv => by rw [e] at hv; cases hv⟩⟩
  | _ =>
    refine (Tryd.strconv_Atoi_syntax_var s (by omega) (fun v hv => by rw [e] at hv; cases hv) (fun hv => by rw [e] at hv; cases hv) t2 p2 w h2).mono ?_
    rintro e' w' ⟨N, rfl, _, _, hw⟩
    exact ⟨0, _, rfl, hw, by constructor <;> decide, .inr ⟨_, rfl, fun v hv => by rw [e] at hv; cases hv⟩⟩
end Go.Proofs.YtgeaebcchjmmjaaDoor
