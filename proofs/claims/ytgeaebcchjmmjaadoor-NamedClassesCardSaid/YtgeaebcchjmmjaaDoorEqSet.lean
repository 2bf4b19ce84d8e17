/- '==' of two sets of bytes, as numbers. -/
import Derived.Test.YtgeaebcchjmmjaaDoorSets
import Derived.ChangeKeysEq
namespace Go.Proofs.YtgeaebcchjmmjaaDoor
open Go.RowKit
theorem info22 : (Tryd.prog.info? 22).map (fun i => (i.zero, i.size, i.bytes)) = some (some (.int .u64 0), 1, 8) := by kernel_rfl
theorem cells22 : Tryd.prog.cellsOf 22 = 1 := by kernel_rfl
theorem part22 (xs : Array Value) (i : Nat) (v : Value) (h : xs[i]? = some v) (w : World) : (part 22 xs i).run Tryd.prog w = .ok v w := by
  simp [part, h]
theorem eqStep (d : Nat) (xs ys : Array Value) (i : Nat) (a b : Int) (is : List Nat) (w : World) (h1 : xs[i]? = some (.int .u64 a)) (h2 : ys[i]? = some (.int .u64 b)) :
    (Op.eqItems (d + 1) 22 1 xs ys (i :: is)).run Tryd.prog w = if (a == b) = true then (Op.eqItems (d + 1) 22 1 xs ys is).run Tryd.prog w else .ok false w := by
  have e : (Op.equalIn (d + 1) 22 (.int .u64 a) (.int .u64 b)).run Tryd.prog w = .ok (a == b) w := run_equalIn_int w d 22 .u64 .u64 a b Tryd.underlying22
  simp only [Op.eqItems, Sem.run_bind, Nat.mul_one]
  rw [part22 _ _ _ h1, Result.andThen_ok, part22 _ _ _ h2, Result.andThen_ok, e, Result.andThen_ok]
  cases (a == b) <;> simp
theorem eqin (d : Nat) (a0 a1 a2 a3 b0 b1 b2 b3 : Int) (w : World) : (Op.equalIn (d + 2) 24 (.agg #[.int .u64 a0, .int .u64 a1, .int .u64 a2, .int .u64 a3]) (.agg #[.int .u64 b0, .int .u64 b1, .int .u64 b2, .int .u64 b3])).run Tryd.prog w = .ok (a0 == b0 && (a1 == b1 && (a2 == b2 && a3 == b3))) w := by
  obtain ⟨i0, hi, hz0, hz1, hz2⟩ := info_parts info22
  rw [run_equalIn_array w (d + 1) _ _ Tryd.underlying24 hi, cells22]
  have hr : List.range 4 = [0, 1, 2, 3] := rfl
  rw [hr, eqStep d _ _ 0 a0 b0 _ w rfl rfl, eqStep d _ _ 1 a1 b1 _ w rfl rfl, eqStep d _ _ 2 a2 b2 _ w rfl rfl, eqStep d _ _ 3 a3 b3 _ w rfl rfl]
  cases (a0 == b0) <;> cases (a1 == b1) <;> cases (a2 == b2) <;> cases (a3 == b3) <;> simp [Op.eqItems]
theorem eql_sv (a b : Nat) (ha : a < 2 ^ 256) (hb : b < 2 ^ 256) (w : World) : (binOp .eql 24 (sv a) (sv b)).run Tryd.prog w = .ok (.bool (a == b)) w := by
  have h := wd_beq a b ha hb
  rw [← h]
  unfold sv
  rw [run_eql_struct, show (10000 : Nat) = 9998 + 2 from rfl, eqin, Result.andThen_ok]
theorem neq_sv (a b : Nat) (ha : a < 2 ^ 256) (hb : b < 2 ^ 256) (w : World) : (binOp .neq 24 (sv a) (sv b)).run Tryd.prog w = .ok (.bool (!(a == b))) w := by
  have h := wd_beq a b ha hb
  rw [← h]
  unfold sv
  rw [run_neq_struct, show (10000 : Nat) = 9998 + 2 from rfl, eqin, Result.andThen_ok]
end Go.Proofs.YtgeaebcchjmmjaaDoor
