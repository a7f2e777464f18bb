/- Two sets compared as values: the law behind '=='. No condition. -/
import Derived.Test.YtagohmpbbbkdjaaDoorBase
import Derived.ChangeKeysEq
import Derived.Laws.StructEq
namespace Go.Proofs.YtagohmpbbbkdjaaDoor
set_option linter.unusedSimpArgs false
set_option linter.unusedVariables false
open Go.RowKit
theorem Tryd.hasU64 : (Tryd.prog.info? 28).isSome = true := by kernel_rfl
theorem Tryd.cellsU64 : Tryd.prog.cellsOf 28 = 1 := by kernel_rfl
@[go_sem] theorem eqSet_run (w : World) (x y x' y' : Int) :
    (Op.equalIn 10000 30 (.agg #[.int .u64 x, .int .u64 y]) (.agg #[.int .u64 x', .int .u64 y'])).run Tryd.prog w = .ok (x == x' && y == y') w := by
  obtain ⟨i, hi⟩ := Option.isSome_iff_exists.1 Tryd.hasU64
  show (Op.equalIn (9999 + 1) _ _ _).run _ _ = _
  rw [run_equalIn_array w 9999 _ _ Tryd.underlying30 hi, Tryd.cellsU64]
  have e1 : (part 28 #[.int .u64 x, .int .u64 y] 0).run Tryd.prog w = .ok (.int .u64 x) w := by simp [go_sem, Tryd.underlying28]
  have e2 : (part 28 #[.int .u64 x', .int .u64 y'] 0).run Tryd.prog w = .ok (.int .u64 x') w := by simp [go_sem, Tryd.underlying28]
  have e3 : (part 28 #[.int .u64 x, .int .u64 y] 1).run Tryd.prog w = .ok (.int .u64 y) w := by simp [go_sem, Tryd.underlying28]
  have e4 : (part 28 #[.int .u64 x', .int .u64 y'] 1).run Tryd.prog w = .ok (.int .u64 y') w := by simp [go_sem, Tryd.underlying28]
  have q : ∀ a b : Int, (Op.equalIn 9999 28 (.int .u64 a) (.int .u64 b)).run Tryd.prog w = .ok (a == b) w := fun a b => run_equalIn_int w 9998 _ _ _ a b Tryd.underlying28
  show (Op.eqItems 9999 _ _ _ _ [0, 1]).run _ _ = _
  simp only [Op.eqItems, Sem.run_bind, Nat.zero_mul, Nat.mul_one, e1, e2, e3, e4, q, Result.andThen_ok]
  by_cases h : x = x'
  · subst h
    by_cases h' : y = y'
    · subst h'
      simp [Sem.run_ite, Sem.run_pure, e3, e4, q]
    · simp [Sem.run_ite, Sem.run_pure, e3, e4, q, h']
  · simp [Sem.run_ite, Sem.run_pure, h]
end Go.Proofs.YtagohmpbbbkdjaaDoor
