/- Two sets compared as values: the law behind '=='. No condition. -/
import Derived.Test.YtlaejhmpnlcceaaBase
import Derived.ChangeKeysEq
import Derived.Laws.StructEq
namespace Go.Proofs.Ytlaejhmpnlcceaa
set_option linter.unusedSimpArgs false
set_option linter.unusedVariables false
open Go.RowKit
theorem Try.hasU64 : (Try.prog.info? 46).isSome = true := by kernel_rfl
theorem Try.cellsU64 : Try.prog.cellsOf 46 = 1 := by kernel_rfl
@[go_sem] theorem eqSet_run (w : World) (x y x' y' : Int) :
    (Op.equalIn 10000 48 (.agg #[.int .u64 x, .int .u64 y]) (.agg #[.int .u64 x', .int .u64 y'])).run Try.prog w = .ok (x == x' && y == y') w := by
  obtain ⟨i, hi⟩ := Option.isSome_iff_exists.1 Try.hasU64
  show (Op.equalIn (9999 + 1) _ _ _).run _ _ = _
  rw [run_equalIn_array w 9999 _ _ Try.underlying48 hi, Try.cellsU64]
  have e1 : (part 46 #[.int .u64 x, .int .u64 y] 0).run Try.prog w = .ok (.int .u64 x) w := by simp [go_sem, Try.underlying46]
  have e2 : (part 46 #[.int .u64 x', .int .u64 y'] 0).run Try.prog w = .ok (.int .u64 x') w := by simp [go_sem, Try.underlying46]
  have e3 : (part 46 #[.int .u64 x, .int .u64 y] 1).run Try.prog w = .ok (.int .u64 y) w := by simp [go_sem, Try.underlying46]
  have e4 : (part 46 #[.int .u64 x', .int .u64 y'] 1).run Try.prog w = .ok (.int .u64 y') w := by simp [go_sem, Try.underlying46]
  have q : ∀ a b : Int, (Op.equalIn 9999 46 (.int .u64 a) (.int .u64 b)).run Try.prog w = .ok (a == b) w := fun a b => run_equalIn_int w 9998 _ _ _ a b Try.underlying46
  show (Op.eqItems 9999 _ _ _ _ [0, 1]).run _ _ = _
  simp only [Op.eqItems, Sem.run_bind, Nat.zero_mul, Nat.mul_one, e1, e2, e3, e4, q, Result.andThen_ok]
  by_cases h : x = x'
  · subst h
    by_cases h' : y = y'
    · subst h'
      simp [Sem.run_ite, Sem.run_pure, e3, e4, q]
    · simp [Sem.run_ite, Sem.run_pure, e3, e4, q, h']
  · simp [Sem.run_ite, Sem.run_pure, h]
end Go.Proofs.Ytlaejhmpnlcceaa
