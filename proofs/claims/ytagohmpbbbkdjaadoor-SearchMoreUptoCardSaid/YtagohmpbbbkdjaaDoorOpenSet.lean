/- A set that came in. No condition. -/
import Derived.Test.YtagohmpbbbkdjaaDoorOpen
import Derived.OpenShut
namespace Go.Proofs.YtagohmpbbbkdjaaDoor
set_option linter.unusedSimpArgs false
set_option linter.unusedVariables false
open Go.ChangeShapes Go.WideShapes Go.ChangeAt Go.RowKit
theorem array_two {a : Array Value} (h : a.size = 2) : ∃ u v, a = #[u, v] := by
  obtain ⟨l⟩ := a
  match l, h with
  | [u, v], _ => exact ⟨u, v, rfl⟩
set_option maxRecDepth 100000 in
/-- A set that came in. -/
theorem open_argSet {H : Type} {enc : TypeId × Value → H} {W : World} {base b0 : Nat} {held : Bool} {r : Reach} {v : Value} {d : DataW H} {p : List MemPlace}
    (hv : Value.okWide Tryd.prog W r b0 30 v) (h : DataW.Trod enc Tryd.prog W base (fun _ => true) held 30 v d p) :
    ∃ x y : Nat, v = .agg #[.int .u64 x, .int .u64 y] ∧ x < 18446744073709551616 ∧ y < 18446744073709551616 := by
  simp only [Value.okWide, Tryd.underlying30] at hv
  obtain ⟨cs, rfl, hsz, _⟩ := hv
  obtain ⟨c0, c1, rfl⟩ := array_two (hsz.trans (by kernel_rfl))
  obtain ⟨fuel, hf⟩ := h
  obtain ⟨xs, m, _, _, hl, hlen, hg⟩ := DataW.trod_array Tryd.underlying30 hf
  have ce : Tryd.prog.cellsOf 28 = 1 := by kernel_rfl
  match xs, hlen with
  | [a, b], _ =>
    have g0 := hg 0 (by decide)
    have g1 := hg 1 (by decide)
    rw [ce] at g0 g1
    obtain ⟨n0, h0, _, w0⟩ := DataW.trod_int Tryd.underlying28 (show _ = some a from g0)
    obtain ⟨n1, h1, _, w1⟩ := DataW.trod_int Tryd.underlying28 (show _ = some b from g1)
    simp [Value.cells] at h0 h1
    subst h0 h1
    obtain ⟨a1, a2⟩ := bounds_u64 w0
    obtain ⟨b1, b2⟩ := bounds_u64 w1
    refine ⟨n0.toNat, n1.toNat, ?_, by omega, by omega⟩
    rw [Int.toNat_of_nonneg a1, Int.toNat_of_nonneg b1]
end Go.Proofs.YtagohmpbbbkdjaaDoor
