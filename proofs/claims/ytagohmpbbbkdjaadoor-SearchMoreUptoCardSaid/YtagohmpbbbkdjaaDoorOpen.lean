/- Arguments opened: a theory, a slice of integers. No condition. -/
import Derived.Test.YtagohmpbbbkdjaaDoorBase
import Derived.ProofKit
import Derived.Lib.SmallJoins
import Derived.Deep.Matrix
namespace Go.Proofs.YtagohmpbbbkdjaaDoor
set_option linter.unusedSimpArgs false
set_option linter.unusedVariables false
open Go.ChangeShapes Go.WideShapes Go.ChangeAt Go.RowKit
set_option maxRecDepth 20000
theorem Tryd.own : ownKnob Tryd.prog.godebug = none := by kernel_rfl
theorem Tryd.laidOut : laidOutB Tryd.prog = true := by kernel_rfl

theorem spot_none {w : World} {a : Addr} {v : Value} (h : w.cell? (a.add 0) = some v) : a = ⟨a.block, a.off, none⟩ ∧ ∀ k, a.add k = ⟨a.block, a.off + k, none⟩ := by
  obtain ⟨b, off, spot⟩ := a
  have : spot = none := by simpa [Addr.add] using World.cell?_spot h
  subst this
  exact ⟨rfl, fun k => by unfold Addr.add; split <;> simp_all⟩
theorem getD_take {α : Type} {l : List α} {n k : Nat} {d : α} (h : k < n) : (l.take n).getD k d = l.getD k d := by
  rw [List.getD_eq_getElem?_getD, List.getD_eq_getElem?_getD, List.getElem?_take_of_lt h]

theorem open_intsAt {H : Type} {enc : TypeId × Value → H} {W : World} {base fuel : Nat} {held : Bool} {cs : List Value} {x : DataW H × List MemPlace}
    (h : DataW.trod enc Tryd.prog W base (fun _ => true) held fuel 25 cs = some x) : ∃ v l, cs = [v] ∧ IntsAt W v l ∧ ∀ n ∈ l, (Lit.int .i64 n).wf = true := by
  rcases open_ints Tryd.underlying25 Tryd.underlying3 (by kernel_rfl) h with ⟨hcs, _⟩ | ⟨a, len, cap, zs, hcs, _, hl, hm, hz, _, hcell, hwz⟩
  · exact ⟨_, [], hcs, IntsAt.nil _, fun n hn => by cases hn⟩
  · have hz' : zs.length = cap := by simpa using hz
    have hlen : (zs.take len).length = len := by rw [List.length_take]; omega
    refine ⟨_, zs.take len, hcs, ⟨some a, cap, by rw [hlen], by rw [hlen]; exact hl, hm, fun k hk => ?_⟩, fun n hn => hwz n (List.mem_of_mem_take hn)⟩
    rw [hlen] at hk
    have hc := hcell k (by omega)
    obtain ⟨ha, hk'⟩ := spot_none (hcell 0 (by omega))
    rw [getD_take hk]
    rw [hk'] at hc
    exact ⟨a.block, a.off, by rw [← ha], (cell_lt hc :), hc⟩

theorem open_rowsAt {H : Type} {enc : TypeId × Value → H} {W : World} {base fuel : Nat} {held : Bool} {cs : List Value} {x : DataW H × List MemPlace}
    (h : DataW.trod enc Tryd.prog W base (fun _ => true) held fuel 22 cs = some x) : ∃ v ll, cs = [v] ∧ RowsAt W v ll ∧ ∀ l ∈ ll, ∀ n ∈ l, (Lit.int .i64 n).wf = true := by
  rcases Deep.open_int_rows Tryd.underlying22 Tryd.underlying25 Tryd.underlying3 (by kernel_rfl) (by kernel_rfl) h with ⟨hcs, _⟩ | ⟨a, len, cap, A, L, C, Z, hcs, _, hl, hm, _, hrow⟩
  · exact ⟨_, [], hcs, ⟨none, 0, rfl, Nat.le_refl _, Nat.zero_le _, fun k hk => by cases hk⟩, fun n hn => by cases hn⟩
  · have hlen : ((List.range len).map fun r => (Z r).take (L r)).length = len := by simp
    refine ⟨_, (List.range len).map fun r => (Z r).take (L r), hcs, ⟨some a, cap, by rw [hlen], by rw [hlen]; exact hl, hm, fun k hk => ?_⟩, fun l hl' n hn => ?_⟩
    · rw [hlen] at hk
      obtain ⟨hc, h1, h2, h3, h4, h5, h6⟩ := hrow k (by omega)
      obtain ⟨ha, hk'⟩ := spot_none (hrow 0 (by omega)).1
      rw [hk'] at hc
      have e : ((List.range len).map fun r => (Z r).take (L r)).getD k [] = (Z k).take (L k) := by
        rw [List.getD_eq_getElem?_getD, List.getElem?_map, List.getElem?_range hk]; rfl
      rw [e]
      refine ⟨a.block, a.off, _, by rw [← ha], (cell_lt hc :), hc, ?_⟩
      have hln : ((Z k).take (L k)).length = L k := by rw [List.length_take]; omega
      refine ⟨A k, C k, by rw [hln], by rw [hln]; exact h1, h2, fun j hj => ?_⟩
      rw [hln] at hj
      cases hA : A k with
      | none => have := h5 hA; omega
      | some a' =>
        obtain ⟨_, h7⟩ := h6 a' hA
        have hcj := h7 j (by omega)
        obtain ⟨ha', hk''⟩ := spot_none (h7 0 (by omega))
        rw [getD_take hj]
        rw [hk''] at hcj
        exact ⟨a'.block, a'.off, by rw [← ha'], (cell_lt hcj :), hcj⟩
    · obtain ⟨r, hr, rfl⟩ := List.mem_map.1 hl'
      have hr' : r < len := List.mem_range.1 hr
      exact (hrow r (by omega)).2.2.2.2.1 n (List.mem_of_mem_take hn)

/-- A slice of integers that came in. -/
theorem open_argInts {H : Type} {enc : TypeId × Value → H} {W : World} {base b0 : Nat} {held : Bool} {r : Reach} {v : Value} {d : DataW H} {p : List MemPlace}
    (hv : Value.okWide Tryd.prog W r b0 25 v) (h : DataW.Trod enc Tryd.prog W base (fun _ => true) held 25 v d p) : ∃ l, IntsAt W v l ∧ ∀ n ∈ l, (Lit.int .i64 n).wf = true := by
  obtain ⟨a0, len0, cap0, rfl⟩ := okWide_slice Tryd.underlying25 hv
  obtain ⟨fuel, hf⟩ := h
  obtain ⟨v, l, hc, hI, hw⟩ := open_intsAt hf
  simp [Value.cells] at hc
  subst hc
  exact ⟨l, hI, hw⟩
/-- A theory that came in. -/
theorem open_argTheory {H : Type} {enc : TypeId × Value → H} {W : World} {base b0 : Nat} {held : Bool} {r : Reach} {v : Value} {d : DataW H} {p : List MemPlace}
    (hv : Value.okWide Tryd.prog W r b0 24 v) (h : DataW.Trod enc Tryd.prog W base (fun _ => true) held 24 v d p) :
    ∃ n lv ll, v = .agg #[.int .i64 n, lv] ∧ (Lit.int .i64 n).wf = true ∧ RowsAt W lv ll ∧ ∀ l ∈ ll, ∀ n ∈ l, (Lit.int .i64 n).wf = true := by
  obtain ⟨v0, v1, y0, y1, fuel, rfl, _, _, h0, h1⟩ := Joins.open_agg2 Tryd.underlying24 (by kernel_rfl) (by kernel_rfl) hv h
  obtain ⟨n, hn, _, hw⟩ := DataW.trod_int Tryd.underlying3 h0
  obtain ⟨lv, ll, hl, hR, hw2⟩ := open_rowsAt h1
  simp only [List.cons.injEq, and_true] at hn hl
  subst hn hl
  exact ⟨n, _, ll, rfl, hw, hR, hw2⟩
end Go.Proofs.YtagohmpbbbkdjaaDoor
