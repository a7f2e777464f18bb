/- Cases that came in: a theory, steps, a number and a clause; a theory, a byte and bytes. No condition. -/
import Derived.Test.YteagoaiiacideaaG3
import Derived.Test.YteagoaiiacideaaStp
import Derived.Deep.Slices
namespace Go.Proofs.Yteagoaiiacideaa
set_option linter.unusedSimpArgs false
set_option linter.unusedVariables false
open Go.ChangeShapes Go.WideShapes Go.ChangeAt Go.RowKit
set_option maxRecDepth 20000
/-- A slice of bytes, as it lies in memory. -/
def BytesAt (w : World) (v : Value) (l : List Int) : Prop :=
  ∃ a cap, v = .slice a l.length cap ∧ l.length ≤ cap ∧ cap ≤ maxLen ∧
    ∀ k, k < l.length → ∃ b off, a = some ⟨b, off, none⟩ ∧ b < w.heap.size ∧ w.cell? ⟨b, off + k, none⟩ = some (.int .u8 (l.getD k 0))
theorem BytesAt.ex {w w' : World} {v : Value} {l : List Int} (h : BytesAt w v l) (hx : Ex w w') : BytesAt w' v l := by
  obtain ⟨a, cap, hv, h1, h2, h3⟩ := h
  refine ⟨a, cap, hv, h1, h2, fun k hk => ?_⟩
  obtain ⟨b, off, ha, hb, hc⟩ := h3 k hk
  exact ⟨b, off, ha, Nat.lt_of_lt_of_le hb hx.size, by rw [hx.cell (p := ⟨b, off + k, none⟩) hb]; exact hc⟩
theorem add_none (b o i : Nat) : (⟨b, o, none⟩ : Addr).add i = ⟨b, o + i, none⟩ := by unfold Addr.add; split <;> simp_all
theorem wf_u8 {n : Int} (h : (Lit.int .u8 n).wf = true) : 0 ≤ n ∧ n < 256 := by
  have e1 : IntKind.u8.min = 0 := by decide
  have e2 : IntKind.u8.max = 255 := by decide
  have : (decide (IntKind.u8.min ≤ n) && decide (n ≤ IntKind.u8.max)) = true := h
  rw [Bool.and_eq_true, decide_eq_true_eq, decide_eq_true_eq, e1, e2] at this
  omega
theorem open_bytesAt {H : Type} {enc : TypeId × Value → H} {W : World} {base fuel : Nat} {held : Bool} {cs : List Value} {x : DataW H × List MemPlace}
    (h : DataW.trod enc Try.prog W base (fun _ => true) held fuel 44 cs = some x) : ∃ v l, cs = [v] ∧ BytesAt W v l ∧ ∀ n ∈ l, 0 ≤ n ∧ n < 256 := by
  rcases open_ints Try.underlying44 Try.underlying5 (by kernel_rfl) h with ⟨hcs, _⟩ | ⟨a, len, cap, zs, hcs, _, hl, hm, hz, _, hcell, hwz⟩
  · exact ⟨_, [], hcs, ⟨none, 0, rfl, Nat.le_refl _, Nat.zero_le _, fun k hk => by cases hk⟩, fun n hn => by cases hn⟩
  · have hz' : zs.length = cap := by simpa using hz
    have hlen : (zs.take len).length = len := by rw [List.length_take]; omega
    refine ⟨_, zs.take len, hcs, ⟨some a, cap, by rw [hlen], by rw [hlen]; exact hl, hm, fun k hk => ?_⟩, fun n hn => wf_u8 (hwz n (List.mem_of_mem_take hn))⟩
    rw [hlen] at hk
    have hc := hcell k (by omega)
    obtain ⟨ha, hk'⟩ := spot_none (hcell 0 (by omega))
    rw [getD_take hk]
    rw [hk'] at hc
    exact ⟨a.block, a.off, by rw [← ha], (cell_lt hc :), hc⟩
theorem open_theoryAt {H : Type} {enc : TypeId × Value → H} {W : World} {base fuel : Nat} {held : Bool} {u0 u1 : Value} {x : DataW H × List MemPlace}
    (h : DataW.trod enc Try.prog W base (fun _ => true) held fuel 24 [u0, u1] = some x) : ∃ n lv ll, u0 = .int .i64 n ∧ u1 = lv ∧ RowsAt W lv ll ∧ ∀ l ∈ ll, ∀ n ∈ l, (Lit.int .i64 n).wf = true := by
  obtain ⟨xs, m, _, _, _, hlen, hf⟩ := DataW.trod_struct Try.underlying24 h
  match xs, hlen with
  | [y0, y1], _ =>
    have h0 : DataW.trod enc Try.prog W base (fun _ => true) held m 3 [u0] = some y0 := hf 0 _ rfl
    have h1 : DataW.trod enc Try.prog W base (fun _ => true) held m 22 [u1] = some y1 := hf 1 _ rfl
    obtain ⟨n, hn, _, hw⟩ := DataW.trod_int Try.underlying3 h0
    obtain ⟨lv, ll, hl, hR, hw2⟩ := open_rowsAt h1
    simp only [List.cons.injEq, and_true] at hn hl
    exact ⟨n, lv, ll, hn, hl, hR, hw2⟩
theorem open_stepsAt {H : Type} {enc : TypeId × Value → H} {W : World} {base fuel : Nat} {held : Bool} {cs : List Value} {x : DataW H × List MemPlace}
    (h : DataW.trod enc Try.prog W base (fun _ => true) held fuel 25 cs = some x) : ∃ v tr, cs = [v] ∧ StepsAt W v tr := by
  rcases Deep.open_slice Try.underlying25 h with ⟨hcs, _⟩ | ⟨a, len, cap, m, n, D, Pl, hcs, _, hl, hm, hmm, _, hi⟩
  · exact ⟨_, [], hcs, StepsAt.nil W⟩
  · have hmc : m = cap := by simpa using hmm
    have ce : Try.prog.cellsOf 55 = 3 := by kernel_rfl
    have key : ∀ i, i < len → ∃ s : St, ∀ j u, (stV s)[j]? = some u → W.cell? ((a.add (i * 3)).add j) = some u := fun i hil => by
      obtain ⟨cs', hc, ht⟩ := hi i (by omega)
      rw [ce] at hc
      obtain ⟨_, hcl, hat⟩ := World.cells?_some hc
      obtain ⟨xs, k, _, _, _, hlen, hf⟩ := DataW.trod_struct Try.underlying55 ht
      match cs', hcl, xs, hlen with
      | [u0, u1, u2], _, [y0, y1, y2], _ =>
        have h0 : DataW.trod enc Try.prog W base (fun _ => true) held k 3 [u0] = some y0 := hf 0 _ rfl
        have h1 : DataW.trod enc Try.prog W base (fun _ => true) held k 3 [u1] = some y1 := hf 1 _ rfl
        have h2 : DataW.trod enc Try.prog W base (fun _ => true) held k 3 [u2] = some y2 := hf 2 _ rfl
        obtain ⟨n0, e0, _, _⟩ := DataW.trod_int Try.underlying3 h0
        obtain ⟨n1, e1, _, _⟩ := DataW.trod_int Try.underlying3 h1
        obtain ⟨n2, e2, _, _⟩ := DataW.trod_int Try.underlying3 h2
        simp only [List.cons.injEq, and_true] at e0 e1 e2
        subst e0 e1 e2
        refine ⟨⟨n0, n1, n2⟩, fun j u hu => ?_⟩
        have hj : j < 3 := (List.getElem?_eq_some_iff.1 hu).1
        rw [hat j hj]
        exact hu
    have ⟨T, hT⟩ : ∃ T : Nat → St, ∀ i, i < len → ∀ j u, (stV (T i))[j]? = some u → W.cell? ((a.add (i * 3)).add j) = some u :=
      ⟨fun i => if h : i < len then Classical.choose (key i h) else default, fun i hil => by simp only [dif_pos hil]; exact Classical.choose_spec (key i hil)⟩
    have hlen : ((List.range len).map T).length = len := by simp
    refine ⟨_, (List.range len).map T, hcs, ⟨some a, cap, by rw [hlen], by rw [hlen]; exact hl, hm, fun k hk => ?_⟩⟩
    rw [hlen] at hk
    have hsp : a = ⟨a.block, a.off, none⟩ := by
      have h0 := hT 0 (by omega) 0 _ rfl
      obtain ⟨ab, ao, asp⟩ := a
      have : asp = none := by simpa [Addr.add] using World.cell?_spot h0
      subst this
      rfl
    have e : ((List.range len).map T).getD k default = T k := by
      rw [List.getD_eq_getElem?_getD, List.getElem?_map, List.getElem?_range hk]; rfl
    have had : ∀ j, (a.add (k * 3)).add j = ⟨a.block, a.off + k * 3 + j, none⟩ := fun j => by
      rw [hsp]
      rw [add_none, add_none]
    have g0 := hT k hk 0 _ rfl
    have g1 := hT k hk 1 _ rfl
    have g2 := hT k hk 2 _ rfl
    rw [had] at g0 g1 g2
    rw [e]
    exact ⟨a.block, a.off, by rw [← hsp], (cell_lt g0 :), g0, g1, g2⟩
theorem array_n {a : Array Value} : a = a.toList.toArray := rfl
/-- A case that came in. -/
theorem open_argCase {H : Type} {enc : TypeId × Value → H} {W : World} {base b0 : Nat} {held : Bool} {r : Reach} {v : Value} {d : DataW H} {p : List MemPlace}
    (hv : Value.okWide Try.prog W r b0 28 v) (h : DataW.Trod enc Try.prog W base (fun _ => true) held 28 v d p) :
    ∃ n lv sv cf cv ll tr c, v = .agg #[.int .i64 n, lv, sv, .int .i64 cf, cv] ∧ RowsAt W lv ll ∧ StepsAt W sv tr ∧ IntsAt W cv c := by
  obtain ⟨cs, rfl, hsz⟩ := okWide_struct Try.underlying28 hv
  have hsz : cs.size = 5 := hsz.trans (by kernel_rfl)
  obtain ⟨l⟩ := cs
  obtain ⟨fuel, hf⟩ := h
  match l, hsz with
  | [u0, u1, u2, u3, u4], _ =>
    obtain ⟨xs, m, _, _, _, hlen, hg⟩ := DataW.trod_struct Try.underlying28 hf
    match xs, hlen with
    | [y0, y1, y2, y3], _ =>
      have h0 : DataW.trod enc Try.prog W base (fun _ => true) held m 24 [u0, u1] = some y0 := hg 0 _ rfl
      have h1 : DataW.trod enc Try.prog W base (fun _ => true) held m 25 [u2] = some y1 := hg 1 _ rfl
      have h2 : DataW.trod enc Try.prog W base (fun _ => true) held m 3 [u3] = some y2 := hg 2 _ rfl
      have h3 : DataW.trod enc Try.prog W base (fun _ => true) held m 26 [u4] = some y3 := hg 3 _ rfl
      obtain ⟨n, lv, ll, rfl, rfl, hR, _⟩ := open_theoryAt h0
      obtain ⟨sv, tr, e1, hS⟩ := open_stepsAt h1
      obtain ⟨cf, e2, _, _⟩ := DataW.trod_int Try.underlying3 h2
      obtain ⟨cv, c, e3, hc, _⟩ := open_intsAt h3
      simp only [List.cons.injEq, and_true] at e1 e2 e3
      subst e1 e2 e3
      exact ⟨n, _, _, cf, _, ll, tr, c, rfl, hR, hS, hc⟩
/-- A question that came in. -/
theorem open_argAsk {H : Type} {enc : TypeId × Value → H} {W : World} {base b0 : Nat} {held : Bool} {r : Reach} {v : Value} {d : DataW H} {p : List MemPlace}
    (hv : Value.okWide Try.prog W r b0 46 v) (h : DataW.Trod enc Try.prog W base (fun _ => true) held 46 v d p) :
    ∃ n lv nb kv ll ks, v = .agg #[.int .i64 n, lv, .int .u8 nb, kv] ∧ RowsAt W lv ll ∧ (∀ l ∈ ll, ∀ n ∈ l, (Lit.int .i64 n).wf = true) ∧ (0 ≤ nb ∧ nb < 256) ∧ BytesAt W kv ks ∧ ∀ k ∈ ks, 0 ≤ k ∧ k < 256 := by
  obtain ⟨cs, rfl, hsz⟩ := okWide_struct Try.underlying46 hv
  have hsz : cs.size = 4 := hsz.trans (by kernel_rfl)
  obtain ⟨l⟩ := cs
  obtain ⟨fuel, hf⟩ := h
  match l, hsz with
  | [u0, u1, u2, u3], _ =>
    obtain ⟨xs, m, _, _, _, hlen, hg⟩ := DataW.trod_struct Try.underlying46 hf
    match xs, hlen with
    | [y0, y1, y2], _ =>
      have h0 : DataW.trod enc Try.prog W base (fun _ => true) held m 24 [u0, u1] = some y0 := hg 0 _ rfl
      have h1 : DataW.trod enc Try.prog W base (fun _ => true) held m 5 [u2] = some y1 := hg 1 _ rfl
      have h2 : DataW.trod enc Try.prog W base (fun _ => true) held m 44 [u3] = some y2 := hg 2 _ rfl
      obtain ⟨n, lv, ll, rfl, rfl, hR, hwf⟩ := open_theoryAt h0
      obtain ⟨nb, e1, _, hnb⟩ := DataW.trod_int Try.underlying5 h1
      obtain ⟨kv, ks, e2, hk, hkb⟩ := open_bytesAt h2
      simp only [List.cons.injEq, and_true] at e1 e2
      subst e1 e2
      exact ⟨n, _, nb, _, ll, ks, rfl, hR, hwf, wf_u8 hnb, hk, hkb⟩
end Go.Proofs.Yteagoaiiacideaa
