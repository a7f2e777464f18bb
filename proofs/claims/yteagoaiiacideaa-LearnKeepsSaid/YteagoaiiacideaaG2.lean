/- Texts of this claim, joined: Lit, EqSet, Own, Set, Vars, Slices, Funcs, Truth, Lit2, Lits, Vars2. No condition. -/
import Derived.Test.YteagoaiiacideaaG1
import Derived.ChangeKeysEq
import Derived.Laws.StructEq
import Derived.Laws.AppendOwnNone
import Derived.Deep.RegionHeld3
import Derived.Deep.AppendLies
import Derived.Laws.BitsAllLaws
import Derived.Lib.SliceRun
import Derived.Deep.RegionLaw
import Derived.Laws.EntriesVeiled
/- Literals, sets and the check of a theory: each Go function returns what the plain definition says, and old memory stays. No condition but that the arguments can be read. -/
namespace Go.Proofs.Yteagoaiiacideaa
set_option linter.unusedSimpArgs false
set_option linter.unusedVariables false
open Go.RowKit

set_option maxHeartbeats 400000 in
theorem litVar_any (l : Int) (w : World) :
    Calls Try.prog 61 #[.int .i64 l] w fun e w' => e = .returned (.int .i64 (litVar l)) ∧ w = w' := by
  go_enter Try.func61, Try.ntmps61
  go_wp2
  all_goals go_ret
  all_goals exact ⟨ret_int (by unfold litVar; (repeat' split) <;> omega), rfl⟩
set_option maxHeartbeats 400000 in
theorem litValid_any (l n : Int) (w : World) :
    Calls Try.prog 45 #[.int .i64 l, .int .i64 n] w fun e w' => e = .returned (.bool (litValid l n)) ∧ w = w' := by
  by_cases h0 : litVar l = 0
  · have h1 : (litVar l != 0) = false := by simp [h0]
    have : litValid l n = false := by simp [litValid, h0]
    rw [this]; clear this h0
    go_enter Try.func45, Try.ntmps45
    go_wp2_with (go_at_call 61; refine (litVar_any _ _).mono ?_; rintro e w' ⟨rfl, rfl⟩)
    go_ret
    exact ⟨rfl, rfl⟩
  · have h1 : (litVar l != 0) = true := by simp [h0]
    have : litValid l n = decide (litVar l ≤ n) := by simp [litValid, h1]
    rw [this]; clear this h0
    go_enter Try.func45, Try.ntmps45
    go_wp2_with (go_at_call 61; refine (litVar_any _ _).mono ?_; rintro e w' ⟨rfl, rfl⟩)
    go_ret
    exact ⟨rfl, rfl⟩
set_option maxHeartbeats 400000 in
theorem r05Valid_any (l n : Int) (h0 : 0 ≤ n) (h1 : n ≤ 128) (w : World) :
    Calls Try.prog 47 #[.int .i64 l, .int .i64 n] w fun e w' => e = .returned (.bool (litValid l n)) ∧ w = w' := by
  by_cases a0 : (l != 0) = true
  · by_cases a1 : -n ≤ l
    · go_enter Try.func47, Try.ntmps47
      go_wp2
      go_ret
      refine ⟨ret_bool ?_, rfl⟩
      rw [Bool.eq_iff_iff, litValid_iff]
      simp at a0 ⊢
      omega
    · go_enter Try.func47, Try.ntmps47
      go_wp2
      go_ret
      refine ⟨ret_bool ?_, rfl⟩
      rw [Bool.eq_iff_iff, litValid_iff]
      simp at a0 ⊢
      omega
  · have a2 : (l != 0) = false := by simpa using a0
    clear a0
    go_enter Try.func47, Try.ntmps47
    go_wp2
    go_ret
    refine ⟨ret_bool ?_, rfl⟩
    rw [Bool.eq_iff_iff, litValid_iff]
    simp at a2 ⊢
    omega
set_option maxHeartbeats 400000 in
theorem varsPlace_no (v : Int) (h : v < 1 ∨ 128 < v) (w : World) :
    Calls Try.prog 86 #[.int .i64 v] w fun e w' => e = .returned (.tuple #[.int .i64 0, .int .u64 0, .bool false]) ∧ w = w' := by
  rcases h with h | h
  · go_enter Try.func86, Try.ntmps86
    go_wp2
    go_ret3
    exact ⟨rfl, rfl⟩
  · have h' : ¬ v < 1 := by omega
    go_enter Try.func86, Try.ntmps86
    go_wp2
    go_ret3
    exact ⟨rfl, rfl⟩
set_option maxHeartbeats 1000000 in
theorem theoryCheck_any (n : Int) (lv : Value) (ll : List (List Int)) (w : World) (hL : RowsAt w lv ll) :
    Calls Try.prog 49 #[.agg #[.int .i64 n, lv]] w fun e w' => e = .returned (.int .i64 (theoryErr n ll)) ∧ Ex w w' := by
  obtain ⟨a, cap, rfl, h1, h2, h3⟩ := hL
  unfold maxLen at h2
  by_cases hn : n < 0
  · have : theoryErr n ll = 6 := by simp [theoryErr, hn]
    rw [this]
    go_enter Try.func49, Try.ntmps49
    go_wp2
    go_ret
    exact ⟨rfl, Ex.alloc _ _⟩
  by_cases hn2 : 128 < n
  · have : theoryErr n ll = 6 := by simp [theoryErr, hn2]
    rw [this]
    go_enter Try.func49, Try.ntmps49
    go_wp2
    go_ret
    exact ⟨rfl, Ex.alloc _ _⟩
  by_cases hl : 4096 < ll.length
  · have : theoryErr n ll = 2 := by simp [theoryErr, hn, hn2, hl]
    rw [this]
    go_enter Try.func49, Try.ntmps49
    go_wp2
    go_ret
    exact ⟨rfl, Ex.alloc _ _⟩
  have : theoryErr n ll = rowsErr n ll := by simp [theoryErr, hn, hn2, hl]
  rw [this]
  go_enter Try.func49, Try.ntmps49
  go_wp2
  have hw1 : RowsAt (w.alloc (.cells #[.int .i64 n, .slice a ll.length cap] 24)) (.slice a ll.length cap) ll := RowsAt.ex ⟨a, cap, rfl, h1, by unfold maxLen; exact h2, h3⟩ (Ex.alloc _ _)
  clear h3 this
  go_loop [22] (fun i => ∃ k : Nat, k ≤ ll.length ∧ i = .int .i64 k ∧ Hid (rowsErr n ll = rowsErr n (ll.drop k))) (fun i => ll.length - (intOf i).toNat)
  case atStart => exact ⟨0, Nat.zero_le _, rfl, rfl⟩
  case round =>
    obtain ⟨k, hk, rfl, hd⟩ := hrel
    by_cases hlt : k < ll.length
    · obtain ⟨_, _, hv, _, _, h3⟩ := hw1
      cases hv
      obtain ⟨b, off, rv, rfl, hb, hc, hr⟩ := h3 k hlt
      obtain ⟨ra, rcap, rfl, g1, g2, g3⟩ := hr
      clear h3
      unfold maxLen at g2
      have hd2 : Hid (rowsErr n ll = if clauseErr n (ll.getD k []) = 0 then rowsErr n (ll.drop (k+1)) else clauseErr n (ll.getD k [])) := by
        show _ = _
        rw [hd.out, rowsErr_drop n ll k hlt]
      clear hd
      generalize hrow : ll.getD k [] = row at *
      clear hrow
      by_cases hlen : 128 < row.length
      · have hd3 : Hid (rowsErr n ll = 2) := by
          show _ = _
          rw [hd2.out]; simp [clauseErr, hlen]
        clear hd2
        go_wp2
        go_ret
        exact ⟨ret_int hd3.out.symm, Ex.alloc _ _⟩
      · go_wp2
        go_loop [31] (fun i => ∃ m : Nat, m ≤ row.length ∧ i = .int .i64 m ∧ Hid (∀ j, j < m → litValid (row.getD j 0) n = true)) (fun i => row.length - (intOf i).toNat)
        case atStart => exact ⟨0, Nat.zero_le _, rfl, fun j hj => by omega⟩
        case round =>
          obtain ⟨m, hm, rfl, hall⟩ := hrel
          by_cases hlt2 : m < row.length
          · obtain ⟨rb, roff, rfl, hrb, hrc⟩ := g3 m hlt2
            by_cases hval : litValid (row.getD m 0) n = true
            · have hall2 : Hid (∀ j, j < m + 1 → litValid (row.getD j 0) n = true) := fun j hj => by
                by_cases hjm : j = m
                · subst hjm; exact hval
                · exact hall.out j (by omega)
              clear hall g3
              generalize row.getD m 0 = x at *
              go_wp2_with (go_at_call 45; refine (litValid_any _ _ _).mono ?_; rintro e w' ⟨rfl, rfl⟩)
              go_round
              case rel => exact ⟨m + 1, by omega, by go_num, hall2⟩
              case measure => simp [intOf]; omega
            · have hval' : litValid (row.getD m 0) n = false := by simpa using hval
              have hd3 : Hid (rowsErr n ll = 1) := by
                show _ = _
                rw [hd2.out, clauseErr_bad hlen hlt2 hval']; simp
              clear hall g3 hd2
              clear hval
              generalize row.getD m 0 = x at *
              go_wp2_with (go_at_call 45; refine (litValid_any _ _ _).mono ?_; rintro e w' ⟨rfl, rfl⟩)
              go_ret
              exact ⟨ret_int hd3.out.symm, Ex.alloc _ _⟩
          · have hd3 : Hid (rowsErr n ll = rowsErr n (ll.drop (k+1))) := by
              show _ = _
              rw [hd2.out, if_pos]
              exact clauseErr_ok hlen fun j hj => hall.out j (by omega)
            clear hd2 hall
            go_wp2
            go_round
            case rel => exact ⟨k + 1, by omega, by go_num, hd3⟩
            case measure => simp [intOf]; omega
    · have hd3 : Hid (rowsErr n ll = 0) := by
        show _ = _
        rw [hd.out, List.drop_eq_nil_of_le (by omega)]; rfl
      clear hd
      go_wp2
      go_ret
      exact ⟨ret_int hd3.out.symm, Ex.alloc _ _⟩
end Go.Proofs.Yteagoaiiacideaa
/- Two sets compared as values: the law behind '=='. No condition. -/
namespace Go.Proofs.Yteagoaiiacideaa
set_option linter.unusedSimpArgs false
set_option linter.unusedVariables false
open Go.RowKit
theorem Try.hasU64 : (Try.prog.info? 56).isSome = true := by kernel_rfl
theorem Try.cellsU64 : Try.prog.cellsOf 56 = 1 := by kernel_rfl
@[go_sem] theorem eqSet_run (w : World) (x y x' y' : Int) :
    (Op.equalIn 10000 89 (.agg #[.int .u64 x, .int .u64 y]) (.agg #[.int .u64 x', .int .u64 y'])).run Try.prog w = .ok (x == x' && y == y') w := by
  obtain ⟨i, hi⟩ := Option.isSome_iff_exists.1 Try.hasU64
  show (Op.equalIn (9999 + 1) _ _ _).run _ _ = _
  rw [run_equalIn_array w 9999 _ _ Try.underlying89 hi, Try.cellsU64]
  have e1 : (part 56 #[.int .u64 x, .int .u64 y] 0).run Try.prog w = .ok (.int .u64 x) w := by simp [go_sem, Try.underlying56]
  have e2 : (part 56 #[.int .u64 x', .int .u64 y'] 0).run Try.prog w = .ok (.int .u64 x') w := by simp [go_sem, Try.underlying56]
  have e3 : (part 56 #[.int .u64 x, .int .u64 y] 1).run Try.prog w = .ok (.int .u64 y) w := by simp [go_sem, Try.underlying56]
  have e4 : (part 56 #[.int .u64 x', .int .u64 y'] 1).run Try.prog w = .ok (.int .u64 y') w := by simp [go_sem, Try.underlying56]
  have q : ∀ a b : Int, (Op.equalIn 9999 56 (.int .u64 a) (.int .u64 b)).run Try.prog w = .ok (a == b) w := fun a b => run_equalIn_int w 9998 _ _ _ a b Try.underlying56
  show (Op.eqItems 9999 _ _ _ _ [0, 1]).run _ _ = _
  simp only [Op.eqItems, Sem.run_bind, Nat.zero_mul, Nat.mul_one, e1, e2, e3, e4, q, Result.andThen_ok]
  by_cases h : x = x'
  · subst h
    by_cases h' : y = y'
    · subst h'
      simp [Sem.run_ite, Sem.run_pure, e3, e4, q]
    · simp [Sem.run_ite, Sem.run_pure, e3, e4, q, h']
  · simp [Sem.run_ite, Sem.run_pure, h]
end Go.Proofs.Yteagoaiiacideaa
/- Slices that the call itself makes: what they read as. -/
namespace Go.Proofs.Yteagoaiiacideaa
set_option linter.unusedSimpArgs false
set_option linter.unusedVariables false
open Go.RowKit

theorem ownsRow_ex {w w' : World} {base e size n : Nat} {v : Value} {xs : List Value} (h : w.ownsRow base e size v n xs) (hx : Ex w w') : w'.ownsRow base e size v n xs := by
  refine ⟨h.1, ?_⟩
  rcases h.2 with h | ⟨g, cap, cur, hv, hb, hg, r⟩
  · exact .inl h
  · exact .inr ⟨g, cap, cur, hv, hb, by rw [hx.block g (Array.getElem?_eq_some_iff.1 hg).1]; exact hg, r⟩
theorem ownsRow_base {w : World} {base base' e size n : Nat} {v : Value} {xs : List Value} (h : w.ownsRow base e size v n xs) (hb : base' ≤ base) : w.ownsRow base' e size v n xs := by
  refine ⟨h.1, ?_⟩
  rcases h.2 with h | ⟨g, cap, cur, hv, h1, r⟩
  · exact .inl h
  · exact .inr ⟨g, cap, cur, hv, Nat.le_trans hb h1, r⟩
theorem grown_ex {w0 w w' : World} {row : Option Nat} (h : Ex w0 w) (hg : w.grownBy w' row) (hr : ∀ k, row = some k → w0.heap.size ≤ k) : Ex w0 w' := Below.grown h hg h.size hr
theorem ownsRow_block {w : World} {base e size n : Nat} {v : Value} {xs : List Value} (h : w.ownsRow base e size v n xs) : ∀ k, v.ownBlock = some k → base ≤ k := fun k hk => (h.lt k hk).1
def intsV (l : List Int) : List Value := l.map (Value.int .i64)
theorem intsAt_of_owns {w : World} {base e : Nat} {v : Value} {l : List Int} (h : w.ownsRow base e 1 v l.length (intsV l)) : IntsAt w v l := by
  rcases h.2 with ⟨rfl, hn⟩ | ⟨g, cap, cur, rfl, hb, hg, hc, hm, hs, ht⟩
  · have : l = [] := List.eq_nil_of_length_eq_zero hn
    subst this
    exact IntsAt.nil w
  · refine ⟨some ⟨g, 0, none⟩, cap, rfl, hc, hm, fun k hk => ⟨g, 0, rfl, (Array.getElem?_eq_some_iff.1 hg).1, ?_⟩⟩
    have := h.cells (g := g) rfl k (.int .i64 (l.getD k 0)) (by simp [intsV, getD_getElem hk, List.getElem?_eq_getElem hk])
    have e : (⟨g, 0, none⟩ : Addr).add k = ⟨g, 0 + k, none⟩ := by unfold Addr.add; split <;> simp_all
    rwa [e] at this

/-- A slice of sets in memory. -/
def setsV (l : List (Nat × Nat)) : List Value := l.flatMap fun s => [.int .u64 s.1, .int .u64 s.2]
def SetsAt (w : World) (v : Value) (l : List (Nat × Nat)) : Prop :=
  ∃ a cap, v = .slice a l.length cap ∧ l.length ≤ cap ∧ cap ≤ maxLen ∧
    ∀ k, k < l.length → ∃ b off, a = some ⟨b, off, none⟩ ∧ b < w.heap.size ∧ w.cell? ⟨b, off + k * 2, none⟩ = some (.int .u64 (l.getD k (0, 0)).1) ∧ w.cell? ⟨b, off + k * 2 + 1, none⟩ = some (.int .u64 (l.getD k (0, 0)).2)
theorem SetsAt.ex {w w' : World} {v : Value} {l : List (Nat × Nat)} (h : SetsAt w v l) (hx : Ex w w') : SetsAt w' v l := by
  obtain ⟨a, cap, hv, h1, h2, h3⟩ := h
  refine ⟨a, cap, hv, h1, h2, fun k hk => ?_⟩
  obtain ⟨b, off, ha, hb, hc, hd⟩ := h3 k hk
  exact ⟨b, off, ha, Nat.lt_of_lt_of_le hb hx.size, ex_cell hc hx, ex_cell hd hx⟩
theorem setsV_length (l : List (Nat × Nat)) : (setsV l).length = l.length * 2 := by
  induction l with
  | nil => rfl
  | cons s t ih => simp only [setsV, List.flatMap_cons, List.length_append, List.length_cons, List.length_nil] at *; omega
theorem setsV_get : ∀ (l : List (Nat × Nat)) (k : Nat), k < l.length → (setsV l)[k * 2]? = some (.int .u64 (l.getD k (0, 0)).1) ∧ (setsV l)[k * 2 + 1]? = some (.int .u64 (l.getD k (0, 0)).2)
  | s :: t, 0, _ => ⟨rfl, rfl⟩
  | s :: t, k + 1, h => by
    have ih := setsV_get t k (by simpa using h)
    have e : setsV (s :: t) = .int .u64 s.1 :: .int .u64 s.2 :: setsV t := rfl
    rw [e, show (k + 1) * 2 = k * 2 + 1 + 1 by omega]
    simp only [List.getElem?_cons_succ]
    exact ih
theorem setsAt_of_owns {w : World} {base e : Nat} {v : Value} {l : List (Nat × Nat)} (h : w.ownsRow base e 2 v l.length (setsV l)) : SetsAt w v l := by
  rcases h.2 with ⟨rfl, hn⟩ | ⟨g, cap, cur, rfl, hb, hg, hc, hm, hs, ht⟩
  · have : l = [] := List.eq_nil_of_length_eq_zero hn
    subst this
    exact ⟨none, 0, rfl, Nat.le_refl _, Nat.zero_le _, fun k hk => by cases hk⟩
  · have ad : ∀ j, (⟨g, 0, none⟩ : Addr).add j = ⟨g, 0 + j, none⟩ := fun j => by unfold Addr.add; split <;> simp_all
    refine ⟨some ⟨g, 0, none⟩, cap, rfl, hc, hm, fun k hk => ⟨g, 0, rfl, (Array.getElem?_eq_some_iff.1 hg).1, ?_, ?_⟩⟩
    · have := h.cells (g := g) rfl (k * 2) _ (setsV_get l k hk).1
      rwa [ad] at this
    · have := h.cells (g := g) rfl (k * 2 + 1) _ (setsV_get l k hk).2
      rwa [ad] at this
theorem setsV_append (l : List (Nat × Nat)) (s : Nat × Nat) : setsV (l ++ [s]) = setsV l ++ [.int .u64 s.1, .int .u64 s.2] := by
  simp [setsV, List.flatMap_append]
theorem intsV_append (l : List Int) (x : Int) : intsV (l ++ [x]) = intsV l ++ [.int .i64 x] := by simp [intsV]
theorem cells_new (w : World) (l : List Value) (t : TypeId) : ∀ j u, l[j]? = some u → (w.alloc (.cells l.toArray t)).cell? ((⟨w.heap.size, 0, none⟩ : Addr).add j) = some u := by
  intro j u h
  have ad : (⟨w.heap.size, 0, none⟩ : Addr).add j = ⟨w.heap.size, j, none⟩ := by unfold Addr.add; split <;> simp_all
  rw [ad, World.cell?_alloc_new]
  simpa using h
theorem oneCell_u64 (x y : Int) : ∀ u ∈ [Value.int .u64 x, Value.int .u64 y], u.oneCell' = true := by
  intro u hu; simp at hu; rcases hu with rfl | rfl <;> rfl
theorem oneCell_i64 (l : List Int) : ∀ u ∈ intsV l, u.oneCell' = true := by
  intro u hu; simp [intsV] at hu; obtain ⟨x, _, rfl⟩ := hu; rfl
/-- A block of the call's own, known whole. -/
def OwnB (w : World) (b : Nat) (cs : List Value) (t : TypeId) : Prop := w.heap[b]? = some (.cells cs.toArray t (0, 0))
theorem OwnB.lt {w : World} {b : Nat} {cs : List Value} {t : TypeId} (h : OwnB w b cs t) : b < w.heap.size := (Array.getElem?_eq_some_iff.1 h).1
theorem OwnB.cell {w : World} {b : Nat} {cs : List Value} {t : TypeId} (h : OwnB w b cs t) (i : Nat) : w.cell? ⟨b, i, none⟩ = cs[i]? := by
  unfold OwnB at h; unfold World.cell?; rw [h]; simp
theorem OwnB.free {w : World} {b : Nat} {cs : List Value} {t : TypeId} (h : OwnB w b cs t) (i : Nat) : w.frozen? ⟨b, i, none⟩ = false := by
  unfold OwnB at h; unfold World.frozen?; rw [h]; simp
theorem OwnB.ex {w w' : World} {b : Nat} {cs : List Value} {t : TypeId} (h : OwnB w b cs t) (hx : Ex w w') : OwnB w' b cs t := by
  unfold OwnB at *; rw [hx.block b (Array.getElem?_eq_some_iff.1 h).1]; exact h
theorem OwnB.new (w : World) (cs : List Value) (t : TypeId) : OwnB (w.alloc (.cells cs.toArray t)) w.heap.size cs t := by
  unfold OwnB; show (w.heap.push _)[w.heap.size]? = _; simp
theorem OwnB.set {w : World} {b : Nat} {cs : List Value} {t : TypeId} (h : OwnB w b cs t) (i : Nat) (v : Value) : OwnB (w.setCell ⟨b, i, none⟩ v) b (cs.set i v) t := by
  unfold OwnB at *
  simp [World.setCell, Array.getElem?_modify, h]
theorem OwnB.set_other {w : World} {b c : Nat} {cs : List Value} {t : TypeId} (h : OwnB w b cs t) (i : Nat) (v : Value) (hc : c ≠ b) : OwnB (w.setCell ⟨c, i, none⟩ v) b cs t := by
  unfold OwnB at *
  rw [Below.heap_setCell _ _ _ _ (by exact fun e => hc e.symm)]; exact h
/-! ### append of a slice of integers, nil or not, onto a slice of the call's own -/
theorem Try.infoInt : (Try.prog.info? 3).map (fun i => (i.zero, i.size, i.bytes)) = some (some (.int .i64 0), 1, 8) := by kernel_rfl
def OwnI (w : World) (base : Nat) (v : Value) (l : List Int) : Prop := w.ownsRow base 3 1 v l.length (intsV l)
theorem OwnI.ex {w w' : World} {base : Nat} {v : Value} {l : List Int} (h : OwnI w base v l) (hx : Ex w w') : OwnI w' base v l := ownsRow_ex h hx
theorem OwnI.ints {w : World} {base : Nat} {v : Value} {l : List Int} (h : OwnI w base v l) : IntsAt w v l := intsAt_of_owns h
theorem OwnI.nil (w : World) (base : Nat) : OwnI w base (.slice none 0 0) [] := World.ownsRow_nil _ _ _ _
theorem OwnI.empty {w : World} {base : Nat} (hb : base ≤ w.heap.size) : OwnI (w.alloc (.cells #[] 3)) base (.slice (some ⟨w.heap.size, 0, none⟩) 0 0) [] := World.ownsRow_made w #[] 0 hb (Nat.zero_le _) rfl
theorem OwnI.empty' {w : World} {base B : Nat} (hB : w.heap.size = B) (hb : base ≤ B) : OwnI (w.alloc (.cells #[] 3)) base (.slice (some ⟨B, 0, none⟩) 0 0) [] := hB ▸ OwnI.empty (hB ▸ hb)
theorem OwnI.base {w : World} {base base' : Nat} {v : Value} {l : List Int} (h : OwnI w base v l) (hb : base' ≤ base) : OwnI w base' v l := ownsRow_base h hb
theorem run_append_ints' {w : World} {ty : TypeId} {base : Nat} {v sv : Value} {xs ys : List Int} (hown : OwnI w base v xs) (hsrc : IntsAt w sv ys) (hlen : (xs.length + ys.length) * 8 ≤ 140737488355328) (hbase : base ≤ w.heap.size) :
    ∃ v' w', (Builtin.append_ #[26, 26] ty #[v, sv]).run Try.prog w = .ok v' w' ∧ OwnI w' base v' (xs ++ ys) ∧ w.grownBy w' v.ownBlock ∧ (v'.ownBlock = v.ownBlock ∨ v'.ownBlock = some w.heap.size) := by
  obtain ⟨i0, hi, hz0, hz1, hz2⟩ := info_parts Try.infoInt
  obtain ⟨a, cap, rfl, h1, h2, h3⟩ := hsrc
  cases a with
  | none =>
    have hy : ys = [] := by
      cases ys with
      | nil => rfl
      | cons y t => obtain ⟨b, off, h, _⟩ := h3 0 (by simp); cases h
    subst hy
    refine ⟨v, w, ?_, by simpa using hown, ⟨rfl, rfl, rfl, Nat.le_refl _, fun _ _ _ => rfl⟩, .inl rfl⟩
    simp only [List.length_nil]
    rcases hown.2 with ⟨rfl, _⟩ | ⟨g, cap, cur, rfl, _, _, hnc, _⟩
    · simp [Builtin.append_, run_underlying Try.underlying26, sizeOf, typeInfo, hi, Builtin.lenOf, Builtin.firstCells]
    · simp [Builtin.append_, run_underlying Try.underlying26, sizeOf, typeInfo, hi, Builtin.lenOf, Builtin.firstCells, hnc, storeCells]
  | some ad =>
    have hnews : ∀ j u, (intsV ys)[j]? = some u → w.cell? (ad.add j) = some u := by
      intro j u hu
      have hj : j < ys.length := by
        have := (List.getElem?_eq_some_iff.1 hu).1
        simpa [intsV] using this
      obtain ⟨b, off, hh, hb, hc⟩ := h3 j hj
      cases hh
      have e : (⟨b, off, none⟩ : Addr).add j = ⟨b, off + j, none⟩ := by unfold Addr.add; split <;> simp_all
      rw [e, hc]
      simp [intsV, List.getElem?_eq_getElem hj] at hu
      rw [← hu, getD_getElem hj]
    obtain ⟨v', w', hr, ho, hg, _, hat⟩ := run_append_own_at (P := Try.prog) w base 26 ty 3 i0 (.int .i64 0) 1 8 Try.underlying26 hi hz0 hz1 hz2 rfl (by decide) v _ _ hown ad ys.length cap (intsV ys) (by simp [intsV]) hnews (oneCell_i64 ys) (by unfold maxLen; omega) hlen hbase
    refine ⟨v', w', hr, ?_, hg, hat⟩
    unfold OwnI
    rw [List.length_append]
    simpa [intsV] using ho
theorem run_append_ints {w : World} {ty : TypeId} {base : Nat} {v sv : Value} {xs ys : List Int} (hown : OwnI w base v xs) (hsrc : IntsAt w sv ys) (hlen : (xs.length + ys.length) * 8 ≤ 140737488355328) (hbase : base ≤ w.heap.size) :
    ∃ v' w', (Builtin.append_ #[26, 26] ty #[v, sv]).run Try.prog w = .ok v' w' ∧ OwnI w' base v' (xs ++ ys) ∧ w.grownBy w' v.ownBlock :=
  let ⟨v', w', h1, h2, h3, _⟩ := run_append_ints' hown hsrc hlen hbase
  ⟨v', w', h1, h2, h3⟩
theorem wp_append_ints {w : World} {o : Oper} {a : Act} {K : Act → World → Prop} {Q : Exit → Act → World → Prop} (s x : Operand)
    (ho : o.op = .call { callee := .builtin .append, args := #[s, x], argTypes := #[26, 26] })
    {base : Nat} {v sv : Value} {xs ys : List Int} (hs : a.eval s = v) (hx : a.eval x = sv) (hown : OwnI w base v xs) (hsrc : IntsAt w sv ys) (hlen : (xs.length + ys.length) * 8 ≤ 140737488355328) (hbase : base ≤ w.heap.size)
    (h : ∀ v' w', OwnI w' base v' (xs ++ ys) → w.grownBy w' v.ownBlock → K (a.put o.dst v') w') : o.wp Try.prog a w K Q := by
  obtain ⟨v', w', hr, h2, h3⟩ := run_append_ints (ty := o.type) hown hsrc hlen hbase
  unfold Oper.wp execOp
  simp only [ho, resolve, invoke, builtin, Sem.run_bind, Sem.run_pure, Result.andThen_ok, List.map_toArray, List.map_cons, List.map_nil, hs, hx, hr]
  exact h v' w' h2 h3
theorem wpList_append_ints {w : World} {ops : Array Oper} {rest : List Oper} {o : Oper} {a : Act} {Q : Exit → Act → World → Prop} (hgd : o.guard = none) (s x : Operand)
    (ho : o.op = .call { callee := .builtin .append, args := #[s, x], argTypes := #[26, 26] })
    {base : Nat} {v sv : Value} {xs ys : List Int} (hs : a.eval s = v) (hx : a.eval x = sv) (hown : OwnI w base v xs) (hsrc : IntsAt w sv ys) (hlen : (xs.length + ys.length) * 8 ≤ 140737488355328) (hbase : base ≤ w.heap.size)
    (h : ∀ v' w', OwnI w' base v' (xs ++ ys) → w.grownBy w' v.ownBlock → wpList Try.prog ops Q rest (a.put o.dst v') w') : wpList Try.prog ops Q (o :: rest) a w :=
  wpList_plain hgd fun _ hK => wp_append_ints s x ho hs hx hown hsrc hlen hbase fun v' w' h2 h3 => hK _ _ (h v' w' h2 h3)
/-- As one step of a region that draws. -/
theorem step_append_ints {w : World} {ops : Array Oper} {o : Oper} {a : Act} {K : Act → World → Prop} {Q : Exit → Act → World → Prop} {E : Prop} (hg : o.guard = none) (s x : Operand)
    (ho : o.op = .call { callee := .builtin .append, args := #[s, x], argTypes := #[26, 26] })
    {base : Nat} {v sv : Value} {xs ys : List Int} (hs : a.eval s = v) (hx : a.eval x = sv) (hown : OwnI w base v xs) (hsrc : IntsAt w sv ys) (hlen : (xs.length + ys.length) * 8 ≤ 140737488355328) (hbase : base ≤ w.heap.size)
    (h : ∀ v' w', OwnI w' base v' (xs ++ ys) → w.grownBy w' v.ownBlock → K (a.put o.dst v') w') : if Region.wanted o (yielded ops a.tmps) = true then Oper.wp Try.prog o a w K Q else E := by
  have hw : Region.wanted o (yielded ops a.tmps) = true := by simp [Region.wanted, hg]
  rw [if_pos hw]
  exact wp_append_ints s x ho hs hx hown hsrc hlen hbase h
/-- .. and where the new slice lies. -/
theorem step_append_ints' {w : World} {ops : Array Oper} {o : Oper} {a : Act} {K : Act → World → Prop} {Q : Exit → Act → World → Prop} {E : Prop} (hg : o.guard = none) (s x : Operand)
    (ho : o.op = .call { callee := .builtin .append, args := #[s, x], argTypes := #[26, 26] })
    {base : Nat} {v sv : Value} {xs ys : List Int} (hs : a.eval s = v) (hx : a.eval x = sv) (hown : OwnI w base v xs) (hsrc : IntsAt w sv ys) (hlen : (xs.length + ys.length) * 8 ≤ 140737488355328) (hbase : base ≤ w.heap.size)
    (h : ∀ v' w', OwnI w' base v' (xs ++ ys) → w.grownBy w' v.ownBlock → (v'.ownBlock = v.ownBlock ∨ v'.ownBlock = some w.heap.size) → K (a.put o.dst v') w') : if Region.wanted o (yielded ops a.tmps) = true then Oper.wp Try.prog o a w K Q else E := by
  have hw : Region.wanted o (yielded ops a.tmps) = true := by simp [Region.wanted, hg]
  rw [if_pos hw]
  obtain ⟨v', w', hr, h2, h3, h4⟩ := run_append_ints' (ty := o.type) hown hsrc hlen hbase
  unfold Oper.wp execOp
  simp only [ho, resolve, invoke, builtin, Sem.run_bind, Sem.run_pure, Result.andThen_ok, List.map_toArray, List.map_cons, List.map_nil, hs, hx, hr]
  exact h v' w' h2 h3 h4
/-- Pieces of a slice. -/
theorem IntsAt.take {w : World} {a : Option Addr} {n cap : Nat} {l : List Int} (h : IntsAt w (.slice a n cap) l) {i : Nat} (hi : i ≤ l.length) : IntsAt w (.slice a i cap) (l.take i) := by
  obtain ⟨a', cap', hv, h1, h2, h3⟩ := h
  cases hv
  refine ⟨a, cap, by rw [List.length_take_of_le hi], by rw [List.length_take_of_le hi]; omega, h2, fun k hk => ?_⟩
  rw [List.length_take_of_le hi] at hk
  obtain ⟨b, off, ha, hb, hc⟩ := h3 k (by omega)
  exact ⟨b, off, ha, hb, by rw [hc, getD_getElem (by omega), getD_getElem (by rw [List.length_take_of_le hi]; exact hk), List.getElem_take]⟩
theorem IntsAt.drop {w : World} {a : Option Addr} {n cap : Nat} {l : List Int} (h : IntsAt w (.slice a n cap) l) {i : Nat} (hi : i ≤ l.length) :
    IntsAt w (.slice (if cap = i then a else a.map fun x => ⟨x.block, x.off + i, none⟩) (n - i) (cap - i)) (l.drop i) := by
  obtain ⟨a', cap', hv, h1, h2, h3⟩ := h
  cases hv
  refine ⟨_, _, by rw [List.length_drop], by rw [List.length_drop]; omega, by omega, fun k hk => ?_⟩
  rw [List.length_drop] at hk
  obtain ⟨b, off, ha, hb, hc⟩ := h3 (i + k) (by omega)
  refine ⟨b, off + i, ?_, hb, ?_⟩
  · rw [if_neg (by omega), ha]
    simp
  · rw [show off + i + k = off + (i + k) by omega, hc, getD_getElem (by omega), getD_getElem (by rw [List.length_drop]; omega), List.getElem_drop]
theorem eraseIdx_pieces {l : List Int} {i : Nat} : l.eraseIdx i = l.take i ++ l.drop (i + 1) := List.eraseIdx_eq_take_drop_succ ..
theorem intsAt_of_block {w : World} {g : Nat} {l : List Int} {t : TypeId} (h : OwnB w g (intsV l) t) (hm : l.length ≤ maxLen) : IntsAt w (.slice (some ⟨g, 0, none⟩) l.length l.length) l :=
  ⟨_, _, rfl, Nat.le_refl _, hm, fun k hk => ⟨g, 0, rfl, h.lt, by rw [Nat.zero_add, h.cell, intsV, List.getElem?_map, List.getElem?_eq_getElem hk, getD_getElem hk]; rfl⟩⟩
theorem intsAt_fresh (w : World) (x : Int) (t : TypeId) : IntsAt (w.alloc (.cells #[.int .i64 x] t)) (.slice (some ⟨w.heap.size, 0, none⟩) 1 1) [x] :=
  intsAt_of_block (l := [x]) (OwnB.new w [.int .i64 x] t) (by show 1 ≤ maxLen; decide)
theorem OwnI.setOther {w : World} {base b : Nat} {v : Value} {l : List Int} (h : OwnI w base v l) (hb : b < base) (i : Nat) (u : Value) : OwnI (w.setCell ⟨b, i, none⟩ u) base v l :=
  ownsRow_setCell_below h hb u
theorem own_grown {w w' : World} {row : Option Nat} {b : Nat} {cs : List Value} {t : TypeId} (h : OwnB w b cs t) (hg : w.grownBy w' row) (hr : row ≠ some b) : OwnB w' b cs t := by
  unfold OwnB at *; rw [hg.block b (Array.getElem?_eq_some_iff.1 h).1 (fun e => hr e.symm)]; exact h
end Go.Proofs.Yteagoaiiacideaa
/- Sets and lists of literals: each Go function returns what the plain definition says, and old memory stays. No condition but that the arguments can be read. -/
namespace Go.Proofs.Yteagoaiiacideaa
set_option linter.unusedSimpArgs false
set_option linter.unusedVariables false
open Go.RowKit

set_option maxHeartbeats 2000000 in
theorem r05Check_any (n : Int) (lv : Value) (ll : List (List Int)) (w : World) (hL : RowsAt w lv ll) :
    Calls Try.prog 36 #[.agg #[.int .i64 n, lv]] w fun e w' => e = .returned (.int .i64 (theoryErr n ll)) ∧ Ex w w' := by
  obtain ⟨a, cap, rfl, h1, h2, h3⟩ := hL
  unfold maxLen at h2
  by_cases hn : n < 0
  · have : theoryErr n ll = 6 := by simp [theoryErr, hn]
    rw [this]
    go_enter Try.func36, Try.ntmps36
    go_wp2
    go_ret
    exact ⟨rfl, Ex.alloc _ _⟩
  by_cases hn2 : 128 < n
  · have : theoryErr n ll = 6 := by simp [theoryErr, hn2]
    rw [this]
    go_enter Try.func36, Try.ntmps36
    go_wp2
    go_ret
    exact ⟨rfl, Ex.alloc _ _⟩
  by_cases hl : 4096 < ll.length
  · have : theoryErr n ll = 2 := by simp [theoryErr, hn, hn2, hl]
    rw [this]
    go_enter Try.func36, Try.ntmps36
    go_wp2
    go_ret
    exact ⟨rfl, Ex.alloc _ _⟩
  have : theoryErr n ll = rowsErr n ll := by simp [theoryErr, hn, hn2, hl]
  rw [this]
  have hR : RowsAt w (.slice a ll.length cap) ll := ⟨a, cap, rfl, h1, by unfold maxLen; exact h2, h3⟩
  clear h3 this
  go_enter Try.func36, Try.ntmps36
  go_wp2
  generalize hw1 : w.alloc (.cells #[.int .i64 n, .slice a ll.length cap] 24) = w1
  have hx1 : Ex w w1 := hw1 ▸ Ex.alloc _ _
  have c0 : w1.cell? ⟨w.heap.size, 0, none⟩ = some (.int .i64 n) := by rw [← hw1]; simp
  have c1 : w1.cell? ⟨w.heap.size, 1, none⟩ = some (.slice a ll.length cap) := by rw [← hw1]; simp
  replace hR := hR.ex hx1
  clear hw1
  go_loopw [3] (fun i wr => ∃ k : Nat, k ≤ ll.length ∧ i = .int .i64 k ∧ Hid (rowsErr n ll = rowsErr n (ll.drop k)) ∧ Ex w1 wr) (fun i _ => ll.length - (intOf i).toNat)
  case atStart => exact ⟨0, Nat.zero_le _, rfl, rfl, Ex.refl _⟩
  case round =>
    obtain ⟨k, hk, rfl, hd, hxr⟩ := hrel
    have c0r := (hxr.cell (p := ⟨w.heap.size, 0, none⟩) (cell_lt c0)).trans c0
    have c1r := (hxr.cell (p := ⟨w.heap.size, 1, none⟩) (cell_lt c1)).trans c1
    by_cases hlt : k < ll.length
    · have hRr := hR.ex hxr
      obtain ⟨_, _, hv, _, _, h3⟩ := hRr
      cases hv
      obtain ⟨b, off, rv, rfl, hb, hc, hr⟩ := h3 k hlt
      have hr0 := hr
      obtain ⟨ra, rcap, rfl, g1, g2, g3⟩ := hr
      clear h3 g3
      unfold maxLen at g2
      have hd2 : Hid (rowsErr n ll = if clauseErr n (ll.getD k []) = 0 then rowsErr n (ll.drop (k+1)) else clauseErr n (ll.getD k [])) := by
        show _ = _
        rw [hd.out, rowsErr_drop n ll k hlt]
      clear hd
      generalize hrow : ll.getD k [] = row at *
      clear hrow
      by_cases hlen : 128 < row.length
      · have hd3 : Hid (rowsErr n ll = 2) := by
          show _ = _
          rw [hd2.out]; simp [clauseErr, hlen]
        clear hd2
        go_wp2
        go_ret
        exact ⟨ret_int hd3.out.symm, hx1.trans hxr⟩
      · go_wp2
        obtain ⟨wk, rfl⟩ : ∃ wo : World, wo = wr := ⟨_, rfl⟩
        go_loopw [4] (fun i wr => ∃ m : Nat, m ≤ row.length ∧ i = .int .i64 m ∧ Hid (∀ j, j < m → litValid (row.getD j 0) n = true) ∧ Ex wk wr) (fun i _ => row.length - (intOf i).toNat)
        case atStart => exact ⟨0, Nat.zero_le _, rfl, fun j hj => by omega, Ex.refl _⟩
        case round =>
          obtain ⟨m, hm, rfl, hall, hxr2⟩ := hrel
          have hcs := (hxr2.cell (p := ⟨b, off + k, none⟩) hb).trans hc
          have c0s := (hxr2.cell (p := ⟨w.heap.size, 0, none⟩) (cell_lt c0r)).trans c0r
          have c1s := (hxr2.cell (p := ⟨w.heap.size, 1, none⟩) (cell_lt c1r)).trans c1r
          by_cases hlt2 : m < row.length
          · have hr2 := hr0.ex hxr2
            obtain ⟨_, _, hv, _, _, g3⟩ := hr2
            cases hv
            obtain ⟨rb, roff, rfl, hrb, hrc⟩ := g3 m hlt2
            clear g3
            have hcx := ext_cell hcs
            have c0x := ext_cell c0s
            have c1x := ext_cell c1s
            have hrx := ext_cell hrc
            by_cases hval : litValid (row.getD m 0) n = true
            · have hall2 : Hid (∀ j, j < m + 1 → litValid (row.getD j 0) n = true) := fun j hj => by
                by_cases hjm : j = m
                · subst hjm; exact hval
                · exact hall.out j (by omega)
              clear hall
              generalize row.getD m 0 = x at *
              go_wp2
              refine wp_region_quiet_ext (by kernel_rfl) (by kernel_rfl) ?_
              repeat (go_big_quiet_step ((go_at_call 47; exact Calls.quiet_ext_same (r05Valid_any _ _ (by omega) (by omega) _))))
              refine wpQuiet_nil ?_
              intro w2 hx2
              go_wp2
              go_roundw
              case rel => exact ⟨m + 1, by omega, by go_num, hall2, hxr2.trans hx2⟩
              case measure => simp [intOf]; omega
            · have hval' : litValid (row.getD m 0) n = false := by simpa using hval
              have hd3 : Hid (rowsErr n ll = 1) := by
                show _ = _
                rw [hd2.out, clauseErr_bad hlen hlt2 hval']; simp
              clear hall hd2
              clear hval
              generalize row.getD m 0 = x at *
              go_wp2
              refine wp_region_quiet_ext (by kernel_rfl) (by kernel_rfl) ?_
              repeat (go_big_quiet_step ((go_at_call 47; exact Calls.quiet_ext_same (r05Valid_any _ _ (by omega) (by omega) _))))
              refine wpQuiet_nil ?_
              intro w2 hx2
              go_wp2
              go_ret
              exact ⟨ret_int hd3.out.symm, hx1.trans (hxr.trans (hxr2.trans hx2))⟩
          · have hd3 : Hid (rowsErr n ll = rowsErr n (ll.drop (k+1))) := by
              show _ = _
              rw [hd2.out, if_pos]
              exact clauseErr_ok hlen fun j hj => hall.out j (by omega)
            clear hd2 hall
            go_wp2
            go_roundw
            case rel => exact ⟨k + 1, by omega, by go_num, hd3, hxr.trans hxr2⟩
            case measure => simp [intOf]; omega
    · have hd3 : Hid (rowsErr n ll = 0) := by
        show _ = _
        rw [hd.out, List.drop_eq_nil_of_le (by omega)]; rfl
      clear hd
      go_wp2
      go_ret
      exact ⟨ret_int hd3.out.symm, hx1.trans hxr⟩
end Go.Proofs.Yteagoaiiacideaa
/- Sets of variables: each Go function returns what the plain definition says, and old memory stays. No condition but that the words fit. -/
namespace Go.Proofs.Yteagoaiiacideaa
set_option linter.unusedSimpArgs false
set_option linter.unusedVariables false
open Go.RowKit

theorem wrap_bit {u : Nat} (h : u < 64) : IntKind.u64.wrap (2 ^ u) = ((2 ^ u : Nat) : Int) := by
  have h1 : 2 ^ u < 2 ^ 64 := Nat.pow_lt_pow_right (by decide) h
  have e : ((2 : Int) ^ u) = ((2 ^ u : Nat) : Int) := by simp
  rw [IntKind.wrap_u64, e]
  generalize 2 ^ u = p at *
  omega
/-- The bit of a variable in its word. -/
def bitOf (v : Int) : Nat := 2 ^ ((v - 1) % 64).toNat
theorem bitOf_lt (v : Int) : bitOf v < 18446744073709551616 := by
  have : bitOf v < 2 ^ 64 := Nat.pow_lt_pow_right (by decide) (by omega)
  omega
theorem and_two_pow' (x k : Nat) : x &&& 2 ^ k = if x.testBit k then 2 ^ k else 0 := by
  apply Nat.eq_of_testBit_eq
  intro i
  rw [Nat.testBit_and, Nat.testBit_two_pow]
  by_cases h : k = i
  · subst h
    cases hx : x.testBit k <;> simp
  · cases hx : x.testBit k <;> simp [h, Nat.testBit_two_pow]
theorem and_bit (x k : Nat) : (((x &&& 2 ^ k : Nat) : Int) != 0) = x.testBit k := by
  have hp : 0 < 2 ^ k := Nat.pow_pos (by decide)
  rw [and_two_pow']
  generalize 2 ^ k = p at *
  cases x.testBit k
  · simp
  · simp; omega
set_option maxHeartbeats 400000 in
theorem varsPlace_any (v : Int) (h1 : 1 ≤ v) (h2 : v ≤ 128) (w : World) :
    Calls Try.prog 86 #[.int .i64 v] w fun e w' => e = .returned (.tuple #[.int .i64 ((v - 1) / 64), .int .u64 (bitOf v), .bool true]) ∧ w = w' := by
  have hw := wrap_bit (u := ((v - 1) % 64).toNat) (by omega)
  have hw2 : Hid (IntKind.u64.wrap (2 ^ ((v - 1) % 64).toNat) = (bitOf v : Int)) := hw
  generalize bitOf v = p at *
  clear hw
  go_enter Try.func86, Try.ntmps86
  go_wp2
  go_ret3
  refine ⟨?_, rfl⟩
  show Ending.returned (.tuple #[.int .i64 ((v - 1) / 64), .int .u64 (IntKind.u64.wrap (2 ^ ((v - 1) % 64).toNat)), .bool true]) = _
  rw [hw2.out]
/-- A set with one more variable. -/
def withV (s : Nat × Nat) (v : Int) : Nat × Nat := if v ≤ 64 then (s.1 ||| bitOf v, s.2) else (s.1, s.2 ||| bitOf v)
set_option maxHeartbeats 1000000 in
theorem varsWith_any (s : Nat × Nat) (v : Int) (h1 : 1 ≤ v) (h2 : v ≤ 128) (hx : s.1 < 18446744073709551616) (hy : s.2 < 18446744073709551616) (w : World) :
    Calls Try.prog 80 #[setV s.1 s.2, .int .i64 v] w fun e w' => e = .returned (setV (withV s v).1 (withV s v).2) ∧ Ex w w' := by
  obtain ⟨x, y⟩ := s
  unfold setV
  simp only at hx hy ⊢
  have hP : Hid _ := varsPlace_any v h1 h2
  by_cases h3 : v ≤ 64
  · have hq : (v - 1) / 64 = 0 := by omega
    have hor := u64_or_nat x (bitOf v) hx (bitOf_lt v)
    have e1 : withV (x, y) v = (x ||| bitOf v, y) := if_pos h3
    rw [e1]
    rw [hq] at hP
    simp only
    clear hx hy e1 hq
    generalize bitOf v = p at *
    generalize x ||| p = x' at *
    go_enter Try.func80, Try.ntmps80
    go_wp2_with (go_at_call 86; refine (hP.out _).mono ?_; rintro e w' ⟨rfl, rfl⟩)
    refine bodyPost_ret (v := .agg #[.int .u64 x', .int .u64 y]) (by simp [results, Try.results80, go_sem]) rfl ⟨rfl, ?_⟩
    repeat (first | exact Ex.refl _ | exact Ex.alloc _ _ | refine Ex.setCell ?_ (by simp) _ | refine Ex.alloc' ?_ _)
  · have hq : (v - 1) / 64 = 1 := by omega
    have hor := u64_or_nat y (bitOf v) hy (bitOf_lt v)
    have e1 : withV (x, y) v = (x, y ||| bitOf v) := if_neg h3
    rw [e1]
    rw [hq] at hP
    simp only
    clear hx hy e1 hq
    generalize bitOf v = p at *
    generalize y ||| p = y' at *
    go_enter Try.func80, Try.ntmps80
    go_wp2_with (go_at_call 86; refine (hP.out _).mono ?_; rintro e w' ⟨rfl, rfl⟩)
    refine bodyPost_ret (v := .agg #[.int .u64 x, .int .u64 y']) (by simp [results, Try.results80, go_sem]) rfl ⟨rfl, ?_⟩
    repeat (first | exact Ex.refl _ | exact Ex.alloc _ _ | refine Ex.setCell ?_ (by simp) _ | refine Ex.alloc' ?_ _)
set_option maxHeartbeats 1000000 in
theorem varsHas_any (x y : Nat) (hx : x < 18446744073709551616) (hy : y < 18446744073709551616) (v : Int) (w : World) :
    Calls Try.prog 87 #[setV x y, .int .i64 v] w fun e w' => e = .returned (.bool (hasB x y v)) ∧ Ex w w' := by
  unfold setV
  by_cases hv : 1 ≤ v ∧ v ≤ 128
  · obtain ⟨h1, h2⟩ := hv
    have hP : Hid _ := varsPlace_any v h1 h2
    by_cases h3 : v ≤ 64
    · have hand := u64_and_nat x (bitOf v) hx (bitOf_lt v)
      have hb : (((x &&& bitOf v : Nat) : Int) != 0) = hasB x y v := by rw [hasB_fst x y h1 h3]; exact and_bit _ _
      have Hb : Hid _ := hb
      have hq : (v - 1) / 64 = 0 := by omega
      rw [hq] at hP
      clear hx hy hb hq
      generalize bitOf v = p at *
      generalize hasB x y v = r at *
      generalize x &&& p = z at *
      have hz : ((z : Int) != 0) = r := Hb.out
      go_enter Try.func87, Try.ntmps87
      go_wp2_with (go_at_call 86; refine (hP.out _).mono ?_; rintro e w' ⟨rfl, rfl⟩)
      go_ret
      exact ⟨rfl, Ex.alloc _ _⟩
    · have hand := u64_and_nat y (bitOf v) hy (bitOf_lt v)
      have hb : (((y &&& bitOf v : Nat) : Int) != 0) = hasB x y v := by rw [hasB_snd x y h2 h3]; exact and_bit _ _
      have Hb : Hid _ := hb
      have hq : (v - 1) / 64 = 1 := by omega
      rw [hq] at hP
      clear hx hy hb hq
      generalize bitOf v = p at *
      generalize hasB x y v = r at *
      generalize y &&& p = z at *
      have hz : ((z : Int) != 0) = r := Hb.out
      go_enter Try.func87, Try.ntmps87
      go_wp2_with (go_at_call 86; refine (hP.out _).mono ?_; rintro e w' ⟨rfl, rfl⟩)
      go_ret
      exact ⟨rfl, Ex.alloc _ _⟩
  · have hP : Hid _ := varsPlace_no v (by omega)
    have hb : hasB x y v = false := by
      by_cases h : 1 ≤ v
      · exact hasB_high x y (by omega)
      · exact hasB_low x y h
    rw [hb]
    go_enter Try.func87, Try.ntmps87
    go_wp2_with (go_at_call 86; refine (hP.out _).mono ?_; rintro e w' ⟨rfl, rfl⟩)
    go_ret
    exact ⟨rfl, Ex.alloc _ _⟩
set_option maxHeartbeats 1000000 in
theorem litHolds_any (x y : Nat) (hx : x < 18446744073709551616) (hy : y < 18446744073709551616) (l : Int) (w : World) :
    Calls Try.prog 82 #[setV x y, .int .i64 l] w fun e w' => e = .returned (.bool (holdsB x y l)) ∧ Ex w w' := by
  have hr := litVar_range l
  have HH : Hid (∀ wa, Calls Try.prog 87 #[.agg #[.int .u64 x, .int .u64 y], .int .i64 (litVar l)] wa fun e w' => e = .returned (.bool (hasB x y (litVar l))) ∧ Ex wa w') := fun wa => varsHas_any x y hx hy (litVar l) wa
  by_cases h0 : 0 < litVar l
  · have hne : (litVar l != 0) = true := by simp; omega
    have e1 : holdsB x y l = (hasB x y (litVar l) == decide (0 < l)) := by unfold holdsB; rw [hne, Bool.true_and]
    rw [e1]; clear e1
    unfold setV
    have s0 : (w.alloc (.cells #[.int .u64 x, .int .u64 y] 89)).cell? ⟨w.heap.size, 0, none⟩ = some (.int .u64 x) := by simp
    have s1 : (w.alloc (.cells #[.int .u64 x, .int .u64 y] 89)).cell? ⟨w.heap.size, 1, none⟩ = some (.int .u64 y) := by simp
    have s0x := ext_cell s0
    have s1x := ext_cell s1
    have HV : Hid (∀ wa, Calls Try.prog 61 #[.int .i64 l] wa fun e w' => e = .returned (.int .i64 (litVar l)) ∧ wa = w') := fun wa => litVar_any l wa
    generalize hasB x y (litVar l) = r at *
    generalize litVar l = v at *
    go_enter Try.func82, Try.ntmps82
    go_wp2
    refine wp_region_quiet_ext (by kernel_rfl) (by kernel_rfl) ?_
    repeat (go_big_quiet_step ((first | (go_at_call 61; exact Calls.quiet_ext_same (HV.out _)) | (go_at_call 87; exact Calls.quiet_ext (HH.out _)))))
    refine wpQuiet_nil ?_
    intro w2 hx2
    go_wp2
    go_ret
    exact ⟨rfl, (Ex.alloc _ _).trans hx2⟩
  · have hz : litVar l = 0 := by omega
    have e1 : holdsB x y l = false := by unfold holdsB; rw [hz]; rfl
    rw [e1]; clear e1
    unfold setV
    have HV : Hid (∀ wa, Calls Try.prog 61 #[.int .i64 l] wa fun e w' => e = .returned (.int .i64 0) ∧ wa = w') := fun wa => by
      have := litVar_any l wa
      rwa [hz] at this
    clear HH hz hr
    go_enter Try.func82, Try.ntmps82
    go_wp2
    refine wp_region_quiet_ext (by kernel_rfl) (by kernel_rfl) ?_
    repeat (go_big_quiet_step ((first | (go_at_call 61; exact Calls.quiet_ext_same (HV.out _)))))
    refine wpQuiet_nil ?_
    intro w2 hx2
    go_wp2
    go_ret
    exact ⟨rfl, (Ex.alloc _ _).trans hx2⟩
end Go.Proofs.Yteagoaiiacideaa
/- slices.Clone and slices.Delete at []int: what each call returns. -/
namespace Go.Proofs.Yteagoaiiacideaa
set_option linter.unusedSimpArgs false
set_option linter.unusedVariables false
open Go.RowKit

/-- Cells put one by one. -/
def putL : List Value → Nat → List Value → List Value
  | cs, _, [] => cs
  | cs, o, v :: vs => putL (cs.set o v) (o + 1) vs
theorem putL_eq : ∀ (vs cs : List Value) (o : Nat), o + vs.length ≤ cs.length → putL cs o vs = cs.take o ++ vs ++ cs.drop (o + vs.length)
  | [], cs, o, _ => by simp [putL]
  | v :: vs, cs, o, h => by
    simp only [putL]
    rw [putL_eq vs _ _ (by simp at h ⊢; omega)]
    have ho : o < cs.length := by simp at h; omega
    have e1 : (cs.set o v).take (o + 1) = cs.take o ++ [v] := by
      rw [List.take_succ_eq_append_getElem (by simpa using ho)]
      simp [List.take_set_of_le]
    have e2 : (cs.set o v).drop (o + 1 + vs.length) = cs.drop (o + (v :: vs).length) := by
      rw [List.drop_set_of_lt (by omega)]
      simp only [List.length_cons]; congr 1; omega
    rw [e1, e2]
    simp
theorem putL_length : ∀ (vs cs : List Value) (o : Nat), (putL cs o vs).length = cs.length
  | [], _, _ => rfl
  | v :: vs, cs, o => by simp only [putL]; rw [putL_length vs]; simp
theorem OwnB.setCells {b : Nat} {t : TypeId} : ∀ (vs : List Value) (o : Nat) {w : World} {cs : List Value}, OwnB w b cs t → OwnB (w.setCells b o vs) b (putL cs o vs) t
  | [], _, _, _, h => h
  | v :: vs, o, _, _, h => OwnB.setCells vs (o + 1) (h.set o v)
theorem Ex.setCells {b : Nat} : ∀ (vs : List Value) (o : Nat) {w w' : World}, Ex w w' → w.heap.size ≤ b → Ex w (w'.setCells b o vs)
  | [], _, _, _, h, _ => h
  | v :: vs, o, _, _, h, hb => Ex.setCells vs (o + 1) (h.setCell hb v) hb
/-- A world in which one block alone may have been written, beside new ones. -/
def Wrote (b : Nat) (w w' : World) : Prop := w.grownBy w' (some b)
theorem Wrote.ex {b : Nat} {w0 w w' : World} (h : Ex w0 w) (hw : Wrote b w w') (hb : w0.heap.size ≤ b) : Ex w0 w' := grown_ex h hw (by intro k hk; cases hk; exact hb)
theorem wrote_setCells {b : Nat} : ∀ (vs : List Value) (o : Nat) {w w' : World}, Wrote b w w' → Wrote b w (w'.setCells b o vs)
  | [], _, _, _, h => h
  | v :: vs, o, w, w', h => wrote_setCells vs (o + 1) (w' := w'.setCell ⟨b, o, none⟩ v) ⟨h.os, h.tape, h.output, by simpa [World.setCell] using h.size, fun k hk hne => by
      rw [Below.heap_setCell _ _ _ _ (fun e => hne (by rw [e]))]; exact h.block k hk hne⟩
theorem wrote_drew {b : Nat} {w : World} : Wrote b w w.drew := ⟨rfl, rfl, rfl, Nat.le_refl _, fun _ _ _ => rfl⟩
/-- A list of the call's own that is not nil, its block whole. -/
theorem OwnI.form {w : World} {base : Nat} {v : Value} {l : List Int} (h : OwnI w base v l) (hl : 0 < l.length) :
    ∃ g cap rest, v = .slice (some ⟨g, 0, none⟩) l.length cap ∧ base ≤ g ∧ OwnB w g (intsV l ++ rest) 3 ∧ l.length + rest.length = cap ∧ cap ≤ maxLen := by
  rcases h.2 with ⟨rfl, h0⟩ | ⟨g, cap, cur, hv, hb, hg, hc, hm, hs, ht⟩
  · omega
  · refine ⟨g, cap, cur.toList.drop l.length, hv, hb, ?_, ?_, hm⟩
    · unfold OwnB
      rw [show intsV l = cur.toList.take l.length by rw [← ht]; simp, List.take_append_drop]
      simpa using hg
    · simp only [Nat.mul_one] at hs
      have : cur.toList.length = cap := by rw [Array.length_toList]; exact hs
      rw [List.length_drop, this]; omega
theorem OwnI.of_block {w : World} {base g cap : Nat} {l : List Int} {cs : List Value} (hb : base ≤ g) (h : OwnB w g cs 3) (hc : cs.length = cap) (hm : cap ≤ maxLen) (hl : l.length ≤ cap) (ht : cs.take l.length = intsV l) :
    OwnI w base (.slice (some ⟨g, 0, none⟩) l.length cap) l :=
  ⟨by simp [intsV], .inr ⟨g, cap, cs.toArray, rfl, hb, h, hl, hm, by simp [hc], by simpa using ht⟩⟩

set_option maxHeartbeats 1000000 in
theorem slicesClone_any (av : Value) (l : List Int) (w : World) (hl : IntsAt w av l) (hb : l.length * 8 ≤ 140737488355328) :
    Calls Try.prog 55 #[av] w fun e w' => ∃ v, e = .returned v ∧ OwnI w' w.heap.size v l ∧ Ex w w' := by
  have hl0 := hl
  obtain ⟨a, cap, rfl, h1, h2, h3⟩ := hl
  have hnil := fun (w : World) => Lib.run_eql_slice_nil (P := Try.prog) w 26 3 a l.length cap 0 0 Try.underlying26
  cases a with
  | none =>
    have hy : l = [] := by
      cases l with
      | nil => rfl
      | cons y t => obtain ⟨b, off, h, _⟩ := h3 0 (by simp); cases h
    subst hy
    clear h3
    simp only [List.length_nil, Option.isNone_none] at hnil ⊢
    go_enter Try.func55, Try.ntmps55
    go_wp2
    go_ret
    exact ⟨_, rfl, OwnI.nil _ _, Ex.refl _⟩
  | some ad =>
    clear h3
    go_enter Try.func55, Try.ntmps55
    go_wp2_with (at_builtin; refine wpList_append_ints rfl (.tmp 5) (.tmp 6) rfl rfl rfl (OwnI.empty' (base := w.heap.size) rfl (Nat.le_refl _)) (hl0.ex (Ex.alloc _ _)) ?c1 ?c2 ?_)
    case c1 => simpa using hb
    case c2 => simp
    intro v' w5 hown hg
    have hx : Ex w w5 := grown_ex (Ex.alloc _ _) hg (by intro k hk; cases hk; exact Nat.le_refl _)
    have hown2 : OwnI w5 w.heap.size v' l := hown
    clear hown hg
    go_wp2
    go_ret
    exact ⟨_, rfl, hown2, hx⟩
end Go.Proofs.Yteagoaiiacideaa
/- slices.IndexFunc and slices.ContainsFunc with a closure: whether an element has the property; old memory stays. No condition. -/
namespace Go.Proofs.Yteagoaiiacideaa
set_option linter.unusedSimpArgs false
set_option linter.unusedVariables false
open Go.RowKit
/-- What IndexFunc hands back: an index that is not below 0 exactly if an element has the property. -/
def IdxRet (w : World) (b : Bool) (e : Ending) (w' : World) : Prop := ∃ r : Int, e = .returned (.int .i64 r) ∧ decide (0 ≤ r) = b ∧ Ex w w'
set_option maxHeartbeats 1000000 in
theorem idx_lit_Any1 (lv cv : Value) (l : List Int) (p : Int → Bool) (w : World) (hl : IntsAt w lv l)
    (hf : ∀ (wa : World) (x : Int), x ∈ l → Ex w wa → Calls Try.prog 81 #[.int .i64 x, cv] wa fun e w' => e = .returned (.bool (p x)) ∧ Ex wa w') :
    Calls Try.prog 72 #[lv, .func (.func 81) #[] #[cv]] w (IdxRet w (l.any p)) := by
  have hl0 := hl
  obtain ⟨a, cap, rfl, h1, h2, h3⟩ := hl
  unfold maxLen at h2
  clear h3
  have HF : Hid (∀ (wa : World) (k : Nat), k < l.length → Ex w wa → Calls Try.prog 81 #[.int .i64 (l.getD k 0), cv] wa fun e w' => e = .returned (.bool (p (l.getD k 0))) ∧ Ex wa w') := fun wa k hk hx => hf wa _ (by rw [getD_getElem hk]; exact List.getElem_mem hk) hx
  have HY : Hid (∀ k, k < l.length → p (l.getD k 0) = true → l.any p = true) := fun k hk h => any_of_getD hk h
  have HN : Hid ((∀ k, k < l.length → p (l.getD k 0) = false) → l.any p = false) := fun h => not_any_of_getD h
  clear hf
  generalize l.any p = B at *
  go_enter Try.func72, Try.ntmps72
  go_wp2
  go_loopw [8] (fun i wr => ∃ k : Nat, k ≤ l.length ∧ i = .int .i64 k ∧ Hid (∀ j, j < k → p (l.getD j 0) = false) ∧ Ex w wr) (fun i _ => l.length - (intOf i).toNat)
  case atStart => exact ⟨0, Nat.zero_le _, rfl, fun j hj => (by omega), Ex.refl _⟩
  case round =>
    obtain ⟨k, hk, rfl, hd, hxr⟩ := hrel
    by_cases hlt : k < l.length
    · obtain ⟨_, _, hv, _, _, h3⟩ := hl0.ex hxr
      cases hv
      obtain ⟨b, off, rfl, hb, hc⟩ := h3 k hlt
      clear h3
      have hfk := HF.out wr k hlt hxr
      by_cases hp : p (l.getD k 0) = true
      · have hB : Hid (B = true) := HY.out k hlt hp
        rw [hp] at hfk
        have HK : Hid _ := hfk
        clear hfk hp HF HY HN hd
        generalize l.getD k 0 = x at *
        go_wp2_with fail
        refine Calls.mono HK.out ?_
        rintro e w2 ⟨rfl, hx2⟩
        go_wp2
        go_ret
        exact ⟨k, rfl, by rw [hB.out]; simp, hxr.trans hx2⟩
      · have hp' : p (l.getD k 0) = false := by simpa using hp
        have hd2 : Hid (∀ j, j < k + 1 → p (l.getD j 0) = false) := fun j hj => by
          by_cases hjk : j = k
          · subst hjk; exact hp'
          · exact hd.out j (by omega)
        rw [hp'] at hfk
        have HK : Hid _ := hfk
        clear hfk hp hp' hd
        generalize l.getD k 0 = x at *
        go_wp2_with fail
        refine Calls.mono HK.out ?_
        rintro e w2 ⟨rfl, hx2⟩
        go_wp2
        go_roundw
        case rel => exact ⟨k + 1, by omega, by go_num, hd2, hxr.trans hx2⟩
        case measure => simp [intOf]; omega
    · have hB : Hid (B = false) := HN.out fun j hj => hd.out j (by omega)
      clear hd HF HY HN
      go_wp2
      go_ret
      exact ⟨-1, rfl, by rw [hB.out]; simp, hxr⟩
theorem has_lit_Any1 (lv cv : Value) (l : List Int) (p : Int → Bool) (w : World) (hl : IntsAt w lv l)
    (hf : ∀ (wa : World) (x : Int), x ∈ l → Ex w wa → Calls Try.prog 81 #[.int .i64 x, cv] wa fun e w' => e = .returned (.bool (p x)) ∧ Ex wa w') :
    Calls Try.prog 56 #[lv, .func (.func 81) #[] #[cv]] w fun e w' => e = .returned (.bool (l.any p)) ∧ Ex w w' := by
  have HI := idx_lit_Any1 lv cv l p w hl hf
  have HK : Hid _ := HI
  obtain ⟨a, cap, rfl, h1, h2, h3⟩ := hl
  clear h3 HI hf
  generalize l.any p = B at *
  go_enter Try.func56, Try.ntmps56
  go_wp2_with fail
  refine Calls.mono HK.out ?_
  rintro e w2 ⟨r, rfl, hr, hx2⟩
  go_wp2
  go_ret
  exact ⟨ret_bool (by simp), hx2⟩
set_option maxHeartbeats 1000000 in
theorem idx_lit_valid1 (lv cv : Value) (l : List Int) (p : Int → Bool) (w : World) (hl : IntsAt w lv l)
    (hf : ∀ (wa : World) (x : Int), x ∈ l → Ex w wa → Calls Try.prog 74 #[.int .i64 x, cv] wa fun e w' => e = .returned (.bool (p x)) ∧ Ex wa w') :
    Calls Try.prog 72 #[lv, .func (.func 74) #[] #[cv]] w (IdxRet w (l.any p)) := by
  have hl0 := hl
  obtain ⟨a, cap, rfl, h1, h2, h3⟩ := hl
  unfold maxLen at h2
  clear h3
  have HF : Hid (∀ (wa : World) (k : Nat), k < l.length → Ex w wa → Calls Try.prog 74 #[.int .i64 (l.getD k 0), cv] wa fun e w' => e = .returned (.bool (p (l.getD k 0))) ∧ Ex wa w') := fun wa k hk hx => hf wa _ (by rw [getD_getElem hk]; exact List.getElem_mem hk) hx
  have HY : Hid (∀ k, k < l.length → p (l.getD k 0) = true → l.any p = true) := fun k hk h => any_of_getD hk h
  have HN : Hid ((∀ k, k < l.length → p (l.getD k 0) = false) → l.any p = false) := fun h => not_any_of_getD h
  clear hf
  generalize l.any p = B at *
  go_enter Try.func72, Try.ntmps72
  go_wp2
  go_loopw [8] (fun i wr => ∃ k : Nat, k ≤ l.length ∧ i = .int .i64 k ∧ Hid (∀ j, j < k → p (l.getD j 0) = false) ∧ Ex w wr) (fun i _ => l.length - (intOf i).toNat)
  case atStart => exact ⟨0, Nat.zero_le _, rfl, fun j hj => (by omega), Ex.refl _⟩
  case round =>
    obtain ⟨k, hk, rfl, hd, hxr⟩ := hrel
    by_cases hlt : k < l.length
    · obtain ⟨_, _, hv, _, _, h3⟩ := hl0.ex hxr
      cases hv
      obtain ⟨b, off, rfl, hb, hc⟩ := h3 k hlt
      clear h3
      have hfk := HF.out wr k hlt hxr
      by_cases hp : p (l.getD k 0) = true
      · have hB : Hid (B = true) := HY.out k hlt hp
        rw [hp] at hfk
        have HK : Hid _ := hfk
        clear hfk hp HF HY HN hd
        generalize l.getD k 0 = x at *
        go_wp2_with fail
        refine Calls.mono HK.out ?_
        rintro e w2 ⟨rfl, hx2⟩
        go_wp2
        go_ret
        exact ⟨k, rfl, by rw [hB.out]; simp, hxr.trans hx2⟩
      · have hp' : p (l.getD k 0) = false := by simpa using hp
        have hd2 : Hid (∀ j, j < k + 1 → p (l.getD j 0) = false) := fun j hj => by
          by_cases hjk : j = k
          · subst hjk; exact hp'
          · exact hd.out j (by omega)
        rw [hp'] at hfk
        have HK : Hid _ := hfk
        clear hfk hp hp' hd
        generalize l.getD k 0 = x at *
        go_wp2_with fail
        refine Calls.mono HK.out ?_
        rintro e w2 ⟨rfl, hx2⟩
        go_wp2
        go_roundw
        case rel => exact ⟨k + 1, by omega, by go_num, hd2, hxr.trans hx2⟩
        case measure => simp [intOf]; omega
    · have hB : Hid (B = false) := HN.out fun j hj => hd.out j (by omega)
      clear hd HF HY HN
      go_wp2
      go_ret
      exact ⟨-1, rfl, by rw [hB.out]; simp, hxr⟩
theorem has_lit_valid1 (lv cv : Value) (l : List Int) (p : Int → Bool) (w : World) (hl : IntsAt w lv l)
    (hf : ∀ (wa : World) (x : Int), x ∈ l → Ex w wa → Calls Try.prog 74 #[.int .i64 x, cv] wa fun e w' => e = .returned (.bool (p x)) ∧ Ex wa w') :
    Calls Try.prog 56 #[lv, .func (.func 74) #[] #[cv]] w fun e w' => e = .returned (.bool (l.any p)) ∧ Ex w w' := by
  have HI := idx_lit_valid1 lv cv l p w hl hf
  have HK : Hid _ := HI
  obtain ⟨a, cap, rfl, h1, h2, h3⟩ := hl
  clear h3 HI hf
  generalize l.any p = B at *
  go_enter Try.func56, Try.ntmps56
  go_wp2_with fail
  refine Calls.mono HK.out ?_
  rintro e w2 ⟨r, rfl, hr, hx2⟩
  go_wp2
  go_ret
  exact ⟨ret_bool (by simp), hx2⟩
set_option maxHeartbeats 1000000 in
theorem idx_unit_Trail1 (lv cv : Value) (l : List Int) (p : Int → Bool) (w : World) (hl : IntsAt w lv l)
    (hf : ∀ (wa : World) (x : Int), x ∈ l → Ex w wa → Calls Try.prog 57 #[.int .i64 x, cv] wa fun e w' => e = .returned (.bool (p x)) ∧ Ex wa w') :
    Calls Try.prog 72 #[lv, .func (.func 57) #[] #[cv]] w (IdxRet w (l.any p)) := by
  have hl0 := hl
  obtain ⟨a, cap, rfl, h1, h2, h3⟩ := hl
  unfold maxLen at h2
  clear h3
  have HF : Hid (∀ (wa : World) (k : Nat), k < l.length → Ex w wa → Calls Try.prog 57 #[.int .i64 (l.getD k 0), cv] wa fun e w' => e = .returned (.bool (p (l.getD k 0))) ∧ Ex wa w') := fun wa k hk hx => hf wa _ (by rw [getD_getElem hk]; exact List.getElem_mem hk) hx
  have HY : Hid (∀ k, k < l.length → p (l.getD k 0) = true → l.any p = true) := fun k hk h => any_of_getD hk h
  have HN : Hid ((∀ k, k < l.length → p (l.getD k 0) = false) → l.any p = false) := fun h => not_any_of_getD h
  clear hf
  generalize l.any p = B at *
  go_enter Try.func72, Try.ntmps72
  go_wp2
  go_loopw [8] (fun i wr => ∃ k : Nat, k ≤ l.length ∧ i = .int .i64 k ∧ Hid (∀ j, j < k → p (l.getD j 0) = false) ∧ Ex w wr) (fun i _ => l.length - (intOf i).toNat)
  case atStart => exact ⟨0, Nat.zero_le _, rfl, fun j hj => (by omega), Ex.refl _⟩
  case round =>
    obtain ⟨k, hk, rfl, hd, hxr⟩ := hrel
    by_cases hlt : k < l.length
    · obtain ⟨_, _, hv, _, _, h3⟩ := hl0.ex hxr
      cases hv
      obtain ⟨b, off, rfl, hb, hc⟩ := h3 k hlt
      clear h3
      have hfk := HF.out wr k hlt hxr
      by_cases hp : p (l.getD k 0) = true
      · have hB : Hid (B = true) := HY.out k hlt hp
        rw [hp] at hfk
        have HK : Hid _ := hfk
        clear hfk hp HF HY HN hd
        generalize l.getD k 0 = x at *
        go_wp2_with fail
        refine Calls.mono HK.out ?_
        rintro e w2 ⟨rfl, hx2⟩
        go_wp2
        go_ret
        exact ⟨k, rfl, by rw [hB.out]; simp, hxr.trans hx2⟩
      · have hp' : p (l.getD k 0) = false := by simpa using hp
        have hd2 : Hid (∀ j, j < k + 1 → p (l.getD j 0) = false) := fun j hj => by
          by_cases hjk : j = k
          · subst hjk; exact hp'
          · exact hd.out j (by omega)
        rw [hp'] at hfk
        have HK : Hid _ := hfk
        clear hfk hp hp' hd
        generalize l.getD k 0 = x at *
        go_wp2_with fail
        refine Calls.mono HK.out ?_
        rintro e w2 ⟨rfl, hx2⟩
        go_wp2
        go_roundw
        case rel => exact ⟨k + 1, by omega, by go_num, hd2, hxr.trans hx2⟩
        case measure => simp [intOf]; omega
    · have hB : Hid (B = false) := HN.out fun j hj => hd.out j (by omega)
      clear hd HF HY HN
      go_wp2
      go_ret
      exact ⟨-1, rfl, by rw [hB.out]; simp, hxr⟩
theorem has_unit_Trail1 (lv cv : Value) (l : List Int) (p : Int → Bool) (w : World) (hl : IntsAt w lv l)
    (hf : ∀ (wa : World) (x : Int), x ∈ l → Ex w wa → Calls Try.prog 57 #[.int .i64 x, cv] wa fun e w' => e = .returned (.bool (p x)) ∧ Ex wa w') :
    Calls Try.prog 56 #[lv, .func (.func 57) #[] #[cv]] w fun e w' => e = .returned (.bool (l.any p)) ∧ Ex w w' := by
  have HI := idx_unit_Trail1 lv cv l p w hl hf
  have HK : Hid _ := HI
  obtain ⟨a, cap, rfl, h1, h2, h3⟩ := hl
  clear h3 HI hf
  generalize l.any p = B at *
  go_enter Try.func56, Try.ntmps56
  go_wp2_with fail
  refine Calls.mono HK.out ?_
  rintro e w2 ⟨r, rfl, hr, hx2⟩
  go_wp2
  go_ret
  exact ⟨ret_bool (by simp), hx2⟩
end Go.Proofs.Yteagoaiiacideaa
/- Clauses and terms under a set: lit.Any, lit.All; old memory stays. No condition but that the words fit and the list can be read. -/
namespace Go.Proofs.Yteagoaiiacideaa
set_option linter.unusedSimpArgs false
set_option linter.unusedVariables false
open Go.RowKit

set_option maxHeartbeats 1000000 in
theorem litAny1_any (x y : Nat) (hx : x < 18446744073709551616) (hy : y < 18446744073709551616) (l : Int) (B : Nat) (w : World) (s0 : w.cell? ⟨B, 0, none⟩ = some (.int .u64 x)) (s1 : w.cell? ⟨B, 1, none⟩ = some (.int .u64 y)) :
    Calls Try.prog 81 #[.int .i64 l, .pointer (some ⟨B, 0, none⟩)] w fun e w' => e = .returned (.bool (holdsB x y l)) ∧ Ex w w' := by
  have HH : Hid (∀ wa, Calls Try.prog 82 #[.agg #[.int .u64 x, .int .u64 y], .int .i64 l] wa fun e w' => e = .returned (.bool (holdsB x y l)) ∧ Ex wa w') := fun wa => litHolds_any x y hx hy l wa
  clear hx hy
  generalize holdsB x y l = r at *
  go_enter Try.func81, Try.ntmps81
  go_wp2_with fail
  refine (HH.out _).mono ?_
  rintro e w2 ⟨rfl, hx2⟩
  go_wp2
  go_ret
  exact ⟨rfl, hx2⟩
set_option maxHeartbeats 1000000 in
theorem litAny_any (x y : Nat) (hx : x < 18446744073709551616) (hy : y < 18446744073709551616) (lv : Value) (l : List Int) (w : World) (hl : IntsAt w lv l) :
    Calls Try.prog 70 #[setV x y, lv] w fun e w' => e = .returned (.bool (l.any (holdsB x y))) ∧ Ex w w' := by
  unfold setV
  have oS := OwnB.new w [.int .u64 x, .int .u64 y] 89
  have hxs := Ex.alloc w (.cells #[.int .u64 x, .int .u64 y] 89)
  have hC := has_lit_Any1 lv (.pointer (some ⟨w.heap.size, 0, none⟩)) l (fun u => holdsB x y u) (w.alloc (.cells #[.int .u64 x, .int .u64 y] 89)) (hl.ex hxs)
    (fun wa u _ hx' => litAny1_any x y hx hy u w.heap.size wa (by have := (oS.ex hx').cell 0; exact this) (by have := (oS.ex hx').cell 1; exact this))
  have HC : Hid _ := hC
  have HE : Hid (l.any (fun u => holdsB x y u) = l.any (holdsB x y)) := rfl
  obtain ⟨a, cap, rfl, _, _, _⟩ := hl
  clear hC oS
  generalize l.any (holdsB x y) = R at *
  generalize l.any (fun u => holdsB x y u) = R' at *
  go_enter Try.func70, Try.ntmps70
  go_wp2_with fail
  refine Calls.mono HC.out ?_
  rintro e w2 ⟨rfl, hx2⟩
  go_wp2
  go_ret
  exact ⟨by first | rfl | exact ret_bool HE.out, hxs.trans hx2⟩
end Go.Proofs.Yteagoaiiacideaa
/- Literals compared, lists of literals checked, opposite neighbours: what each call returns; old memory stays. -/
namespace Go.Proofs.Yteagoaiiacideaa
set_option linter.unusedSimpArgs false
set_option linter.unusedVariables false
open Go.RowKit

set_option maxHeartbeats 1000000 in
theorem litCompare_any (a b : Int) (ha : litVar a ≠ 0) (hb : litVar b ≠ 0) (w : World) :
    Calls Try.prog 77 #[.int .i64 a, .int .i64 b] w fun e w' => e = .returned (.int .i64 (litCmp a b)) ∧ w = w' := by
  have HA : Hid (∀ wa, Calls Try.prog 61 #[.int .i64 a] wa fun e w' => e = .returned (.int .i64 (litVar a)) ∧ wa = w') := fun wa => litVar_any a wa
  have HB : Hid (∀ wa, Calls Try.prog 61 #[.int .i64 b] wa fun e w' => e = .returned (.int .i64 (litVar b)) ∧ wa = w') := fun wa => litVar_any b wa
  have ra := litVar_range a
  have rb := litVar_range b
  have qa : -128 ≤ a ∧ a ≤ 128 := by unfold litVar at ha; (repeat' split at ha) <;> omega
  have qb : -128 ≤ b ∧ b ≤ 128 := by unfold litVar at hb; (repeat' split at hb) <;> omega
  obtain ⟨ra1, ra2⟩ := ra
  obtain ⟨rb1, rb2⟩ := rb
  obtain ⟨qa1, qa2⟩ := qa
  obtain ⟨qb1, qb2⟩ := qb
  by_cases he : litVar a = litVar b
  · have hne : (litVar a != litVar b) = false := by simp only [bne_eq_false_iff_eq]; exact he
    have e1 : litCmp a b = a - b := if_pos he
    rw [e1]
    clear ha hb he e1
    generalize litVar a = x at *
    generalize litVar b = y at *
    go_enter Try.func77, Try.ntmps77
    go_wp2_with fail
    refine (HA.out _).mono ?_
    rintro e w' ⟨rfl, rfl⟩
    go_wp2_with fail
    refine (HB.out _).mono ?_
    rintro e w' ⟨rfl, rfl⟩
    go_wp2
    go_ret
    exact ⟨rfl, rfl⟩
  · have hne : (litVar a != litVar b) = true := by simp only [bne_iff_ne]; exact he
    have e1 : litCmp a b = litVar a - litVar b := if_neg he
    rw [e1]
    clear ha hb he e1
    generalize litVar a = x at *
    generalize litVar b = y at *
    go_enter Try.func77, Try.ntmps77
    go_wp2_with fail
    refine (HA.out _).mono ?_
    rintro e w' ⟨rfl, rfl⟩
    go_wp2_with fail
    refine (HB.out _).mono ?_
    rintro e w' ⟨rfl, rfl⟩
    go_wp2
    go_ret
    exact ⟨rfl, rfl⟩
set_option maxHeartbeats 1000000 in
theorem litOrder1_any (a b : Int) (ha : litVar a ≠ 0) (hb : litVar b ≠ 0) (w : World) :
    Calls Try.prog 76 #[.int .i64 a, .int .i64 b] w fun e w' => e = .returned (.int .i64 (litCmp a b)) ∧ w = w' := by
  have HC : Hid (∀ wa, Calls Try.prog 77 #[.int .i64 a, .int .i64 b] wa fun e w' => e = .returned (.int .i64 (litCmp a b)) ∧ wa = w') := fun wa => litCompare_any a b ha hb wa
  clear ha hb
  generalize litCmp a b = r at *
  go_enter Try.func76, Try.ntmps76
  go_wp2_with (go_at_call 77; refine (HC.out _).mono ?_; rintro e w' ⟨rfl, rfl⟩)
  go_ret
  exact ⟨rfl, rfl⟩
set_option maxHeartbeats 1000000 in
theorem litValid1_any (l n : Int) (B : Nat) (w : World) (s0 : w.cell? ⟨B, 0, none⟩ = some (.int .i64 n)) :
    Calls Try.prog 74 #[.int .i64 l, .pointer (some ⟨B, 0, none⟩)] w fun e w' => e = .returned (.bool (!litValid l n)) ∧ Ex w w' := by
  have HH : Hid (∀ wa, Calls Try.prog 45 #[.int .i64 l, .int .i64 n] wa fun e w' => e = .returned (.bool (litValid l n)) ∧ wa = w') := fun wa => litValid_any l n wa
  generalize litValid l n = r at *
  go_enter Try.func74, Try.ntmps74
  go_wp2_with fail
  refine (HH.out _).mono ?_
  rintro e w2 ⟨rfl, rfl⟩
  go_wp2
  go_ret
  exact ⟨rfl, Ex.refl _⟩
set_option maxHeartbeats 1000000 in
theorem litValidAll_any (lv : Value) (l : List Int) (n : Int) (w : World) (hl : IntsAt w lv l) :
    Calls Try.prog 63 #[lv, .int .i64 n] w fun e w' => e = .returned (.bool (l.all (litValid · n))) ∧ Ex w w' := by
  have oS := OwnB.new w [.int .i64 n] 3
  have hxs := Ex.alloc w (.cells #[.int .i64 n] 3)
  have hC := has_lit_valid1 lv (.pointer (some ⟨w.heap.size, 0, none⟩)) l (fun u => !litValid u n) (w.alloc (.cells #[.int .i64 n] 3)) (hl.ex hxs)
    (fun wa u _ hx' => litValid1_any u n w.heap.size wa (by have := (oS.ex hx').cell 0; exact this))
  have HC : Hid _ := hC
  have HE : Hid ((!l.any (fun u => !litValid u n)) = l.all (litValid · n)) := by show _ = _; rw [List.all_eq_not_any_not]
  obtain ⟨a, cap, rfl, _, _, _⟩ := hl
  clear hC oS
  generalize l.all (litValid · n) = R at *
  generalize l.any (fun u => !litValid u n) = R' at *
  go_enter Try.func63, Try.ntmps63
  go_wp2_with fail
  refine Calls.mono HC.out ?_
  rintro e w2 ⟨rfl, hx2⟩
  go_wp2
  go_ret
  exact ⟨by first | rfl | exact ret_bool HE.out, hxs.trans hx2⟩
/-- Are there opposite neighbours? -/
def oppB (l : List Int) : Bool := (List.range l.length).any fun i => decide (1 ≤ i) && (l.getD i 0 == -(l.getD (i - 1) 0))
set_option maxHeartbeats 1000000 in
theorem litOpposite_any (lv : Value) (l : List Int) (w : World) (hl : IntsAt w lv l) (hv : ∀ x ∈ l, litVar x ≠ 0) :
    Calls Try.prog 65 #[lv] w fun e w' => e = .returned (.bool (oppB l)) ∧ Ex w w' := by
  have hl0 := hl
  obtain ⟨a, cap, rfl, h1, h2, h3⟩ := hl
  unfold maxLen at h2
  clear h3
  have HV : Hid (∀ j, j < l.length → -128 ≤ l.getD j 0 ∧ l.getD j 0 ≤ 128) := fun j hj => by
    have := hv _ (show l.getD j 0 ∈ l by rw [getD_getElem hj]; exact List.getElem_mem hj)
    unfold litVar at this
    (repeat' split at this) <;> omega
  have HY : Hid (∀ k, 1 ≤ k → k < l.length → l.getD k 0 = -(l.getD (k - 1) 0) → oppB l = true) := fun k h1 h2 h3 => by
    unfold oppB
    rw [List.any_eq_true]
    exact ⟨k, List.mem_range.2 h2, by simp only [h1, decide_true, Bool.true_and, beq_iff_eq]; exact h3⟩
  have HN : Hid ((∀ k, 1 ≤ k → k < l.length → ¬ l.getD k 0 = -(l.getD (k - 1) 0)) → oppB l = false) := fun h => by
    unfold oppB
    rw [List.any_eq_false]
    intro k hk
    rw [List.mem_range] at hk
    by_cases h1 : 1 ≤ k
    · simp only [h1, decide_true, Bool.true_and, beq_iff_eq]; exact h k h1 hk
    · simp [h1]
  clear hv
  generalize oppB l = B at *
  go_enter Try.func65, Try.ntmps65
  go_wp2
  go_loopw [3] (fun i wr => ∃ k : Nat, 1 ≤ k ∧ (k ≤ l.length ∨ k = 1) ∧ i = .int .i64 k ∧ Hid (∀ j, 1 ≤ j → j < k → j < l.length → ¬ l.getD j 0 = -(l.getD (j - 1) 0)) ∧ Ex w wr) (fun i _ => l.length - (intOf i).toNat)
  case atStart => exact ⟨1, Nat.le_refl _, .inr rfl, rfl, fun j h1 h2 => (by omega), Ex.refl _⟩
  case round =>
    obtain ⟨k, hk1, hk, rfl, hd, hxr⟩ := hrel
    by_cases hlt : k < l.length
    · obtain ⟨_, _, hv, _, _, h3⟩ := hl0.ex hxr
      cases hv
      obtain ⟨b, off, rfl, hb, hc⟩ := h3 k hlt
      obtain ⟨b', off', hbo, _, hc'⟩ := h3 (k - 1) (by omega)
      cases hbo
      clear h3
      have ek : ((k : Int) - 1) = ((k - 1 : Nat) : Int) := by omega
      have ek2 : IntKind.i64.wrap ((k : Int) - 1) = ((k - 1 : Nat) : Int) := by rw [ek]; exact IntWalk.i64_in _ (by omega)
      have q1 : (k : Int) < (l.length : Int) := by omega
      have q2 : ((k - 1 : Nat) : Int) < (l.length : Int) := by omega
      have q3 : (0 : Int) ≤ ((k - 1 : Nat) : Int) := by omega
      obtain ⟨r1, r2⟩ := HV.out (k - 1) (by omega)
      by_cases he : l.getD k 0 = -(l.getD (k - 1) 0)
      · have hB : Hid (B = true) := HY.out k hk1 hlt he
        have he' : (l.getD k 0 == -(l.getD (k - 1) 0)) = true := by simp only [beq_iff_eq]; exact he
        clear hd he HY HN
        generalize l.getD k 0 = x at *
        generalize l.getD (k - 1) 0 = y at *
        generalize k - 1 = k1 at *
        have hcx := ext_cell hc
        have gcx := ext_cell hc'
        go_wp2
        refine wp_region_quiet_ext (by kernel_rfl) (by kernel_rfl) ?_
        repeat (go_big_quiet_step ((fail)))
        refine wpQuiet_nil ?_
        intro w8 hx8
        go_wp2
        go_ret
        exact ⟨ret_bool hB.out.symm, hxr.trans hx8⟩
      · have hd2 : Hid (∀ j, 1 ≤ j → j < k + 1 → j < l.length → ¬ l.getD j 0 = -(l.getD (j - 1) 0)) := fun j h1 h2 h3 => by
          by_cases hjk : j = k
          · subst hjk; exact he
          · exact hd.out j h1 (by omega) h3
        have he' : (l.getD k 0 == -(l.getD (k - 1) 0)) = false := by simp only [beq_eq_false_iff_ne]; exact he
        clear hd he HY
        generalize l.getD k 0 = x at *
        generalize l.getD (k - 1) 0 = y at *
        generalize k - 1 = k1 at *
        have hcx := ext_cell hc
        have gcx := ext_cell hc'
        go_wp2
        refine wp_region_quiet_ext (by kernel_rfl) (by kernel_rfl) ?_
        repeat (go_big_quiet_step ((fail)))
        refine wpQuiet_nil ?_
        intro w8 hx8
        go_wp2
        go_roundw
        case rel => exact ⟨k + 1, by omega, .inl (by omega), by go_num, hd2, hxr.trans hx8⟩
        case measure => simp [intOf]; omega
    · have hB : Hid (B = false) := HN.out fun j h1 h2 => hd.out j h1 (by omega) h2
      clear hd HY HN
      go_wp2
      go_ret
      exact ⟨ret_bool hB.out.symm, hxr⟩
end Go.Proofs.Yteagoaiiacideaa
/- Lists written down in the text, and slices whose block is the call's own and is written. No condition. -/
namespace Go.Proofs.Yteagoaiiacideaa
set_option linter.unusedSimpArgs false
set_option linter.unusedVariables false
open Go.RowKit
theorem alloc_size (w : World) (o : Obj) : (w.alloc o).heap.size = w.heap.size + 1 := by show (w.heap.push o).size = _; simp
theorem litAt0 (w : World) (l : List Int) (t : TypeId) (h : l.length ≤ maxLen) : IntsAt (w.alloc (.cells (intsV l).toArray t)) (.slice (some ⟨w.heap.size, 0, none⟩) l.length l.length) l :=
  intsAt_of_block (OwnB.new w (intsV l) t) h
theorem litAt1 (w : World) (o : Obj) (l : List Int) (t : TypeId) (h : l.length ≤ maxLen) : IntsAt ((w.alloc o).alloc (.cells (intsV l).toArray t)) (.slice (some ⟨w.heap.size + 1, 0, none⟩) l.length l.length) l := by
  have := litAt0 (w.alloc o) l t h
  rwa [alloc_size] at this
theorem litAt2 (w : World) (o o' : Obj) (l : List Int) (t : TypeId) (h : l.length ≤ maxLen) : IntsAt (((w.alloc o).alloc o').alloc (.cells (intsV l).toArray t)) (.slice (some ⟨w.heap.size + 1 + 1, 0, none⟩) l.length l.length) l := by
  have := litAt1 (w.alloc o) o' l t h
  rwa [alloc_size] at this
/-- A slice of integers whose block is the call's own: from 'base' on, below 'top'. -/
def Mine (w : World) (base top : Nat) (p : Option Addr) (n : Nat) : Prop := 0 < n → ∃ g cs, p = some ⟨g, 0, none⟩ ∧ base ≤ g ∧ g < top ∧ OwnB w g cs 3 ∧ n ≤ cs.length
theorem Mine.of_own {w : World} {base cap : Nat} {p : Option Addr} {l : List Int} (h : OwnI w base (.slice p l.length cap) l) : Mine w base w.heap.size p l.length := fun hl => by
  obtain ⟨g, cap', rest, hv, hb, hO, _, _⟩ := h.form hl
  cases hv
  exact ⟨g, _, rfl, hb, hO.lt, hO, by simp [intsV]⟩
theorem Mine.ex {w w' : World} {base top n : Nat} {p : Option Addr} (h : Mine w base top p n) (hx : Ex w w') : Mine w' base top p n := fun hn => by
  obtain ⟨g, cs, h1, h2, h3, h4, h5⟩ := h hn
  exact ⟨g, cs, h1, h2, h3, h4.ex hx, h5⟩
theorem Mine.set {w : World} {base top n g j : Nat} (h : Mine w base top (some ⟨g, 0, none⟩) n) (v : Value) : Mine (w.setCell ⟨g, j, none⟩ v) base top (some ⟨g, 0, none⟩) n := fun hn => by
  obtain ⟨g', cs, h1, h2, h3, h4, h5⟩ := h hn
  cases h1
  exact ⟨g, _, rfl, h2, h3, h4.set j v, by rw [List.length_set]; exact h5⟩
theorem Mine.setOther {w : World} {base top n b j : Nat} {p : Option Addr} (h : Mine w base top p n) (hb : b < base) (v : Value) : Mine (w.setCell ⟨b, j, none⟩ v) base top p n := fun hn => by
  obtain ⟨g', cs, h1, h2, h3, h4, h5⟩ := h hn
  exact ⟨g', cs, h1, h2, h3, h4.set_other j v (by omega), h5⟩
end Go.Proofs.Yteagoaiiacideaa
/- vars.Cut, Minus, All, Sub: what they return; old memory stays. No condition. -/
namespace Go.Proofs.Yteagoaiiacideaa
set_option linter.unusedSimpArgs false
set_option linter.unusedVariables false
open Go.RowKit
set_option maxRecDepth 20000
set_option maxHeartbeats 1000000 in
theorem varsMinus_any (x y u v : Nat) (hx : x < 18446744073709551616) (hy : y < 18446744073709551616) (hu : u < 18446744073709551616) (hv : v < 18446744073709551616) (w : World) :
    Calls Try.prog 79 #[setV x y, setV u v] w fun e w' => e = .returned (setV (x &&& (18446744073709551615 - u)) (y &&& (18446744073709551615 - v))) ∧ Ex w w' := by
  unfold setV
  have h1 := u64_andNot_nat x u hx hu
  have h2 := u64_andNot_nat y v hy hv
  clear hx hy hu hv
  generalize x &&& (18446744073709551615 - u) = p at *
  generalize y &&& (18446744073709551615 - v) = q at *
  go_enter Try.func79, Try.ntmps79
  go_wp2
  refine bodyPost_ret (v := .agg #[.int .u64 p, .int .u64 q]) (by simp [results, Try.results79, go_sem]) rfl ⟨rfl, ?_⟩
  repeat (first | exact Ex.refl _ | exact Ex.alloc _ _ | refine Ex.setCell ?_ (by simp) _ | refine Ex.alloc' ?_ _)
/-- The variables 1 to m. -/
def allV (m : Nat) : Nat × Nat := (List.range m).foldl (fun s (k : Nat) => withV s ((k : Int) + 1)) (0, 0)
theorem allV_succ (m : Nat) : allV (m + 1) = withV (allV m) ((m : Int) + 1) := by unfold allV; rw [List.range_succ, List.foldl_append]; rfl
theorem withV_lt64 {s : Nat × Nat} {v : Int} (h1 : s.1 < 18446744073709551616) (h2 : s.2 < 18446744073709551616) : (withV s v).1 < 18446744073709551616 ∧ (withV s v).2 < 18446744073709551616 := by
  have hb := bitOf_lt v
  unfold withV
  have e : (18446744073709551616 : Nat) = 2 ^ 64 := rfl
  rw [e] at *
  split
  · exact ⟨Nat.or_lt_two_pow h1 hb, h2⟩
  · exact ⟨h1, Nat.or_lt_two_pow h2 hb⟩
theorem allV_lt : ∀ m, (allV m).1 < 18446744073709551616 ∧ (allV m).2 < 18446744073709551616
  | 0 => by unfold allV; simp
  | m + 1 => by rw [allV_succ]; exact withV_lt64 (allV_lt m).1 (allV_lt m).2
/-- Whether all of a set is in another one. -/
def subB (x y u v : Nat) : Bool := decide (x &&& (18446744073709551615 - u) = 0) && decide (y &&& (18446744073709551615 - v) = 0)
set_option maxHeartbeats 1000000 in
theorem varsSub_any (x y u v : Nat) (hx : x < 18446744073709551616) (hy : y < 18446744073709551616) (hu : u < 18446744073709551616) (hv : v < 18446744073709551616) (w : World) :
    Calls Try.prog 68 #[setV x y, setV u v] w fun e w' => e = .returned (.bool (subB x y u v)) ∧ Ex w w' := by
  have HM : Hid (∀ wa, Calls Try.prog 79 #[setV x y, setV u v] wa fun e w' => e = .returned (setV (x &&& (18446744073709551615 - u)) (y &&& (18446744073709551615 - v))) ∧ Ex wa w') := fun wa => varsMinus_any x y u v hx hy hu hv wa
  have HB : Hid (∀ p q, p = x &&& (18446744073709551615 - u) → q = y &&& (18446744073709551615 - v) → ((((p : Nat) : Int) == 0) && (((q : Nat) : Int) == 0)) = subB x y u v) := fun p q hp hq => by
    subst hp hq; unfold subB; congr 1 <;> (rw [Bool.eq_iff_iff]; simp; try omega)
  have HB' := HB.out _ _ rfl rfl
  clear HB hx hy hu hv
  generalize x &&& (18446744073709551615 - u) = p at *
  generalize y &&& (18446744073709551615 - v) = q at *
  generalize subB x y u v = B at *
  have HB2 : Hid _ := HB'
  clear HB'
  unfold setV at *
  go_enter Try.func68, Try.ntmps68
  go_wp2_with fail
  refine (HM.out _).mono ?_
  rintro e w2 ⟨rfl, hx2⟩
  go_wp2
  go_ret
  refine ⟨ret_bool ?_, ?_⟩
  · rw [← HB2.out]
  · exact (((Ex.refl w).alloc' _).alloc' _).trans hx2
set_option maxHeartbeats 2000000 in
theorem varsAll_any (n : Int) (h0 : 0 ≤ n) (h1 : n ≤ 128) (w : World) :
    Calls Try.prog 69 #[.int .i64 n] w fun e w' => e = .returned (setV (allV n.toNat).1 (allV n.toNat).2) ∧ Ex w w' := by
  have HA : Hid (∀ (m : Nat) (wa : World), (m : Int) + 1 ≤ 128 → Calls Try.prog 80 #[setV (allV m).1 (allV m).2, .int .i64 ((m : Int) + 1)] wa fun e w' => e = .returned (setV (allV (m + 1)).1 (allV (m + 1)).2) ∧ Ex wa w') := fun m wa hm => by
    rw [allV_succ]; exact varsWith_any (allV m) _ (by omega) hm (allV_lt m).1 (allV_lt m).2 wa
  unfold setV at *
  obtain ⟨N, rfl⟩ : ∃ N : Nat, n = N := ⟨n.toNat, by omega⟩
  simp only [Int.toNat_natCast]
  have hmin : min (N : Int) 128 = N := by omega
  have z0 : allV 0 = (0, 0) := rfl
  have o0 := (OwnB.new w [.int .u64 0, .int .u64 0] 89).ex (Ex.alloc _ (.cells #[.int .u64 0, .int .u64 0] 89))
  have o1 := OwnB.new (w.alloc (.cells #[.int .u64 0, .int .u64 0] 89)) [.int .u64 0, .int .u64 0] 89
  have hx0 := (Ex.alloc w (.cells #[.int .u64 0, .int .u64 0] 89)).alloc' (.cells #[.int .u64 0, .int .u64 0] 89)
  rw [alloc_size] at o1
  have HZ : Hid ([Value.int .u64 ((allV 0).1 : Nat), .int .u64 ((allV 0).2 : Nat)] = [.int .u64 0, .int .u64 0]) := rfl
  clear z0
  go_enter Try.func69, Try.ntmps69
  go_wp2
  generalize (w.alloc (.cells #[.int .u64 0, .int .u64 0] 89)).alloc (.cells #[.int .u64 0, .int .u64 0] 89) = w1 at *
  have hB0 : w.heap.size ≤ w.heap.size := Nat.le_refl _
  have hB1 : w.heap.size ≤ w.heap.size + 1 := Nat.le_succ _
  have hne : w.heap.size ≠ w.heap.size + 1 := by omega
  generalize w.heap.size + 1 = B1 at *
  go_loopw [4] (fun i wr => ∃ m : Nat, m ≤ N ∧ i = .int .i64 ((m : Int) + 1) ∧ Ex w wr ∧ OwnB wr w.heap.size [.int .u64 0, .int .u64 0] 89 ∧ OwnB wr B1 [.int .u64 ((allV m).1 : Nat), .int .u64 ((allV m).2 : Nat)] 89) (fun i _ => (N + 1 - (intOf i).toNat))
  case atStart => exact ⟨0, Nat.zero_le _, rfl, hx0, o0, by rw [HZ.out]; exact o1⟩
  case round =>
    obtain ⟨m, hm, rfl, hx, q0, q1⟩ := hrel
    have e0 := q1.cell 0
    have e1 := q1.cell 1
    have f0 := q1.free 0
    have f1 := q1.free 1
    have z1 := q1.lt
    by_cases hlt : m < N
    · have HW := HA.out m wr (by omega)
      have HW' : Hid _ := HW
      obtain ⟨A1, hA1⟩ : ∃ A1, A1 = (allV (m + 1)).1 := ⟨_, rfl⟩
      obtain ⟨A2, hA2⟩ : ∃ A2, A2 = (allV (m + 1)).2 := ⟨_, rfl⟩
      rw [← hA1, ← hA2] at HW'
      have HQ : Hid (A1 = (allV (m + 1)).1 ∧ A2 = (allV (m + 1)).2) := ⟨hA1, hA2⟩
      clear HW HA hA1 hA2 o0 o1 HZ
      generalize (allV m).1 = C1 at *
      generalize (allV m).2 = C2 at *
      have hgo : (m : Int) + 1 ≤ N := by omega
      go_wp2_with fail
      refine Calls.mono HW'.out ?_
      rintro e w2 ⟨rfl, hx2⟩
      have q02 := q0.ex hx2
      have q12 := q1.ex hx2
      have e02 := q12.cell 0
      have e12 := q12.cell 1
      have f02 := q12.free 0
      have f12 := q12.free 1
      have z12 := q12.lt
      have q13 := (q12.set 0 (.int .u64 A1)).set 1 (.int .u64 A2)
      have q03 := (q02.set_other (c := B1) 0 (.int .u64 A1) hne.symm).set_other (c := B1) 1 (.int .u64 A2) hne.symm
      have hx3 := ((hx.trans hx2).setCell (p := ⟨B1, 0, none⟩) hB1 (.int .u64 A1)).setCell (p := ⟨B1, 1, none⟩) hB1 (.int .u64 A2)
      clear HW' q0 q1 q02 q12 e0 e1 f0 f1
      go_wp2
      go_roundw
      case rel => exact ⟨m + 1, by omega, by go_num, hx3, q03, by rw [← HQ.out.1, ← HQ.out.2]; exact q13⟩
      case measure => simp [intOf]; omega
    · obtain rfl : m = N := by omega
      have r0 := q0.cell 0
      have r1 := q0.cell 1
      have g0 := q0.free 0
      have g1 := q0.free 1
      have z0 := q0.lt
      have hgo : ¬ ((m : Int) + 1 ≤ m) := by omega
      clear HA o0 o1 HZ q0 q1
      obtain ⟨C1, hC1⟩ : ∃ C1, C1 = (allV m).1 := ⟨_, rfl⟩
      obtain ⟨C2, hC2⟩ : ∃ C2, C2 = (allV m).2 := ⟨_, rfl⟩
      have HQ : Hid (C1 = (allV m).1 ∧ C2 = (allV m).2) := ⟨hC1, hC2⟩
      rw [← hC1] at e0
      rw [← hC2] at e1
      clear hC1 hC2
      go_wp2
      refine bodyPost_ret (v := .agg #[.int .u64 C1, .int .u64 C2]) (by simp [results, Try.results69, go_sem, r0, r1, z0]) rfl ⟨by rw [HQ.out.1, HQ.out.2], ?_⟩
      exact (hx.setCell hB0 _).setCell hB0 _
set_option maxHeartbeats 2000000 in
theorem varsAll_big (n : Int) (hn : 128 < n) (w : World) :
    Calls Try.prog 69 #[.int .i64 n] w fun e w' => e = .returned (setV (allV 128).1 (allV 128).2) ∧ Ex w w' := by
  have HA : Hid (∀ (m : Nat) (wa : World), (m : Int) + 1 ≤ 128 → Calls Try.prog 80 #[setV (allV m).1 (allV m).2, .int .i64 ((m : Int) + 1)] wa fun e w' => e = .returned (setV (allV (m + 1)).1 (allV (m + 1)).2) ∧ Ex wa w') := fun m wa hm => by
    rw [allV_succ]; exact varsWith_any (allV m) _ (by omega) hm (allV_lt m).1 (allV_lt m).2 wa
  unfold setV at *
  obtain ⟨N, hN⟩ : ∃ N : Nat, N = 128 := ⟨_, rfl⟩
  rw [← hN]
  have hmin : min n 128 = 128 := by omega
  have hmn : ¬ (n ≤ 128) := by omega
  have z0 : allV 0 = (0, 0) := rfl
  have o0 := (OwnB.new w [.int .u64 0, .int .u64 0] 89).ex (Ex.alloc _ (.cells #[.int .u64 0, .int .u64 0] 89))
  have o1 := OwnB.new (w.alloc (.cells #[.int .u64 0, .int .u64 0] 89)) [.int .u64 0, .int .u64 0] 89
  have hx0 := (Ex.alloc w (.cells #[.int .u64 0, .int .u64 0] 89)).alloc' (.cells #[.int .u64 0, .int .u64 0] 89)
  rw [alloc_size] at o1
  have HZ : Hid ([Value.int .u64 ((allV 0).1 : Nat), .int .u64 ((allV 0).2 : Nat)] = [.int .u64 0, .int .u64 0]) := rfl
  clear z0
  go_enter Try.func69, Try.ntmps69
  go_wp2
  generalize (w.alloc (.cells #[.int .u64 0, .int .u64 0] 89)).alloc (.cells #[.int .u64 0, .int .u64 0] 89) = w1 at *
  have hB0 : w.heap.size ≤ w.heap.size := Nat.le_refl _
  have hB1 : w.heap.size ≤ w.heap.size + 1 := Nat.le_succ _
  have hne : w.heap.size ≠ w.heap.size + 1 := by omega
  generalize w.heap.size + 1 = B1 at *
  go_loopw [4] (fun i wr => ∃ m : Nat, m ≤ N ∧ i = .int .i64 ((m : Int) + 1) ∧ Ex w wr ∧ OwnB wr w.heap.size [.int .u64 0, .int .u64 0] 89 ∧ OwnB wr B1 [.int .u64 ((allV m).1 : Nat), .int .u64 ((allV m).2 : Nat)] 89) (fun i _ => (N + 1 - (intOf i).toNat))
  case atStart => exact ⟨0, Nat.zero_le _, rfl, hx0, o0, by rw [HZ.out]; exact o1⟩
  case round =>
    obtain ⟨m, hm, rfl, hx, q0, q1⟩ := hrel
    have e0 := q1.cell 0
    have e1 := q1.cell 1
    have f0 := q1.free 0
    have f1 := q1.free 1
    have z1 := q1.lt
    by_cases hlt : m < N
    · have HW := HA.out m wr (by omega)
      have HW' : Hid _ := HW
      obtain ⟨A1, hA1⟩ : ∃ A1, A1 = (allV (m + 1)).1 := ⟨_, rfl⟩
      obtain ⟨A2, hA2⟩ : ∃ A2, A2 = (allV (m + 1)).2 := ⟨_, rfl⟩
      rw [← hA1, ← hA2] at HW'
      have HQ : Hid (A1 = (allV (m + 1)).1 ∧ A2 = (allV (m + 1)).2) := ⟨hA1, hA2⟩
      clear HW HA hA1 hA2 o0 o1 HZ
      generalize (allV m).1 = C1 at *
      generalize (allV m).2 = C2 at *
      have hgo : (m : Int) + 1 ≤ 128 := by omega
      have hgo2 : (m : Int) + 1 ≤ n := by omega
      go_wp2_with fail
      refine Calls.mono HW'.out ?_
      rintro e w2 ⟨rfl, hx2⟩
      have q02 := q0.ex hx2
      have q12 := q1.ex hx2
      have e02 := q12.cell 0
      have e12 := q12.cell 1
      have f02 := q12.free 0
      have f12 := q12.free 1
      have z12 := q12.lt
      have q13 := (q12.set 0 (.int .u64 A1)).set 1 (.int .u64 A2)
      have q03 := (q02.set_other (c := B1) 0 (.int .u64 A1) hne.symm).set_other (c := B1) 1 (.int .u64 A2) hne.symm
      have hx3 := ((hx.trans hx2).setCell (p := ⟨B1, 0, none⟩) hB1 (.int .u64 A1)).setCell (p := ⟨B1, 1, none⟩) hB1 (.int .u64 A2)
      clear HW' q0 q1 q02 q12 e0 e1 f0 f1
      go_wp2
      go_roundw
      case rel => exact ⟨m + 1, by omega, by go_num, hx3, q03, by rw [← HQ.out.1, ← HQ.out.2]; exact q13⟩
      case measure => simp [intOf]; omega
    · obtain rfl : m = N := by omega
      have r0 := q0.cell 0
      have r1 := q0.cell 1
      have g0 := q0.free 0
      have g1 := q0.free 1
      have z0 := q0.lt
      have hgo : ¬ ((m : Int) + 1 ≤ 128) := by omega
      clear HA o0 o1 HZ q0 q1
      obtain ⟨C1, hC1⟩ : ∃ C1, C1 = (allV m).1 := ⟨_, rfl⟩
      obtain ⟨C2, hC2⟩ : ∃ C2, C2 = (allV m).2 := ⟨_, rfl⟩
      have HQ : Hid (C1 = (allV m).1 ∧ C2 = (allV m).2) := ⟨hC1, hC2⟩
      rw [← hC1] at e0
      rw [← hC2] at e1
      clear hC1 hC2
      go_wp2
      refine bodyPost_ret (v := .agg #[.int .u64 C1, .int .u64 C2]) (by simp [results, Try.results69, go_sem, r0, r1, z0]) rfl ⟨by rw [HQ.out.1, HQ.out.2, show m = 128 by omega], ?_⟩
      exact (hx.setCell hB0 _).setCell hB0 _
theorem varsAll_neg (n : Int) (hn : n < 0) (w : World) :
    Calls Try.prog 69 #[.int .i64 n] w fun e w' => e = .returned (setV 0 0) ∧ Ex w w' := by
  unfold setV at *
  have hmin : min n 128 = n := by omega
  have hgo : ¬ ((1 : Int) ≤ n) := by omega
  go_enter Try.func69, Try.ntmps69
  go_wp2
  refine wp_loop_rounds 1 ?_
  rw [rounds_succ]
  go_wp2
  refine bodyPost_ret (v := .agg #[.int .u64 0, .int .u64 0]) (by simp [results, Try.results69, go_sem]) rfl ⟨rfl, ?_⟩
  repeat (first | exact Ex.refl _ | exact Ex.alloc _ _ | refine Ex.setCell ?_ (by simp) _ | refine Ex.alloc' ?_ _)
/-- .. for any number. -/
theorem varsAll_wide (n : Int) (w : World) :
    Calls Try.prog 69 #[.int .i64 n] w fun e w' => e = .returned (setV (allV (min n 128).toNat).1 (allV (min n 128).toNat).2) ∧ Ex w w' := by
  by_cases h : n < 0
  · rw [show (min n 128).toNat = 0 by omega]; exact varsAll_neg n h w
  · by_cases h' : n ≤ 128
    · rw [show min n 128 = n by omega]; exact varsAll_any n (by omega) h' w
    · rw [show (min n 128).toNat = 128 by omega]; exact varsAll_big n (by omega) w
end Go.Proofs.Yteagoaiiacideaa
