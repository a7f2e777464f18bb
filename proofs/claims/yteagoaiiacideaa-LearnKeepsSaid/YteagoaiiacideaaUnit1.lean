/- The state of unit propagation in memory; the program's at, add, and the closure that looks at a literal. No condition but that the literals are ones. -/
import Derived.Test.YteagoaiiacideaaStp
import Derived.Test.YteagoaiiacideaaG2
import Derived.Deep.RegionLaw
namespace Go.Proofs.Yteagoaiiacideaa
set_option linter.unusedSimpArgs false
set_option linter.unusedVariables false
open Go.RowKit
/-- The place of a literal in the table, and the literal of a place. -/
def atN (x : Int) : Nat := 2 * x.natAbs + (if x < 0 then 1 else 0)
def litOf (j : Nat) : Int := if j % 2 = 0 then ((j / 2 : Nat) : Int) else -((j / 2 : Nat) : Int)
theorem litOf_atN (x : Int) : litOf (atN x) = x := by unfold litOf atN; split <;> split at * <;> omega
theorem litOf_ne {j : Nat} {x : Int} (hx : x ≠ 0) (h : j ≠ atN x) : litOf j ≠ x := by
  unfold litOf atN at *
  intro e
  split at e <;> split at h <;> omega
theorem atN_lt {x : Int} (h1 : -128 ≤ x) (h2 : x ≤ 128) : atN x < 258 := by unfold atN; split <;> omega
/-- The table of a trail. -/
def tabV (tr : List St) : List Value := (List.range 258).map fun j => .bool (trueT tr (litOf j))
theorem tabV_length (tr : List St) : (tabV tr).length = 258 := by simp [tabV]
theorem tabV_get (tr : List St) {x : Int} (h1 : -128 ≤ x) (h2 : x ≤ 128) : (tabV tr)[atN x]? = some (.bool (trueT tr x)) := by
  have := atN_lt h1 h2
  unfold tabV
  rw [List.getElem?_map, List.getElem?_range this]
  simp [litOf_atN]
theorem tabV_set (tr : List St) {s : St} (h1 : -128 ≤ s.lit) (h2 : s.lit ≤ 128) (h0 : s.lit ≠ 0) : (tabV tr).set (atN s.lit) (.bool true) = tabV (tr ++ [s]) := by
  apply List.ext_getElem?
  intro j
  by_cases hj : j = atN s.lit
  · subst hj
    rw [List.getElem?_set_self (by rw [tabV_length]; exact atN_lt h1 h2), tabV_get _ h1 h2, trueT_append]
    simp
  · rw [List.getElem?_set_ne (fun e => hj e.symm)]
    by_cases hl : j < 258
    · have e := litOf_ne h0 hj
      unfold tabV
      rw [List.getElem?_map, List.getElem?_map, List.getElem?_range hl]
      simp only [Option.map_some, trueT_append, Option.some.injEq, Value.bool.injEq]
      rw [show (s.lit == litOf j) = false by rw [beq_eq_false_iff_ne]; exact fun h => e h.symm, Bool.or_false]
    · rw [List.getElem?_eq_none (by rw [tabV_length]; omega), List.getElem?_eq_none (by rw [tabV_length]; omega)]
/-- The cells of the state. -/
def stateV (n : Int) (lv sv : Value) (tr : List St) : List Value := .int .i64 n :: lv :: sv :: tabV tr
theorem stateV_tab (n : Int) (lv sv : Value) (tr : List St) {x : Int} (h1 : -128 ≤ x) (h2 : x ≤ 128) : (stateV n lv sv tr)[3 + atN x]? = some (.bool (trueT tr x)) := by
  rw [show 3 + atN x = atN x + 1 + 1 + 1 by omega]
  simp only [stateV, List.getElem?_cons_succ]
  exact tabV_get tr h1 h2
theorem stateV_set (n : Int) (lv sv : Value) (tr : List St) {s : St} (h1 : -128 ≤ s.lit) (h2 : s.lit ≤ 128) (h0 : s.lit ≠ 0) : (stateV n lv sv tr).set (3 + atN s.lit) (.bool true) = stateV n lv sv (tr ++ [s]) := by
  rw [show 3 + atN s.lit = atN s.lit + 1 + 1 + 1 by omega]
  simp only [stateV, List.set_cons_succ, tabV_set tr h1 h2 h0]
/-- The state: a block S behind all that was; its trail in a block of its own behind S. -/
structure Uni (w0 w : World) (S : Nat) (n : Int) (lv : Value) (tr : List St) : Prop where
  body : ∃ sv, OwnB w S (stateV n lv sv tr) 97 ∧ OwnS w 55 (S + 1) sv tr
  ex : Ex w0 w
  low : w0.heap.size ≤ S
theorem Uni.lt {w0 w : World} {S : Nat} {n : Int} {lv : Value} {tr : List St} (h : Uni w0 w S n lv tr) : S < w.heap.size := by
  obtain ⟨sv, h1, _⟩ := h.body; exact h1.lt
theorem Uni.more {w0 w w' : World} {S : Nat} {n : Int} {lv : Value} {tr : List St} (h : Uni w0 w S n lv tr) (hx : Ex w w') : Uni w0 w' S n lv tr := by
  obtain ⟨⟨sv, h1, h2⟩, h3, h4⟩ := h
  exact ⟨⟨sv, h1.ex hx, h2.ex hx⟩, h3.trans hx, h4⟩
set_option maxHeartbeats 400000 in
theorem unitAt_any (l : Int) (h1 : -128 ≤ l) (h2 : l ≤ 128) (w : World) :
    Calls Try.prog 59 #[.int .i64 l] w fun e w' => e = .returned (.int .i64 (atN l)) ∧ w = w' := by
  by_cases h : l < 0
  · go_enter Try.func59, Try.ntmps59
    go_wp2
    go_ret
    exact ⟨ret_int (by unfold atN; split <;> omega), rfl⟩
  · go_enter Try.func59, Try.ntmps59
    go_wp2
    go_ret
    exact ⟨ret_int (by unfold atN; split <;> omega), rfl⟩
set_option maxHeartbeats 2000000 in
theorem unitAdd_any (w0 w : World) (S : Nat) (n : Int) (lv : Value) (tr : List St) (s : St) (hu : Uni w0 w S n lv tr) (h1 : -128 ≤ s.lit) (h2 : s.lit ≤ 128) (h0 : s.lit ≠ 0) (hlen : tr.length ≤ 1000) :
    Calls Try.prog 60 #[.pointer (some ⟨S, 0, none⟩), .agg #[.int .i64 s.lit, .int .i64 s.why, .int .i64 s.lev]] w fun e w' => e = .returned (.tuple #[]) ∧ Uni w0 w' S n lv (tr ++ [s]) := by
  have HA : Hid (∀ wa, Calls Try.prog 59 #[.int .i64 s.lit] wa fun e w' => e = .returned (.int .i64 (atN s.lit)) ∧ wa = w') := fun wa => unitAt_any s.lit h1 h2 wa
  obtain ⟨⟨sv, hS, hown⟩, hx, hlow⟩ := hu
  have hSlt := hS.lt
  go_enter Try.func60, Try.ntmps60
  go_wp2
  generalize hw1 : w.alloc (.cells #[.int .i64 s.lit, .int .i64 s.why, .int .i64 s.lev] 55) = w1
  have hx1 : Ex w w1 := hw1 ▸ Ex.alloc _ _
  have hB1 : OwnB w1 w.heap.size [.int .i64 s.lit, .int .i64 s.why, .int .i64 s.lev] 55 := hw1 ▸ OwnB.new w [.int .i64 s.lit, .int .i64 s.why, .int .i64 s.lev] 55
  have hS1 := hS.ex hx1
  have hown1 := hown.ex hx1
  have hb0 := hB1.cell 0
  have hb1 := hB1.cell 1
  have hb2 := hB1.cell 2
  have hblt := hB1.lt
  have hSlt1 := hS1.lt
  have hSw : S < w.heap.size := hSlt
  clear hw1 hS
  generalize hB : w.heap.size = B at *
  have hne : B ≠ S := by omega
  have c2 : w1.cell? ⟨S, 2, none⟩ = some sv := hS1.cell 2
  go_region_law ((refine step_append_step stepT_unit (by rfl) (.tmp 8) (.tmp 10) (by rfl) (by rfl) (by rfl) (hown1.ex ((Ex.alloc w1 _).drew)) (st_new_drew w1 s _) (by omega) (by show _ ≤ (w1.heap.push _).size; simp; omega) ?_; intro v5 w5 hown5 hg5 hat5; obtain ⟨a5, c5, rfl, _, _, _⟩ := hown5.steps; have hS5 : OwnB w5 S _ _ := own_grown (hS1.ex ((Ex.alloc w1 _).drew)) hg5 (fun e => by have := (hown1.lt S e).1; omega); have c25 : w5.cell? ⟨S, 2, none⟩ = some sv := hS5.cell 2; have f25 : w5.frozen? ⟨S, 2, none⟩ = false := hS5.free 2))
  all_goals (
    go_wp2_with fail
    have hx15 : Ex w1 (w1.alloc (.cells #[.int .i64 s.lit, .int .i64 s.why, .int .i64 s.lev] 55)).drew := (Ex.alloc w1 _).drew
    have hnb : sv.ownBlock ≠ some B := fun e => by have := (hown.lt B e).2; omega
    have hB5 : OwnB w5 B _ _ := own_grown (hB1.ex hx15) hg5 hnb
    have hB6 := hB5.set_other 2 (.slice a5 (tr.length + 1) c5) (fun e => hne e.symm)
    have hS6 := hS5.set 2 (.slice a5 (tr.length + 1) c5)
    have hown6 : OwnS (w5.setCell ⟨S, 2, none⟩ (.slice a5 (tr.length + 1) c5)) 55 (S + 1) (.slice a5 (tr.length + 1) c5) (tr ++ [s]) := by
      rw [show (tr ++ [s]).length = tr.length + 1 by simp] at hown5
      exact hown5.setOther (Nat.lt_succ_self S) 2 _
    have hx6 : Ex w0 (w5.setCell ⟨S, 2, none⟩ (.slice a5 (tr.length + 1) c5)) := (grown_ex ((hx.trans hx1).trans hx15) hg5 (fun k hk => by have := (hown1.lt k hk).1; omega)).setCell hlow _
    have eS : (stateV n lv sv tr).set 2 (.slice a5 (tr.length + 1) c5) = stateV n lv (.slice a5 (tr.length + 1) c5) tr := rfl
    rw [eS] at hS6
    clear hS5 hB5 hg5 hat5 hown5 hx15 hnb eS c25 f25 hS1 hown1 hb0 hb1 hb2 c2
    generalize (Value.slice a5 (tr.length + 1) c5) = sv6 at *
    generalize w5.setCell ⟨S, 2, none⟩ sv6 = w6 at *
    have hb0 := hB6.cell 0
    have hblt6 := hB6.lt
    have hSlt6 := hS6.lt
    have hat := atN_lt h1 h2
    have c6 := hS6.cell (3 + atN s.lit)
    rw [stateV_tab n lv sv6 tr h1 h2] at c6
    have f6 := hS6.free (3 + atN s.lit)
    have hS7 := hS6.set (3 + atN s.lit) (.bool true)
    have hown7 := hown6.setOther (Nat.lt_succ_self S) (3 + atN s.lit) (.bool true)
    rw [stateV_set n lv sv6 tr h1 h2 h0] at hS7
    have hU : Uni w0 (w6.setCell ⟨S, 3 + atN s.lit, none⟩ (.bool true)) S n lv (tr ++ [s]) := ⟨⟨sv6, hS7, hown7⟩, hx6.setCell hlow _, hlow⟩
    have q1 : ((atN s.lit : Nat) : Int) < 258 := by omega
    have q0 : (0 : Int) ≤ ((atN s.lit : Nat) : Int) := by omega
    clear hS7 hown7 hS6 hown6 hB6 hx6
    generalize trueT tr s.lit = tb at *
    generalize atN s.lit = an at *
    go_region_law ((go_simp; go_at_call 59; refine (HA.out _).mono ?_; rintro e w' ⟨rfl, rfl⟩))
    all_goals (
      go_wp2
      go_end0
      exact ⟨rfl, hU.more ((Ex.refl _).drew)⟩))
/-- What the closure finds out about a literal: none: the clause is true, or has two open ones; otherwise the open one so far. -/
def see1 (tr : List St) (x l : Int) : Option Int := if trueT tr l = true then none else if trueT tr (-l) = true ∨ l = x then some x else if x = 0 then some l else none
theorem scan_see (tr : List St) (y : Int) (t : List Int) (x : Int) : scanF tr (y :: t) x = (see1 tr x y).bind (scanF tr t) := by
  simp only [scanF, see1]
  split
  · rfl
  · split
    · rfl
    · split <;> rfl
/-- What the closure leaves. -/
def SeeRet (wb : World) (S B1 B2 B3 : Nat) (o : Option Int) (e : Ending) (w' : World) : Prop :=
  e = .returned (.bool o.isSome) ∧ Ex wb w' ∧ OwnB w' B1 [.pointer (some ⟨S, 0, none⟩)] 94 ∧ (∃ u, OwnB w' B2 [u] 3) ∧ ∀ x, o = some x → OwnB w' B2 [.int .i64 x] 3 ∧ OwnB w' B3 [.bool true] 4
set_option maxHeartbeats 2000000 in
theorem unitSee_any (wb w : World) (S B1 B2 B3 : Nat) (n : Int) (lv sv : Value) (tr : List St) (x l : Int) (hS : OwnB wb S (stateV n lv sv tr) 97) (hx : Ex wb w) (hb1 : wb.heap.size ≤ B1) (hb2 : wb.heap.size ≤ B2) (hb3 : wb.heap.size ≤ B3)
    (n12 : B1 ≠ B2) (n13 : B1 ≠ B3) (n23 : B2 ≠ B3) (h1 : OwnB w B1 [.pointer (some ⟨S, 0, none⟩)] 94) (h2 : OwnB w B2 [.int .i64 x] 3) (h3 : OwnB w B3 [.bool true] 4)
    (hl1 : -128 ≤ l) (hl2 : l ≤ 128) (hl0 : l ≠ 0) :
    Calls Try.prog 83 #[.int .i64 l, .pointer (some ⟨B1, 0, none⟩), .pointer (some ⟨B2, 0, none⟩), .pointer (some ⟨B3, 0, none⟩)] w (SeeRet wb S B1 B2 B3 (see1 tr x l)) := by
  have HA1 : Hid (∀ wa, Calls Try.prog 59 #[.int .i64 l] wa fun e w' => e = .returned (.int .i64 (atN l)) ∧ wa = w') := fun wa => unitAt_any l hl1 hl2 wa
  have HA2 : Hid (∀ wa, Calls Try.prog 59 #[.int .i64 (-l)] wa fun e w' => e = .returned (.int .i64 (atN (-l))) ∧ wa = w') := fun wa => unitAt_any (-l) (by omega) (by omega) wa
  have hSw := hS.ex hx
  have d1 := hSw.cell (3 + atN l)
  rw [stateV_tab n lv sv tr hl1 hl2] at d1
  have d2 := hSw.cell (3 + atN (-l))
  rw [stateV_tab n lv sv tr (show -128 ≤ -l by omega) (show -l ≤ 128 by omega)] at d2
  have a1 := atN_lt hl1 hl2
  have a2 := atN_lt (show -128 ≤ -l by omega) (show -l ≤ 128 by omega)
  have e1 := h1.cell 0
  have e2 := h2.cell 0
  have e3 := h3.cell 0
  have hs : Hid (see1 tr x l = if trueT tr l = true then none else if trueT tr (-l) = true ∨ l = x then some x else if x = 0 then some l else none) := rfl
  have q1 : ((atN l : Nat) : Int) < 258 := by omega
  have q2 : ((atN (-l) : Nat) : Int) < 258 := by omega
  have z1 := h1.lt
  have z2 := h2.lt
  have z3 := h3.lt
  have zS := hSw.lt
  generalize see1 tr x l = o at *
  generalize trueT tr l = T1 at *
  generalize trueT tr (-l) = T2 at *
  generalize atN l = k1 at *
  generalize atN (-l) = k2 at *
  have d1x := ext_cell d1
  have d2x := ext_cell d2
  have e1x := ext_cell e1
  have e2x := ext_cell e2
  cases T1
  · cases T2
    · by_cases hlx : l = x
      · have ho : o = some x := by rw [hs.out, if_neg (by simp), if_pos (.inr hlx)]
        have hb : (l == x) = true := by simp [hlx]
        subst ho
        clear hs hlx
        go_enter Try.func83, Try.ntmps83
        go_wp2
        refine wp_region_quiet_ext (by kernel_rfl) (by kernel_rfl) ?_
        repeat (go_big_quiet_step ((go_at_call 59; exact Calls.quiet_ext_same (HA1.out _))))
        refine wpQuiet_nil ?_
        intro w8 hx8
        replace hx := hx.trans hx8
        replace h1 := h1.ex hx8
        replace h2 := h2.ex hx8
        replace h3 := h3.ex hx8
        replace d2 := ex_cell d2 hx8
        clear d1 d1x d2x e1x e2x e1 e2 e3 zS z1 z2 z3 hx8
        have e1 := h1.cell 0
        have e2 := h2.cell 0
        have z1 := h1.lt
        have z2 := h2.lt
        have d2x := ext_cell d2
        have e1x := ext_cell e1
        have e2x := ext_cell e2
        go_wp2
        refine wp_region_quiet_ext (by kernel_rfl) (by kernel_rfl) ?_
        repeat (go_big_quiet_step ((go_at_call 59; exact Calls.quiet_ext_same (HA2.out _))))
        refine wpQuiet_nil ?_
        intro w9 hx9
        replace hx := hx.trans hx9
        replace h1 := h1.ex hx9
        replace h2 := h2.ex hx9
        replace h3 := h3.ex hx9
        clear d2 d2x e1x e2x e1 e2 z1 z2 hx9
        go_wp2
        go_ret
        exact ⟨rfl, hx, h1, ⟨_, h2⟩, fun y h => (by cases h; exact ⟨h2, h3⟩)⟩
      · have hb : (l == x) = false := by simp [hlx]
        by_cases hx0 : x = 0
        · have ho : o = some l := by rw [hs.out, if_neg (by simp), if_neg (by simp [hlx]), if_pos hx0]
          have hz : (x == 0) = true := by simp [hx0]
          subst ho
          clear hs hlx hx0
          go_enter Try.func83, Try.ntmps83
          go_wp2
          refine wp_region_quiet_ext (by kernel_rfl) (by kernel_rfl) ?_
          repeat (go_big_quiet_step ((go_at_call 59; exact Calls.quiet_ext_same (HA1.out _))))
          refine wpQuiet_nil ?_
          intro w8 hx8
          replace hx := hx.trans hx8
          replace h1 := h1.ex hx8
          replace h2 := h2.ex hx8
          replace h3 := h3.ex hx8
          replace d2 := ex_cell d2 hx8
          clear d1 d1x d2x e1x e2x e1 e2 e3 zS z1 z2 z3 hx8
          have e1 := h1.cell 0
          have e2 := h2.cell 0
          have z1 := h1.lt
          have z2 := h2.lt
          have d2x := ext_cell d2
          have e1x := ext_cell e1
          have e2x := ext_cell e2
          go_wp2
          refine wp_region_quiet_ext (by kernel_rfl) (by kernel_rfl) ?_
          repeat (go_big_quiet_step ((go_at_call 59; exact Calls.quiet_ext_same (HA2.out _))))
          refine wpQuiet_nil ?_
          intro w9 hx9
          replace hx := hx.trans hx9
          replace h1 := h1.ex hx9
          replace h2 := h2.ex hx9
          replace h3 := h3.ex hx9
          clear d2 d2x e1x e2x e1 e2 z1 z2 hx9
          have e2 := h2.cell 0
          have e3 := h3.cell 0
          have f2 := h2.free 0
          have f3 := h3.free 0
          have z2 := h2.lt
          have z3 := h3.lt
          have g3 := (h3.set 0 (.bool true)).set_other 0 (.int .i64 l) n23
          have g2 := (h2.set_other 0 (.bool true) n23.symm).set 0 (.int .i64 l)
          have g1 := (h1.set_other 0 (.bool true) n13.symm).set_other 0 (.int .i64 l) n12.symm
          have gx := (hx.setCell (p := ⟨B3, 0, none⟩) hb3 (.bool true)).setCell (p := ⟨B2, 0, none⟩) hb2 (.int .i64 l)
          go_wp2
          go_ret
          exact ⟨rfl, gx, g1, ⟨_, g2⟩, fun y h => (by cases h; exact ⟨g2, g3⟩)⟩
        · have ho : o = none := by rw [hs.out, if_neg (by simp), if_neg (by simp [hlx]), if_neg hx0]
          have hz : (x == 0) = false := by simp [hx0]
          subst ho
          clear hs hlx hx0
          go_enter Try.func83, Try.ntmps83
          go_wp2
          refine wp_region_quiet_ext (by kernel_rfl) (by kernel_rfl) ?_
          repeat (go_big_quiet_step ((go_at_call 59; exact Calls.quiet_ext_same (HA1.out _))))
          refine wpQuiet_nil ?_
          intro w8 hx8
          replace hx := hx.trans hx8
          replace h1 := h1.ex hx8
          replace h2 := h2.ex hx8
          replace h3 := h3.ex hx8
          replace d2 := ex_cell d2 hx8
          clear d1 d1x d2x e1x e2x e1 e2 e3 zS z1 z2 z3 hx8
          have e1 := h1.cell 0
          have e2 := h2.cell 0
          have z1 := h1.lt
          have z2 := h2.lt
          have d2x := ext_cell d2
          have e1x := ext_cell e1
          have e2x := ext_cell e2
          go_wp2
          refine wp_region_quiet_ext (by kernel_rfl) (by kernel_rfl) ?_
          repeat (go_big_quiet_step ((go_at_call 59; exact Calls.quiet_ext_same (HA2.out _))))
          refine wpQuiet_nil ?_
          intro w9 hx9
          replace hx := hx.trans hx9
          replace h1 := h1.ex hx9
          replace h2 := h2.ex hx9
          replace h3 := h3.ex hx9
          clear d2 d2x e1x e2x e1 e2 z1 z2 hx9
          have e2 := h2.cell 0
          have e3 := h3.cell 0
          have f2 := h2.free 0
          have f3 := h3.free 0
          have z2 := h2.lt
          have z3 := h3.lt
          have g2 := (h2.set_other 0 (.bool false) n23.symm).set 0 (.int .i64 l)
          have g1 := (h1.set_other 0 (.bool false) n13.symm).set_other 0 (.int .i64 l) n12.symm
          have gx := (hx.setCell (p := ⟨B3, 0, none⟩) hb3 (.bool false)).setCell (p := ⟨B2, 0, none⟩) hb2 (.int .i64 l)
          go_wp2
          go_ret
          exact ⟨rfl, gx, g1, ⟨_, g2⟩, fun y h => (by cases h)⟩
    · have ho : o = some x := by rw [hs.out, if_neg (by simp), if_pos (.inl rfl)]
      subst ho
      clear hs
      go_enter Try.func83, Try.ntmps83
      go_wp2
      refine wp_region_quiet_ext (by kernel_rfl) (by kernel_rfl) ?_
      repeat (go_big_quiet_step ((go_at_call 59; exact Calls.quiet_ext_same (HA1.out _))))
      refine wpQuiet_nil ?_
      intro w8 hx8
      replace hx := hx.trans hx8
      replace h1 := h1.ex hx8
      replace h2 := h2.ex hx8
      replace h3 := h3.ex hx8
      replace d2 := ex_cell d2 hx8
      clear d1 d1x d2x e1x e2x e1 e2 e3 zS z1 z2 z3 hx8
      have e1 := h1.cell 0
      have e2 := h2.cell 0
      have z1 := h1.lt
      have z2 := h2.lt
      have d2x := ext_cell d2
      have e1x := ext_cell e1
      have e2x := ext_cell e2
      go_wp2
      refine wp_region_quiet_ext (by kernel_rfl) (by kernel_rfl) ?_
      repeat (go_big_quiet_step ((go_at_call 59; exact Calls.quiet_ext_same (HA2.out _))))
      refine wpQuiet_nil ?_
      intro w9 hx9
      replace hx := hx.trans hx9
      replace h1 := h1.ex hx9
      replace h2 := h2.ex hx9
      replace h3 := h3.ex hx9
      clear d2 d2x e1x e2x e1 e2 z1 z2 hx9
      go_wp2
      go_ret
      exact ⟨rfl, hx, h1, ⟨_, h2⟩, fun y h => (by cases h; exact ⟨h2, h3⟩)⟩
  · have ho : o = none := by rw [hs.out]; rfl
    subst ho
    clear hs
    go_enter Try.func83, Try.ntmps83
    go_wp2
    refine wp_region_quiet_ext (by kernel_rfl) (by kernel_rfl) ?_
    repeat (go_big_quiet_step ((go_at_call 59; exact Calls.quiet_ext_same (HA1.out _))))
    refine wpQuiet_nil ?_
    intro w8 hx8
    go_wp2
    go_ret
    exact ⟨rfl, hx.trans hx8, h1.ex hx8, ⟨_, h2.ex hx8⟩, fun x h => (by cases h)⟩
end Go.Proofs.Yteagoaiiacideaa
