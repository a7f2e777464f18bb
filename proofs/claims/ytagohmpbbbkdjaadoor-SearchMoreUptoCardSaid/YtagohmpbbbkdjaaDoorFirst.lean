/- vars.First: the least variable of a set: a range over a function whose body returns at once. Condition: the table of TrailingZeros64 lies as its initialiser lays it. -/
import Derived.Test.YtagohmpbbbkdjaaDoorSet
import Derived.Test.YtagohmpbbbkdjaaDoorOwn
import Derived.RangeFuncNested
import Derived.RangeFuncBound
import Derived.RangeFuncCalls
import Derived.RangeFuncLeaves
import Derived.RangeFuncFrom
import Derived.Shelf.Abstract
import Derived.Shelf.RegionOpen
import Derived.WalkKit
import Derived.OwnWalkIn
import Derived.TacticsInMore
import Derived.LoopNIn
import Derived.LoopIn
import Derived.Shelf.Spec.TrailingZeros
import Derived.Shelf.Lay
namespace Go.Proofs.YtagohmpbbbkdjaaDoor
set_option linter.unusedSimpArgs false
set_option linter.unusedVariables false
open Go.RowKit Go.Shelf
set_option maxRecDepth 20000
attribute [local go_sem] Oper.semAt_some
shelf_lay_g Lays7.n29 Nm7 29 at Tryd 48 as Tryd.tzL
/-- The table of TrailingZeros64. -/
def Tab (w : World) : Prop := TabAt (Tryd.tzL_ren.g 1) Lib.deBruijn64tab w
theorem tz_any (x : Nat) (hx : x < 18446744073709551616) (w : World) (hT : Tab w) :
    Calls Tryd.prog 48 #[.int .u64 x] w fun e w' => e = .returned (.int .i64 (Lib.ctz 64 x)) ∧ w' = w :=
  Any7.bits_TrailingZeros64 Tryd.tzL x hx w fun _ => hT
theorem Tab.below {w w' : World} {n₀ : Nat} (h : Tab w) (hx : Below n₀ w w') (hn : Tryd.tzL_ren.g 1 < n₀) : Tab w' := fun j hj => (hx.cell (p := ⟨Tryd.tzL_ren.g 1, j, none⟩) hn).trans (h j hj)
theorem Tab.ex {w w' : World} (h : Tab w) (hx : Ex w w') : Tab w' := fun j hj => ex_cell (h j hj) hx
theorem Tab.lt {w : World} (h : Tab w) : Tryd.tzL_ren.g 1 < w.heap.size := cell_lt (h 0 (by decide))
/-- The least variable of a set, or 0. -/
def firstV (x y : Nat) : Int := if x ≠ 0 then (Lib.ctz 64 x : Int) + 1 else if y ≠ 0 then 64 + (Lib.ctz 64 y : Int) + 1 else 0
theorem ctz_lt {x : Nat} (h0 : x ≠ 0) (hx : x < 2 ^ 64) : Lib.ctz 64 x < 64 := (Lib.lowest_bit 64 x h0 hx).2
theorem low_off {z : Nat} (h0 : z ≠ 0) (hz : z < 2 ^ 64) : ∃ m : Nat, m < z ∧ bits BinOp.and IntKind.u64 (z : Int) ((z : Int) - 1) = (m : Int) := by
  refine ⟨z &&& (z - 1), ?_, ?_⟩
  · have := Nat.and_le_right (n := z) (m := z - 1)
    omega
  · have e : ((z : Int) - 1) = ((z - 1 : Nat) : Int) := by omega
    rw [e, bits_and_u64_nat z (z - 1) hz (by omega)]
/-- What has come so far of a set. -/
structure Came (x y : Nat) (i : Nat) (z : Nat) (pre : List Int) : Prop where
  no : pre = [] → (i = 0 → z = x) ∧ (i = 1 → x = 0 ∧ z = y) ∧ (i = 2 → x = 0 ∧ y = 0)
  some : pre ≠ [] → pre.head? = Option.some (firstV x y)
  len : pre.length + z + (if i = 0 then y else 0) ≤ x + y
theorem Came.add {x y i z m : Nat} {pre : List Int} (h : Came x y i z pre) (hi : i < 2) (h0 : z ≠ 0) (hm : m < z) : Came x y i m (pre ++ [64 * (i : Int) + (Lib.ctz 64 z : Int) + 1]) ∧ (pre ++ [64 * (i : Int) + (Lib.ctz 64 z : Int) + 1]).head? = Option.some (firstV x y) := by
  have hh : (pre ++ [64 * (i : Int) + (Lib.ctz 64 z : Int) + 1]).head? = Option.some (firstV x y) := by
    cases pre with
    | nil =>
      obtain ⟨h1, h2, _⟩ := h.no rfl
      rw [List.nil_append, List.head?_cons]
      unfold firstV
      rcases (by omega : i = 0 ∨ i = 1) with rfl | rfl
      · have := h1 rfl; subst this
        rw [if_pos h0]; simp
      · obtain ⟨e1, e2⟩ := h2 rfl
        subst e2
        rw [if_neg (by omega), if_pos h0]; simp
    | cons a t => rw [List.cons_append, List.head?_cons]; simpa using h.some (by simp)
  refine ⟨⟨fun e => by simp at e, fun _ => hh, ?_⟩, hh⟩
  have := h.len
  simp only [List.length_append, List.length_cons, List.length_nil]
  omega
theorem Came.next0 {x y : Nat} {pre : List Int} (h : Came x y 0 0 pre) : Came x y 1 y pre :=
  ⟨fun e => ⟨fun h => absurd h (by decide), fun _ => ⟨((h.no e).1 rfl).symm, rfl⟩, fun h => absurd h (by decide)⟩, h.some, by have := h.len; simp at *; omega⟩
theorem Came.next1 {x y : Nat} {pre : List Int} (h : Came x y 1 0 pre) : Came x y 2 0 pre :=
  ⟨fun e => ⟨fun h => absurd h (by decide), fun h => absurd h (by decide), fun _ => ⟨((h.no e).2.1 rfl).1, ((h.no e).2.1 rfl).2.symm⟩⟩, h.some, by have := h.len; simp at *; omega⟩
set_option maxRecDepth 100000 in
set_option maxHeartbeats 4000000 in
theorem members1_in (l Bn n₀ x y : Nat) (hx : x < 2 ^ 64) (hy : y < 2 ^ 64) (J Jx : List Int → World → Prop)
    (hY : ∀ pre v W, J pre W → pre.length < x + y → YieldAt Fence.wide (2 - 1) Tryd.prog l #[.int .i64 v] W fun e W' =>
      (e = .returned (.bool true) ∧ J (pre ++ [v]) W' ∧ Below n₀ W W') ∨ (e = .returned (.bool false) ∧ Jx (pre ++ [v]) W'))
    (W : World) (b0 : W.cell? ⟨Bn, 0, none⟩ = some (.int .u64 x)) (b1 : W.cell? ⟨Bn, 1, none⟩ = some (.int .u64 y)) (hT : Tab W) (hn : Tryd.tzL_ren.g 1 < n₀) (h0 : J [] W) :
    CallsIn Fence.wide 2 Tryd.prog 47 #[.func (.yield l) #[] #[], .pointer (some ⟨Bn, 0, none⟩)] W fun e W' => (∃ v, e = .returned v) ∧
      ((∃ ys : List Int, (ys = [] → x = 0 ∧ y = 0) ∧ J ys W') ∨ (∃ pre : List Int, pre.head? = some (firstV x y) ∧ Jx pre W')) := by
  have HY : Hid _ := hY
  have zB := cell_lt b0
  have i0 : ∀ w : World, (Instr.index 30 (.agg #[.int .u64 x, .int .u64 y]) (.int .i64 0)).run Tryd.prog w = .ok (.int .u64 x) w := fun _ => by kernel_rfl
  have i1 : ∀ w : World, (Instr.index 30 (.agg #[.int .u64 x, .int .u64 y]) (.int .i64 1)).run Tryd.prog w = .ok (.int .u64 y) w := fun _ => by kernel_rfl
  refine callsIn_of_wp Tryd.func47 rfl trivial ?_ rfl
  simp only [Tryd.ntmps47, List.size_toArray, List.length_cons, List.length_nil, Nat.reduceAdd, Nat.reduceSub, Array.replicate_succ, Array.replicate_zero, List.push_toArray, List.append_toArray, List.nil_append, List.cons_append]
  gi_wp2
  gi_loopw [6] (fun iv wr => ∃ (i z : Nat) (pre : List Int), i ≤ 2 ∧ iv = .int .i64 i ∧ Hid (Came x y i z pre) ∧ z = (if i = 0 then x else if i = 1 then y else 0) ∧ J pre wr ∧ Tab wr) (fun iv _ => 2 - (intOf iv).toNat)
  case atStart => exact ⟨0, x, [], by omega, rfl, ⟨fun _ => ⟨fun _ => rfl, (fun h => absurd h (by decide)), (fun h => absurd h (by decide))⟩, (fun h => absurd rfl h), by simp⟩, rfl, h0, hT⟩
  case round =>
    obtain ⟨i, z, pre, hi, rfl, hC, hz, hJ, hTr⟩ := hrel
    rcases (by omega : i = 0 ∨ i = 1 ∨ i = 2) with rfl | rfl | rfl
    · have hz0 : x = z := hz.symm
      subst hz0
      rw [show ((0 : Nat) : Int) = 0 from rfl]
      gi_wp2
      refine ⟨fun f hf => trivial, ?_⟩
      simp [Oper.semAt, go_sem, i0]
      gi_wp2
      gi_loopw [4] (fun zv wr => ∃ (q : Nat) (pre : List Int), zv = .int .u64 q ∧ q < 2 ^ 64 ∧ Hid (Came x y 0 q pre) ∧ J pre wr ∧ Tab wr) (fun zv _ => (intOf zv).toNat)
      case atStart => exact ⟨_, pre, rfl, by first | exact hx | exact hy, by first | exact hC | (rw [hz] at hC; exact hC), hJ, hTr⟩
      case round =>
        clear hC hJ hTr hz
        obtain ⟨q, pre, rfl, hq, hC, hJ, hTr⟩ := hrel
        by_cases hq0 : q = 0
        · subst hq0
          gi_wp2
          go_roundw
          case rel => exact ⟨1, y, pre, by omega, by go_num, hC.out.next0, rfl, hJ, hTr⟩
          case measure => simp [intOf]
        · obtain ⟨m, hm, hbits⟩ := low_off hq0 hq
          have hk := ctz_lt hq0 hq
          obtain ⟨hC2, hhead⟩ := hC.out.add (m := m) (by omega) hq0 hm
          have hTZ : Hid _ := tz_any q hq wr hTr
          have hlen : pre.length < x + y := by have := hC.out.len; omega
          obtain ⟨k, hkk⟩ : ∃ k, k = Lib.ctz 64 q := ⟨_, rfl⟩
          rw [← hkk] at hk hC2 hhead hTZ
          have hv : 64 * ((0 : Nat) : Int) + (k : Int) + 1 = (k : Int) + 1 := by simp
          rw [hv] at hC2 hhead
          have HC2 : Hid _ := hC2
          have Hhead : Hid _ := hhead
          obtain ⟨fn, tmps, assign, body, hyy, hR⟩ := HY.out pre ((k : Int) + 1) wr hJ hlen
          have hq00 : ((q : Int) == 0) = false := by rw [beq_eq_false_iff_ne]; omega
          have hw : IntKind.u64.wrap ((q : Int) - 1) = q - 1 := IntWalk.u64_in _ (by omega)
          clear hC hkk hC2 hhead hv HY
          gi_wp2_with (refine ⟨trivial, ?_⟩; gi_at_call 48; refine (callsIn_wide.2 hTZ.out).mono ?_; clear hTZ; rintro e w' ⟨rfl, rfl⟩)
          refine hR.mono ?_
          rintro e W3 (⟨rfl, hJ3, hk3⟩ | ⟨rfl, hJx3⟩)
          · have hT3 := hTr.below hk3 hn
            gi_wp2
            go_roundw
            case rel => exact ⟨m, pre ++ [(k : Int) + 1], rfl, by omega, HC2, hJ3, hT3⟩
            case measure => simp [intOf]; omega
          · gi_wp2
            refine bodyPost_ret (results_none rfl _ _ _) rfl ?_
            exact ⟨⟨_, rfl⟩, .inr ⟨pre ++ [(k : Int) + 1], Hhead.out, hJx3⟩⟩
    · have hz0 : y = z := hz.symm
      subst hz0
      rw [show ((1 : Nat) : Int) = 1 from rfl]
      gi_wp2
      refine ⟨fun f hf => trivial, ?_⟩
      simp [Oper.semAt, go_sem, i1]
      gi_wp2
      gi_loopw [4] (fun zv wr => ∃ (q : Nat) (pre : List Int), zv = .int .u64 q ∧ q < 2 ^ 64 ∧ Hid (Came x y 1 q pre) ∧ J pre wr ∧ Tab wr) (fun zv _ => (intOf zv).toNat)
      case atStart => exact ⟨_, pre, rfl, by first | exact hx | exact hy, by first | exact hC | (rw [hz] at hC; exact hC), hJ, hTr⟩
      case round =>
        clear hC hJ hTr hz
        obtain ⟨q, pre, rfl, hq, hC, hJ, hTr⟩ := hrel
        by_cases hq0 : q = 0
        · subst hq0
          gi_wp2
          go_roundw
          case rel => exact ⟨2, 0, pre, by omega, by go_num, hC.out.next1, rfl, hJ, hTr⟩
          case measure => simp [intOf]
        · obtain ⟨m, hm, hbits⟩ := low_off hq0 hq
          have hk := ctz_lt hq0 hq
          obtain ⟨hC2, hhead⟩ := hC.out.add (m := m) (by omega) hq0 hm
          have hTZ : Hid _ := tz_any q hq wr hTr
          have hlen : pre.length < x + y := by have := hC.out.len; omega
          obtain ⟨k, hkk⟩ : ∃ k, k = Lib.ctz 64 q := ⟨_, rfl⟩
          rw [← hkk] at hk hC2 hhead hTZ
          have hv : 64 * ((1 : Nat) : Int) + (k : Int) + 1 = 64 + (k : Int) + 1 := by simp
          rw [hv] at hC2 hhead
          have HC2 : Hid _ := hC2
          have Hhead : Hid _ := hhead
          obtain ⟨fn, tmps, assign, body, hyy, hR⟩ := HY.out pre (64 + (k : Int) + 1) wr hJ hlen
          have hq00 : ((q : Int) == 0) = false := by rw [beq_eq_false_iff_ne]; omega
          have hw : IntKind.u64.wrap ((q : Int) - 1) = q - 1 := IntWalk.u64_in _ (by omega)
          clear hC hkk hC2 hhead hv HY
          gi_wp2_with (refine ⟨trivial, ?_⟩; gi_at_call 48; refine (callsIn_wide.2 hTZ.out).mono ?_; clear hTZ; rintro e w' ⟨rfl, rfl⟩)
          refine hR.mono ?_
          rintro e W3 (⟨rfl, hJ3, hk3⟩ | ⟨rfl, hJx3⟩)
          · have hT3 := hTr.below hk3 hn
            gi_wp2
            go_roundw
            case rel => exact ⟨m, pre ++ [64 + (k : Int) + 1], rfl, by omega, HC2, hJ3, hT3⟩
            case measure => simp [intOf]; omega
          · gi_wp2
            refine bodyPost_ret (results_none rfl _ _ _) rfl ?_
            exact ⟨⟨_, rfl⟩, .inr ⟨pre ++ [64 + (k : Int) + 1], Hhead.out, hJx3⟩⟩
    · rw [show ((2 : Nat) : Int) = 2 from rfl]
      gi_wp2
      go_end0
      exact ⟨⟨_, rfl⟩, .inl ⟨pre, fun e => (hC.out.no e).2.2 rfl, hJ⟩⟩
set_option maxHeartbeats 1000000 in
theorem members_in (n x y : Nat) (w : World) :
    CallsIn Fence.wide n Tryd.prog 42 #[.agg #[.int .u64 x, .int .u64 y]] w fun e w' => e = .returned (.func (.func 47) #[] #[.pointer (some ⟨w.heap.size, 0, none⟩)]) ∧ w' = w.alloc (.cells #[.int .u64 x, .int .u64 y] 30) := by
  refine callsIn_of_wp Tryd.func42 rfl trivial ?_ rfl
  simp only [Tryd.ntmps42, List.size_toArray, List.length_cons, List.length_nil, Nat.reduceAdd, Nat.reduceSub, Array.replicate_succ, Array.replicate_zero, List.push_toArray, List.append_toArray, List.nil_append, List.cons_append]
  gi_wp2
  go_ret
  exact ⟨rfl, rfl⟩
set_option maxRecDepth 100000 in
set_option maxHeartbeats 4000000 in
theorem first_in (x y : Nat) (hx : x < 2 ^ 64) (hy : y < 2 ^ 64) (w : World) (hT : Tab w) :
    CallsIn Fence.wide 3 Tryd.prog 21 #[.agg #[.int .u64 x, .int .u64 y]] w fun e W' => e = .returned (.int .i64 (firstV x y)) ∧ Below w.heap.size w W' := by
  refine callsIn_of_wp_marks Tryd.func21 rfl trivial ?_ rfl
  simp only [Tryd.ntmps21, List.size_toArray, List.length_cons, List.length_nil, Nat.reduceAdd, Nat.reduceSub, Array.replicate_succ, Array.replicate_zero, List.push_toArray, List.append_toArray, List.nil_append, List.cons_append]
  gi_wp2_with (refine ⟨trivial, ?_⟩; gi_at_call 42; refine (members_in _ x y _).mono ?_; rintro e w' ⟨rfl, rfl⟩)
  obtain ⟨w3, hw3⟩ : ∃ w3, w3 = ((w.alloc (.cells #[.int .u64 x, .int .u64 y] 30)).alloc (.cells #[.int .i64 0] 3)).alloc (.cells #[.int .u64 x, .int .u64 y] 30) := ⟨_, rfl⟩
  have oR := (OwnB.new (w.alloc (.cells #[.int .u64 x, .int .u64 y] 30)) [.int .i64 0] 3).ex (Ex.alloc _ (.cells #[.int .u64 x, .int .u64 y] 30))
  have oM := OwnB.new ((w.alloc (.cells #[.int .u64 x, .int .u64 y] 30)).alloc (.cells #[.int .i64 0] 3)) [.int .u64 x, .int .u64 y] 30
  have hB0 : Ex w w3 := by rw [hw3]; exact (((Ex.refl w).alloc' _).alloc' _).alloc' _
  have hsz : w3.heap.size = w.heap.size + 1 + 1 + 1 := by rw [hw3, World.size_alloc, World.size_alloc, World.size_alloc]
  simp only [World.size_alloc] at oR oM
  rw [← hw3] at oR oM ⊢
  clear hw3
  have m0 := oM.cell 0
  have m1 := oM.cell 1
  have hT3 := hT.ex hB0
  have hlt := hT.lt
  have hst : SeqStopsK Fence.wide (3 - 1) Tryd.prog 47 #[.pointer (some ⟨w.heap.size + 1 + 1, 0, none⟩)] (fun v : Int => #[Value.int .i64 v]) (Below w.heap.size) (fun ys => ys = [] → x = 0 ∧ y = 0) (fun pre => pre.head? = some (firstV x y)) (x + y) w3 := fun l J Jx W hW _ _ hY h0 => by
    have e0 : w.heap.size + 1 + 1 < w3.heap.size := by omega
    exact members1_in l (w.heap.size + 1 + 1) w.heap.size x y hx hy J Jx hY W ((hW.cell (p := ⟨w.heap.size + 1 + 1, 0, none⟩) e0).trans m0) ((hW.cell (p := ⟨w.heap.size + 1 + 1, 1, none⟩) e0).trans m1) (hT3.ex hW) hlt h0
  refine wpIn_rangeFunc_ownF rfl (by omega) (gf := 47) (lb := #[.pointer (some ⟨w.heap.size + 1 + 1, 0, none⟩)]) rfl trivial (enters_of Tryd.func47 (by kernel_rfl) rfl)
    hst belowK_t (belowK_b (by omega)) (Below.refl _ _) (fun _ => rfl)
    (fun pre W => (pre = [] ∧ W.cell? ⟨w.heap.size + 1, 0, none⟩ = some (.int .i64 0) ∧ W.frozen? ⟨w.heap.size + 1, 0, none⟩ = false) ∧ Below w.heap.size w W)
    (fun c pre W => (c = .ret ∧ ∃ v, pre = [v] ∧ W.cell? ⟨w.heap.size + 1, 0, none⟩ = some (.int .i64 v)) ∧ Below w.heap.size w W)
    (OwnFrom.and (Own.from (fun s A B row hs hg hr => ⟨hs.1, cell_kept hs.2.1 hg hr, (frozen_kept hs.2.1 hg hr).trans hs.2.2⟩) _) (ownFrom_below (Nat.le_refl _) (by omega)))
    (fun c => OwnFrom.and (Own.from (fun s A B row hs hg hr => ⟨hs.1, hs.2.choose, hs.2.choose_spec.1, cell_kept hs.2.choose_spec.2 hg hr⟩) _) (ownFrom_below (Nat.le_refl _) (by omega)))
    ⟨⟨rfl, oR.cell 0, oR.free 0⟩, hB0⟩
    (fun v => { tmps := #[.agg #[.int .u64 x, .int .u64 y], .pointer (some ⟨w.heap.size, 0, none⟩), .pointer (some ⟨w.heap.size + 1, 0, none⟩), .int .i64 v, .agg #[.int .u64 x, .int .u64 y], .func (.func 47) #[] #[.pointer (some ⟨w.heap.size + 1 + 1, 0, none⟩)], .int .i64 v, undef], defers := [] }) ?assign ?body ?done ?stop
  case assign =>
    intro l v W K hK
    gi_wp2
    exact hK
  case body =>
    rintro l pre v W ⟨⟨hp, hc, hf⟩, hB⟩ _
    gi_wp2
    exact ⟨KeepsOthers.setCell _ _ _, ⟨rfl, v, by rw [hp]; rfl, World.cell?_setCell_same' _ _ _ (by rw [hc]; rfl)⟩, hB.setCell (p := ⟨w.heap.size + 1, 0, none⟩) (by simp) _⟩
  case done =>
    rintro D ys W hD hS ⟨⟨hp, hcr, hfr⟩, hB⟩ hK
    have hS' := hS hp
    have hf0 : firstV x y = 0 := by rw [hS'.1, hS'.2]; rfl
    clear hS hS'
    gi_wp2
    have hK' := (KeepsOthers.setCell W ⟨w.heap.size + 1, 0, none⟩ (.int .i64 0)).same D _ hK rfl
    refine ⟨by simp, .inl ⟨_, _, rfl, run_takeDeferred hK', ?_⟩⟩
    have hc5 := cell_kept (World.cell?_setCell_same' W ⟨w.heap.size + 1, 0, none⟩ (.int .i64 0) (by rw [hcr]; rfl)) (grownBy_putObj' _ D (.deferred none)) (fun r e => by cases e; exact ⟨_, hK', rfl⟩)
    refine ⟨.int .i64 0, ?_, by rw [hf0], (hB.setCell (p := ⟨w.heap.size + 1, 0, none⟩) (by simp) _).trans (belowK_b (w := w) (Nat.le_refl _) _ D _ _ (by omega) hK' rfl rfl)⟩
    simp [results, Tryd.f21, go_sem, hc5]
  case stop =>
    rintro D c pre W hD hpre ⟨⟨rfl, v, rfl, hcr⟩, hB⟩ hK
    have hv : v = firstV x y := by simpa using hpre
    subst hv
    gi_wp2
    refine ⟨by simp, .inl ⟨_, _, rfl, run_takeDeferred hK, ?_⟩⟩
    have hc5 := cell_kept hcr (grownBy_putObj' _ D (.deferred none)) (fun r e => by cases e; exact ⟨_, hK, rfl⟩)
    refine ⟨.int .i64 (firstV x y), ?_, rfl, hB.trans (belowK_b (w := w) (Nat.le_refl _) W D _ _ (by omega) hK rfl rfl)⟩
    simp [results, Tryd.f21, go_sem, hc5]
theorem varsFirst_any (x y : Nat) (hx : x < 2 ^ 64) (hy : y < 2 ^ 64) (w : World) (hT : Tab w) :
    Calls Tryd.prog 21 #[.agg #[.int .u64 x, .int .u64 y]] w fun e w' => e = .returned (.int .i64 (firstV x y)) ∧ Ex w w' := callsIn_wide.1 (first_in x y hx hy w hT)
end Go.Proofs.YtagohmpbbbkdjaaDoor
