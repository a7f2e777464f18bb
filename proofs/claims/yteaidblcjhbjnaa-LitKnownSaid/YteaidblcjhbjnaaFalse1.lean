/- censuslaw04.false1: the set of the variables of the negative literals. No condition but that the numbers are literals. -/
import Derived.Test.YteaidblcjhbjnaaLaw04a
import Derived.BigRegion
namespace Go.Proofs.Yteaidblcjhbjnaa
set_option linter.unusedSimpArgs false
set_option linter.unusedVariables false
open Go.RowKit
/-- A set with one more variable. -/
def orW (s : Nat × Nat) (v : Int) : Nat × Nat := if v ≤ 64 then (s.1 ||| bitOf v, s.2) else (s.1, s.2 ||| bitOf v)
theorem hasB_orW {x y : Nat} {v : Int} (h1 : 1 ≤ v) (h2 : v ≤ 128) (u : Int) (hu1 : 1 ≤ u) (hu2 : u ≤ 128) : hasB (orW (x, y) v).1 (orW (x, y) v).2 u = (hasB x y u || u == v) := by
  unfold orW bitOf
  by_cases h3 : v ≤ 64
  · rw [if_pos h3]
    by_cases h4 : u ≤ 64
    · rw [hasB_fst _ _ hu1 h4, hasB_fst _ _ hu1 h4]
      simp only [Nat.testBit_or, Nat.testBit_two_pow]
      congr 1
      rw [Bool.eq_iff_iff]; simp; omega
    · rw [hasB_snd _ _ hu2 h4, hasB_snd _ _ hu2 h4]
      have : (u == v) = false := by simp; omega
      rw [this, Bool.or_false]
  · rw [if_neg h3]
    by_cases h4 : u ≤ 64
    · rw [hasB_fst _ _ hu1 h4, hasB_fst _ _ hu1 h4]
      have : (u == v) = false := by simp; omega
      rw [this, Bool.or_false]
    · rw [hasB_snd _ _ hu2 h4, hasB_snd _ _ hu2 h4]
      simp only [Nat.testBit_or, Nat.testBit_two_pow]
      congr 1
      rw [Bool.eq_iff_iff]; simp; omega
theorem orW_lt {x y : Nat} (v : Int) (hx : x < 18446744073709551616) (hy : y < 18446744073709551616) : (orW (x, y) v).1 < 18446744073709551616 ∧ (orW (x, y) v).2 < 18446744073709551616 := by
  have hb := bitOf_lt v
  unfold orW
  split
  · exact ⟨Nat.or_lt_two_pow (n := 64) hx hb, hy⟩
  · exact ⟨hx, Nat.or_lt_two_pow (n := 64) hy hb⟩
def FalseRet (w : World) (c : List Int) (e : Ending) (w' : World) : Prop := ∃ x y : Nat, e = .returned (setV x y) ∧ x < 18446744073709551616 ∧ y < 18446744073709551616 ∧ (∀ u : Int, 1 ≤ u → u ≤ 128 → hasB x y u = c.contains (-u)) ∧ Ex w w'
theorem contains_snoc (l : List Int) (a z : Int) : (l ++ [a]).contains z = (l.contains z || z == a) := by
  rw [Bool.eq_iff_iff]
  simp [List.contains_iff_mem]
set_option maxRecDepth 100000 in
set_option maxHeartbeats 4000000 in
theorem false1_any (cv : Value) (c : List Int) (w : World) (hc : IntsAt w cv c) (hv : ∀ x ∈ c, litVar x ≠ 0) :
    Calls Try.prog 28 #[cv] w (FalseRet w c) := by
  have hc0 := hc
  obtain ⟨a, cap, rfl, h1, h2, h3⟩ := hc
  unfold maxLen at h2
  clear h3
  have HB : Hid (∀ k, k < c.length → -128 ≤ c.getD k 0 ∧ c.getD k 0 ≤ 128 ∧ c.getD k 0 ≠ 0) := fun k hk => by
    have := hv _ (show c.getD k 0 ∈ c by rw [getD_getElem hk]; exact List.getElem_mem hk)
    unfold litVar at this
    refine ⟨?_, ?_, ?_⟩ <;> (repeat' split at this) <;> omega
  have oB1 := OwnB.new w [.int .u64 0, .int .u64 0] 39
  have oB2 := OwnB.new (w.alloc (.cells #[.int .u64 0, .int .u64 0] 39)) [.int .u64 0, .int .u64 0] 39
  simp only [alloc_size] at oB2
  replace oB1 := oB1.ex (Ex.alloc _ (.cells #[.int .u64 0, .int .u64 0] 39))
  have hx0 : Ex w _ := (Ex.alloc w (.cells #[.int .u64 0, .int .u64 0] 39)).alloc' (.cells #[.int .u64 0, .int .u64 0] 39)
  clear hv
  go_enter Try.func28, Try.ntmps28
  go_wp2
  generalize (w.alloc (.cells #[.int .u64 0, .int .u64 0] 39)).alloc (.cells #[.int .u64 0, .int .u64 0] 39) = w1 at *
  have hB1 : w.heap.size ≤ w.heap.size := Nat.le_refl _
  have hB2 : w.heap.size ≤ w.heap.size + 1 := Nat.le_succ _
  have hne : w.heap.size ≠ w.heap.size + 1 := by omega
  generalize w.heap.size + 1 = B at *
  go_loopw [4] (fun i wr => ∃ (k x y : Nat), k ≤ c.length ∧ i = .int .i64 k ∧ Ex w wr ∧ OwnB wr w.heap.size [.int .u64 0, .int .u64 0] 39 ∧ OwnB wr B [.int .u64 x, .int .u64 y] 39 ∧
    Hid (x < 18446744073709551616) ∧ Hid (y < 18446744073709551616) ∧ Hid (∀ u : Int, 1 ≤ u → u ≤ 128 → hasB x y u = (c.take k).contains (-u))) (fun i _ => c.length - (intOf i).toNat)
  case atStart => exact ⟨0, 0, 0, Nat.zero_le _, rfl, hx0, oB1, oB2, by show (0 : Nat) < _; decide, by show (0 : Nat) < _; decide, fun u _ _ => by simp [hasB]⟩
  case round =>
    obtain ⟨k, x, y, hk, rfl, hx, o1, o2, hlx, hly, hd⟩ := hrel
    clear oB1 oB2 hx0
    by_cases hlt : k < c.length
    · obtain ⟨_, _, hv, _, _, h3⟩ := hc0
      cases hv
      obtain ⟨b, off, rfl, hb0, hcell0⟩ := h3 k hlt
      have hcell := ex_cell hcell0 hx
      have hb : b < wr.heap.size := cell_lt hcell
      have hbB : b ≠ B := by omega
      have hBb : B ≠ b := by omega
      clear h3
      obtain ⟨b1, b2, b3⟩ := HB.out k hlt
      have hS : ∀ u : Int, (c.take (k + 1)).contains (-u) = ((c.take k).contains (-u) || -u == c.getD k 0) := fun u => by
        rw [List.take_succ_eq_append_getElem hlt, contains_snoc, getD_getElem hlt]
      by_cases hneg : c.getD k 0 < 0
      · have hw := orW_lt (x := x) (y := y) (-(c.getD k 0)) hlx.out hly.out
        have hd2 : Hid (∀ u : Int, 1 ≤ u → u ≤ 128 → hasB (orW (x, y) (-(c.getD k 0))).1 (orW (x, y) (-(c.getD k 0))).2 u = (c.take (k + 1)).contains (-u)) := fun u hu1 hu2 => by
          rw [hasB_orW (by omega) (by omega) u hu1 hu2, hd.out u hu1 hu2, hS]
          congr 1
          rw [Bool.eq_iff_iff]; simp; omega
        have hwb := wrap_bit (u := ((-(c.getD k 0) - 1) % 64).toNat) (by omega)
        by_cases h64 : -(c.getD k 0) ≤ 64
        · have hq : (-(c.getD k 0) - 1) / 64 = 0 := by omega
          have e1 : orW (x, y) (-(c.getD k 0)) = (x ||| bitOf (-(c.getD k 0)), y) := if_pos h64
          have hor := u64_or_nat x (bitOf (-(c.getD k 0))) hlx.out (bitOf_lt _)
          have hwb2 : IntKind.u64.wrap (2 ^ ((-(c.getD k 0) - 1) % 64).toNat) = ((bitOf (-(c.getD k 0)) : Nat) : Int) := hwb
          rw [e1] at hw hd2
          have hl1 : Hid (x ||| bitOf (-(c.getD k 0)) < 18446744073709551616) := hw.1
          clear hd hS e1 hw hwb hlx
          generalize bitOf (-(c.getD k 0)) = p at *
          generalize x ||| p = x' at *
          generalize c.getD k 0 = l at *
          have cB := o2.cell 0
          have fB := o2.free 0
          have zB := o2.lt
          have o2' := o2.set 0 (.int .u64 x')
          have o1' := o1.set_other (c := B) 0 (.int .u64 x') hne.symm
          have hx' := hx.setCell (p := ⟨B, 0, none⟩) hB2 (.int .u64 x')
          have q1 : (k : Int) < (c.length : Int) := by omega
          have q0 : (0 : Int) ≤ (k : Int) := by omega
          have hbl : b < wr.heap.size := hb
          have ew1 : IntKind.i64.wrap (-l) = -l := IntWalk.i64_in _ (by omega)
          have ew2 : IntKind.i64.wrap (-l - 1) = -l - 1 := IntWalk.i64_in _ (by omega)
          have et1 : (-l - 1).tdiv 64 = 0 := by rw [Int.tdiv_eq_ediv_of_nonneg (by omega)]; exact hq
          have et2 : (-l - 1).tmod 64 = (-l - 1) % 64 := Int.tmod_eq_emod_of_nonneg (by omega)
          have er0 : (0 : Int) ≤ (-l - 1) % 64 := by omega
          have er1 : (-l - 1) % 64 < 64 := by omega
          have hval : bits BinOp.or IntKind.u64 (x : Int) (IntKind.u64.wrap (2 ^ ((-l - 1) % 64).toNat)) = (x' : Int) := by
            rw [hwb2]; exact hor
          clear hwb2 hor
          go_wp2_with fail
          go_region
          go_wp2
          go_roundw
          case rel => exact ⟨k + 1, x', y, by omega, by go_num, hx'.drew, o1'.ex (Ex.refl _).drew, o2'.ex (Ex.refl _).drew, hl1, hly, hd2⟩
          case measure => simp [intOf]; omega
        · have hq : (-(c.getD k 0) - 1) / 64 = 1 := by omega
          have e1 : orW (x, y) (-(c.getD k 0)) = (x, y ||| bitOf (-(c.getD k 0))) := if_neg h64
          have hor := u64_or_nat y (bitOf (-(c.getD k 0))) hly.out (bitOf_lt _)
          have hwb2 : IntKind.u64.wrap (2 ^ ((-(c.getD k 0) - 1) % 64).toNat) = ((bitOf (-(c.getD k 0)) : Nat) : Int) := hwb
          rw [e1] at hw hd2
          have hl1 : Hid (y ||| bitOf (-(c.getD k 0)) < 18446744073709551616) := hw.2
          clear hd hS e1 hw hwb hly
          generalize bitOf (-(c.getD k 0)) = p at *
          generalize y ||| p = x' at *
          generalize c.getD k 0 = l at *
          have cB := o2.cell 1
          have fB := o2.free 1
          have zB := o2.lt
          have o2' := o2.set 1 (.int .u64 x')
          have o1' := o1.set_other (c := B) 1 (.int .u64 x') hne.symm
          have hx' := hx.setCell (p := ⟨B, 1, none⟩) hB2 (.int .u64 x')
          have q1 : (k : Int) < (c.length : Int) := by omega
          have q0 : (0 : Int) ≤ (k : Int) := by omega
          have hbl : b < wr.heap.size := hb
          have ew1 : IntKind.i64.wrap (-l) = -l := IntWalk.i64_in _ (by omega)
          have ew2 : IntKind.i64.wrap (-l - 1) = -l - 1 := IntWalk.i64_in _ (by omega)
          have et1 : (-l - 1).tdiv 64 = 1 := by rw [Int.tdiv_eq_ediv_of_nonneg (by omega)]; exact hq
          have et2 : (-l - 1).tmod 64 = (-l - 1) % 64 := Int.tmod_eq_emod_of_nonneg (by omega)
          have er0 : (0 : Int) ≤ (-l - 1) % 64 := by omega
          have er1 : (-l - 1) % 64 < 64 := by omega
          have hval : bits BinOp.or IntKind.u64 (y : Int) (IntKind.u64.wrap (2 ^ ((-l - 1) % 64).toNat)) = (x' : Int) := by
            rw [hwb2]; exact hor
          clear hwb2 hor
          go_wp2_with fail
          go_region
          go_wp2
          go_roundw
          case rel => exact ⟨k + 1, x, x', by omega, by go_num, hx'.drew, o1'.ex (Ex.refl _).drew, o2'.ex (Ex.refl _).drew, hlx, hl1, hd2⟩
          case measure => simp [intOf]; omega
      · have hneg' : ¬ c.getD k 0 < 0 := hneg
        have hd2 : Hid (∀ u : Int, 1 ≤ u → u ≤ 128 → hasB x y u = (c.take (k + 1)).contains (-u)) := fun u hu1 hu2 => by
          rw [hd.out u hu1 hu2, hS, show (-u == c.getD k 0) = false by rw [beq_eq_false_iff_ne]; omega, Bool.or_false]
        clear hd hS
        generalize c.getD k 0 = l at *
        go_wp2
        go_roundw
        case rel => exact ⟨k + 1, x, y, by omega, by go_num, hx, o1, o2, hlx, hly, hd2⟩
        case measure => simp [intOf]; omega
    · obtain rfl : k = c.length := by omega
      rw [List.take_length] at hd
      have d0 := o1.cell 0
      have d1 := o1.cell 1
      have e0 := o1.free 0
      have e1 := o1.free 1
      have f0 := o2.cell 0
      have f1 := o2.cell 1
      have z1 := o1.lt
      have z2 := o2.lt
      have g1 := (o1.set 0 (.int .u64 x)).set 1 (.int .u64 y)
      have k0 := g1.cell 0
      have k1 := g1.cell 1
      have hx' := (hx.setCell (p := ⟨w.heap.size, 0, none⟩) (Nat.le_refl _) (.int .u64 x)).setCell (p := ⟨w.heap.size, 1, none⟩) (Nat.le_refl _) (.int .u64 y)
      go_wp2
      refine bodyPost_ret (v := .agg #[.int .u64 x, .int .u64 y]) (by simp [results, Try.results28, go_sem, k0, k1]) rfl ⟨x, y, rfl, hlx.out, hly.out, hd.out, hx'⟩
end Go.Proofs.Yteaidblcjhbjnaa
