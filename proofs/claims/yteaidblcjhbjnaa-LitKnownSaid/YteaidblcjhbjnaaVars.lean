/- Sets of variables: each Go function returns what the plain definition says, and old memory stays. No condition but that the words fit. -/
import Derived.Test.YteaidblcjhbjnaaLit
import Derived.Test.YteaidblcjhbjnaaEqSet
import Derived.Laws.BitsAllLaws
namespace Go.Proofs.Yteaidblcjhbjnaa
set_option linter.unusedSimpArgs false
set_option linter.unusedVariables false
open Go.RowKit

theorem wrap_bit {u : Nat} (h : u < 64) : IntKind.u64.wrap (2 ^ u) = ((2 ^ u : Nat) : Int) := by
  have h1 : 2 ^ u < 2 ^ 64 := Nat.pow_lt_pow_right (by decide) h
  have e : ((2 : Int) ^ u) = ((2 ^ u : Nat) : Int) := by simp
  rw [IntKind.wrap_u64, e]
  generalize 2 ^ u = p at *
  omega
/-- The bit of a variable in its word. -/
def bitOf (v : Int) : Nat := 2 ^ ((v - 1) % 64).toNat
theorem bitOf_lt (v : Int) : bitOf v < 18446744073709551616 := by
  have : bitOf v < 2 ^ 64 := Nat.pow_lt_pow_right (by decide) (by omega)
  omega
theorem and_two_pow' (x k : Nat) : x &&& 2 ^ k = if x.testBit k then 2 ^ k else 0 := by
  apply Nat.eq_of_testBit_eq
  intro i
  rw [Nat.testBit_and, Nat.testBit_two_pow]
  by_cases h : k = i
  · subst h
    cases hx : x.testBit k <;> simp
  · cases hx : x.testBit k <;> simp [h, Nat.testBit_two_pow]
theorem and_bit (x k : Nat) : (((x &&& 2 ^ k : Nat) : Int) != 0) = x.testBit k := by
  have hp : 0 < 2 ^ k := Nat.pow_pos (by decide)
  rw [and_two_pow']
  generalize 2 ^ k = p at *
  cases x.testBit k
  · simp
  · simp; omega
set_option maxHeartbeats 400000 in
theorem varsPlace_any (v : Int) (h1 : 1 ≤ v) (h2 : v ≤ 128) (w : World) :
    Calls Try.prog 57 #[.int .i64 v] w fun e w' => e = .returned (.tuple #[.int .i64 ((v - 1) / 64), .int .u64 (bitOf v), .bool true]) ∧ w = w' := by
  have hw := wrap_bit (u := ((v - 1) % 64).toNat) (by omega)
  have hw2 : Hid (IntKind.u64.wrap (2 ^ ((v - 1) % 64).toNat) = (bitOf v : Int)) := hw
  generalize bitOf v = p at *
  clear hw
  go_enter Try.func57, Try.ntmps57
  go_wp2
  go_ret3
  refine ⟨?_, rfl⟩
  show Ending.returned (.tuple #[.int .i64 ((v - 1) / 64), .int .u64 (IntKind.u64.wrap (2 ^ ((v - 1) % 64).toNat)), .bool true]) = _
  rw [hw2.out]
set_option maxHeartbeats 1000000 in
theorem varsHas_any (x y : Nat) (hx : x < 18446744073709551616) (hy : y < 18446744073709551616) (v : Int) (w : World) :
    Calls Try.prog 46 #[setV x y, .int .i64 v] w fun e w' => e = .returned (.bool (hasB x y v)) ∧ Ex w w' := by
  unfold setV
  by_cases hv : 1 ≤ v ∧ v ≤ 128
  · obtain ⟨h1, h2⟩ := hv
    have hP : Hid _ := varsPlace_any v h1 h2
    by_cases h3 : v ≤ 64
    · have hand := u64_and_nat x (bitOf v) hx (bitOf_lt v)
      have hb : (((x &&& bitOf v : Nat) : Int) != 0) = hasB x y v := by rw [hasB_fst x y h1 h3]; exact and_bit _ _
      have Hb : Hid _ := hb
      have hq : (v - 1) / 64 = 0 := by omega
      rw [hq] at hP
      clear hx hy hb hq
      generalize bitOf v = p at *
      generalize hasB x y v = r at *
      generalize x &&& p = z at *
      have hz : ((z : Int) != 0) = r := Hb.out
      go_enter Try.func46, Try.ntmps46
      go_wp2_with (go_at_call 57; refine (hP.out _).mono ?_; rintro e w' ⟨rfl, rfl⟩)
      go_ret
      exact ⟨rfl, Ex.alloc _ _⟩
    · have hand := u64_and_nat y (bitOf v) hy (bitOf_lt v)
      have hb : (((y &&& bitOf v : Nat) : Int) != 0) = hasB x y v := by rw [hasB_snd x y h2 h3]; exact and_bit _ _
      have Hb : Hid _ := hb
      have hq : (v - 1) / 64 = 1 := by omega
      rw [hq] at hP
      clear hx hy hb hq
      generalize bitOf v = p at *
      generalize hasB x y v = r at *
      generalize y &&& p = z at *
      have hz : ((z : Int) != 0) = r := Hb.out
      go_enter Try.func46, Try.ntmps46
      go_wp2_with (go_at_call 57; refine (hP.out _).mono ?_; rintro e w' ⟨rfl, rfl⟩)
      go_ret
      exact ⟨rfl, Ex.alloc _ _⟩
  · have hP : Hid _ := varsPlace_no v (by omega)
    have hb : hasB x y v = false := by
      by_cases h : 1 ≤ v
      · exact hasB_high x y (by omega)
      · exact hasB_low x y h
    rw [hb]
    go_enter Try.func46, Try.ntmps46
    go_wp2_with (go_at_call 57; refine (hP.out _).mono ?_; rintro e w' ⟨rfl, rfl⟩)
    go_ret
    exact ⟨rfl, Ex.alloc _ _⟩
set_option maxHeartbeats 1000000 in
theorem litHolds_any (x y : Nat) (hx : x < 18446744073709551616) (hy : y < 18446744073709551616) (l : Int) (w : World) :
    Calls Try.prog 29 #[setV x y, .int .i64 l] w fun e w' => e = .returned (.bool (holdsB x y l)) ∧ Ex w w' := by
  have hr := litVar_range l
  have HH : Hid (∀ wa, Calls Try.prog 46 #[.agg #[.int .u64 x, .int .u64 y], .int .i64 (litVar l)] wa fun e w' => e = .returned (.bool (hasB x y (litVar l))) ∧ Ex wa w') := fun wa => varsHas_any x y hx hy (litVar l) wa
  by_cases h0 : 0 < litVar l
  · have hne : (litVar l != 0) = true := by simp; omega
    have e1 : holdsB x y l = (hasB x y (litVar l) == decide (0 < l)) := by unfold holdsB; rw [hne, Bool.true_and]
    rw [e1]; clear e1
    unfold setV
    have s0 : (w.alloc (.cells #[.int .u64 x, .int .u64 y] 39)).cell? ⟨w.heap.size, 0, none⟩ = some (.int .u64 x) := by simp
    have s1 : (w.alloc (.cells #[.int .u64 x, .int .u64 y] 39)).cell? ⟨w.heap.size, 1, none⟩ = some (.int .u64 y) := by simp
    have s0x := ext_cell s0
    have s1x := ext_cell s1
    have HV : Hid (∀ wa, Calls Try.prog 12 #[.int .i64 l] wa fun e w' => e = .returned (.int .i64 (litVar l)) ∧ wa = w') := fun wa => litVar_any l wa
    generalize hasB x y (litVar l) = r at *
    generalize litVar l = v at *
    go_enter Try.func29, Try.ntmps29
    go_wp2
    refine wp_region_quiet_ext (by kernel_rfl) (by kernel_rfl) ?_
    repeat (go_big_quiet_step ((first | (go_at_call 12; exact Calls.quiet_ext_same (HV.out _)) | (go_at_call 46; exact Calls.quiet_ext (HH.out _)))))
    refine wpQuiet_nil ?_
    intro w2 hx2
    go_wp2
    go_ret
    exact ⟨rfl, (Ex.alloc _ _).trans hx2⟩
  · have hz : litVar l = 0 := by omega
    have e1 : holdsB x y l = false := by unfold holdsB; rw [hz]; rfl
    rw [e1]; clear e1
    unfold setV
    have HV : Hid (∀ wa, Calls Try.prog 12 #[.int .i64 l] wa fun e w' => e = .returned (.int .i64 0) ∧ wa = w') := fun wa => by
      have := litVar_any l wa
      rwa [hz] at this
    clear HH hz hr
    go_enter Try.func29, Try.ntmps29
    go_wp2
    refine wp_region_quiet_ext (by kernel_rfl) (by kernel_rfl) ?_
    repeat (go_big_quiet_step ((first | (go_at_call 12; exact Calls.quiet_ext_same (HV.out _)))))
    refine wpQuiet_nil ?_
    intro w2 hx2
    go_wp2
    go_ret
    exact ⟨rfl, (Ex.alloc _ _).trans hx2⟩
end Go.Proofs.Yteaidblcjhbjnaa
