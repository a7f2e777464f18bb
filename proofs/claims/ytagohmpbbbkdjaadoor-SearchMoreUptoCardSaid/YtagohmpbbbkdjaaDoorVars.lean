/- Sets of variables: each Go function returns what the plain definition says, and old memory stays. No condition but that the words fit. -/
import Derived.Test.YtagohmpbbbkdjaaDoorLit
import Derived.Test.YtagohmpbbbkdjaaDoorEqSet
import Derived.Laws.BitsAllLaws
namespace Go.Proofs.YtagohmpbbbkdjaaDoor
set_option linter.unusedSimpArgs false
set_option linter.unusedVariables false
open Go.RowKit

theorem wrap_bit {u : Nat} (h : u < 64) : IntKind.u64.wrap (2 ^ u) = ((2 ^ u : Nat) : Int) := by
  have h1 : 2 ^ u < 2 ^ 64 := Nat.pow_lt_pow_right (by decide) h
  have e : ((2 : Int) ^ u) = ((2 ^ u : Nat) : Int) := by simp
  rw [IntKind.wrap_u64, e]
  generalize 2 ^ u = p at *
  omega
/-- The bit of a variable in its word. -/
def bitOf (v : Int) : Nat := 2 ^ ((v - 1) % 64).toNat
theorem bitOf_lt (v : Int) : bitOf v < 18446744073709551616 := by
  have : bitOf v < 2 ^ 64 := Nat.pow_lt_pow_right (by decide) (by omega)
  omega
theorem and_two_pow' (x k : Nat) : x &&& 2 ^ k = if x.testBit k then 2 ^ k else 0 := by
  apply Nat.eq_of_testBit_eq
  intro i
  rw [Nat.testBit_and, Nat.testBit_two_pow]
  by_cases h : k = i
  · subst h
    cases hx : x.testBit k <;> simp
  · cases hx : x.testBit k <;> simp [h, Nat.testBit_two_pow]
theorem and_bit (x k : Nat) : (((x &&& 2 ^ k : Nat) : Int) != 0) = x.testBit k := by
  have hp : 0 < 2 ^ k := Nat.pow_pos (by decide)
  rw [and_two_pow']
  generalize 2 ^ k = p at *
  cases x.testBit k
  · simp
  · simp; omega
set_option maxHeartbeats 400000 in
theorem varsPlace_any (v : Int) (h1 : 1 ≤ v) (h2 : v ≤ 128) (w : World) :
    Calls Tryd.prog 43 #[.int .i64 v] w fun e w' => e = .returned (.tuple #[.int .i64 ((v - 1) / 64), .int .u64 (bitOf v), .bool true]) ∧ w = w' := by
  have hw := wrap_bit (u := ((v - 1) % 64).toNat) (by omega)
  have hw2 : Hid (IntKind.u64.wrap (2 ^ ((v - 1) % 64).toNat) = (bitOf v : Int)) := hw
  generalize bitOf v = p at *
  clear hw
  go_enter Tryd.func43, Tryd.ntmps43
  go_wp2
  go_ret3
  refine ⟨?_, rfl⟩
  show Ending.returned (.tuple #[.int .i64 ((v - 1) / 64), .int .u64 (IntKind.u64.wrap (2 ^ ((v - 1) % 64).toNat)), .bool true]) = _
  rw [hw2.out]
/-- A set with one more variable. -/
def withV (s : Nat × Nat) (v : Int) : Nat × Nat := if v ≤ 64 then (s.1 ||| bitOf v, s.2) else (s.1, s.2 ||| bitOf v)
set_option maxHeartbeats 1000000 in
theorem varsWith_any (s : Nat × Nat) (v : Int) (h1 : 1 ≤ v) (h2 : v ≤ 128) (hx : s.1 < 18446744073709551616) (hy : s.2 < 18446744073709551616) (w : World) :
    Calls Tryd.prog 41 #[setV s.1 s.2, .int .i64 v] w fun e w' => e = .returned (setV (withV s v).1 (withV s v).2) ∧ Ex w w' := by
  obtain ⟨x, y⟩ := s
  unfold setV
  simp only at hx hy ⊢
  have hP : Hid _ := varsPlace_any v h1 h2
  by_cases h3 : v ≤ 64
  · have hq : (v - 1) / 64 = 0 := by omega
    have hor := u64_or_nat x (bitOf v) hx (bitOf_lt v)
    have e1 : withV (x, y) v = (x ||| bitOf v, y) := if_pos h3
    rw [e1]
    rw [hq] at hP
    simp only
    clear hx hy e1 hq
    generalize bitOf v = p at *
    generalize x ||| p = x' at *
    go_enter Tryd.func41, Tryd.ntmps41
    go_wp2_with (go_at_call 43; refine (hP.out _).mono ?_; rintro e w' ⟨rfl, rfl⟩)
    refine bodyPost_ret (v := .agg #[.int .u64 x', .int .u64 y]) (by simp [results, Tryd.results41, go_sem]) rfl ⟨rfl, ?_⟩
    repeat (first | exact Ex.refl _ | exact Ex.alloc _ _ | refine Ex.setCell ?_ (by simp) _ | refine Ex.alloc' ?_ _)
  · have hq : (v - 1) / 64 = 1 := by omega
    have hor := u64_or_nat y (bitOf v) hy (bitOf_lt v)
    have e1 : withV (x, y) v = (x, y ||| bitOf v) := if_neg h3
    rw [e1]
    rw [hq] at hP
    simp only
    clear hx hy e1 hq
    generalize bitOf v = p at *
    generalize y ||| p = y' at *
    go_enter Tryd.func41, Tryd.ntmps41
    go_wp2_with (go_at_call 43; refine (hP.out _).mono ?_; rintro e w' ⟨rfl, rfl⟩)
    refine bodyPost_ret (v := .agg #[.int .u64 x, .int .u64 y']) (by simp [results, Tryd.results41, go_sem]) rfl ⟨rfl, ?_⟩
    repeat (first | exact Ex.refl _ | exact Ex.alloc _ _ | refine Ex.setCell ?_ (by simp) _ | refine Ex.alloc' ?_ _)
set_option maxHeartbeats 1000000 in
theorem varsHas_any (x y : Nat) (hx : x < 18446744073709551616) (hy : y < 18446744073709551616) (v : Int) (w : World) :
    Calls Tryd.prog 24 #[setV x y, .int .i64 v] w fun e w' => e = .returned (.bool (hasB x y v)) ∧ Ex w w' := by
  unfold setV
  by_cases hv : 1 ≤ v ∧ v ≤ 128
  · obtain ⟨h1, h2⟩ := hv
    have hP : Hid _ := varsPlace_any v h1 h2
    by_cases h3 : v ≤ 64
    · have hand := u64_and_nat x (bitOf v) hx (bitOf_lt v)
      have hb : (((x &&& bitOf v : Nat) : Int) != 0) = hasB x y v := by rw [hasB_fst x y h1 h3]; exact and_bit _ _
      have Hb : Hid _ := hb
      have hq : (v - 1) / 64 = 0 := by omega
      rw [hq] at hP
      clear hx hy hb hq
      generalize bitOf v = p at *
      generalize hasB x y v = r at *
      generalize x &&& p = z at *
      have hz : ((z : Int) != 0) = r := Hb.out
      go_enter Tryd.func24, Tryd.ntmps24
      go_wp2_with (go_at_call 43; refine (hP.out _).mono ?_; rintro e w' ⟨rfl, rfl⟩)
      go_ret
      exact ⟨rfl, Ex.alloc _ _⟩
    · have hand := u64_and_nat y (bitOf v) hy (bitOf_lt v)
      have hb : (((y &&& bitOf v : Nat) : Int) != 0) = hasB x y v := by rw [hasB_snd x y h2 h3]; exact and_bit _ _
      have Hb : Hid _ := hb
      have hq : (v - 1) / 64 = 1 := by omega
      rw [hq] at hP
      clear hx hy hb hq
      generalize bitOf v = p at *
      generalize hasB x y v = r at *
      generalize y &&& p = z at *
      have hz : ((z : Int) != 0) = r := Hb.out
      go_enter Tryd.func24, Tryd.ntmps24
      go_wp2_with (go_at_call 43; refine (hP.out _).mono ?_; rintro e w' ⟨rfl, rfl⟩)
      go_ret
      exact ⟨rfl, Ex.alloc _ _⟩
  · have hP : Hid _ := varsPlace_no v (by omega)
    have hb : hasB x y v = false := by
      by_cases h : 1 ≤ v
      · exact hasB_high x y (by omega)
      · exact hasB_low x y h
    rw [hb]
    go_enter Tryd.func24, Tryd.ntmps24
    go_wp2_with (go_at_call 43; refine (hP.out _).mono ?_; rintro e w' ⟨rfl, rfl⟩)
    go_ret
    exact ⟨rfl, Ex.alloc _ _⟩
set_option maxHeartbeats 1000000 in
theorem litHolds_any (x y : Nat) (hx : x < 18446744073709551616) (hy : y < 18446744073709551616) (l : Int) (w : World) :
    Calls Tryd.prog 33 #[setV x y, .int .i64 l] w fun e w' => e = .returned (.bool (holdsB x y l)) ∧ Ex w w' := by
  have hr := litVar_range l
  have HH : Hid (∀ wa, Calls Tryd.prog 24 #[.agg #[.int .u64 x, .int .u64 y], .int .i64 (litVar l)] wa fun e w' => e = .returned (.bool (hasB x y (litVar l))) ∧ Ex wa w') := fun wa => varsHas_any x y hx hy (litVar l) wa
  by_cases h0 : 0 < litVar l
  · have hne : (litVar l != 0) = true := by simp; omega
    have e1 : holdsB x y l = (hasB x y (litVar l) == decide (0 < l)) := by unfold holdsB; rw [hne, Bool.true_and]
    rw [e1]; clear e1
    unfold setV
    have s0 : (w.alloc (.cells #[.int .u64 x, .int .u64 y] 30)).cell? ⟨w.heap.size, 0, none⟩ = some (.int .u64 x) := by simp
    have s1 : (w.alloc (.cells #[.int .u64 x, .int .u64 y] 30)).cell? ⟨w.heap.size, 1, none⟩ = some (.int .u64 y) := by simp
    have s0x := ext_cell s0
    have s1x := ext_cell s1
    have HV : Hid (∀ wa, Calls Tryd.prog 34 #[.int .i64 l] wa fun e w' => e = .returned (.int .i64 (litVar l)) ∧ wa = w') := fun wa => litVar_any l wa
    generalize hasB x y (litVar l) = r at *
    generalize litVar l = v at *
    go_enter Tryd.func33, Tryd.ntmps33
    go_wp2
    refine wp_region_quiet_ext (by kernel_rfl) (by kernel_rfl) ?_
    repeat (go_big_quiet_step ((first | (go_at_call 34; exact Calls.quiet_ext_same (HV.out _)) | (go_at_call 24; exact Calls.quiet_ext (HH.out _)))))
    refine wpQuiet_nil ?_
    intro w2 hx2
    go_wp2
    go_ret
    exact ⟨rfl, (Ex.alloc _ _).trans hx2⟩
  · have hz : litVar l = 0 := by omega
    have e1 : holdsB x y l = false := by unfold holdsB; rw [hz]; rfl
    rw [e1]; clear e1
    unfold setV
    have HV : Hid (∀ wa, Calls Tryd.prog 34 #[.int .i64 l] wa fun e w' => e = .returned (.int .i64 0) ∧ wa = w') := fun wa => by
      have := litVar_any l wa
      rwa [hz] at this
    clear HH hz hr
    go_enter Tryd.func33, Tryd.ntmps33
    go_wp2
    refine wp_region_quiet_ext (by kernel_rfl) (by kernel_rfl) ?_
    repeat (go_big_quiet_step ((first | (go_at_call 34; exact Calls.quiet_ext_same (HV.out _)))))
    refine wpQuiet_nil ?_
    intro w2 hx2
    go_wp2
    go_ret
    exact ⟨rfl, (Ex.alloc _ _).trans hx2⟩
end Go.Proofs.YtagohmpbbbkdjaaDoor
