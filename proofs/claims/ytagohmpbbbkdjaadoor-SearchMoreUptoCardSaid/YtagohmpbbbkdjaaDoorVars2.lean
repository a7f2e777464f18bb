/- vars.Cut, Minus, All, Sub: what they return; old memory stays. No condition. -/
import Derived.Test.YtagohmpbbbkdjaaDoorVars
import Derived.Test.YtagohmpbbbkdjaaDoorSlices
import Derived.Test.YtagohmpbbbkdjaaDoorEqSet
import Derived.Test.YtagohmpbbbkdjaaDoorLits
namespace Go.Proofs.YtagohmpbbbkdjaaDoor
set_option linter.unusedSimpArgs false
set_option linter.unusedVariables false
open Go.RowKit
set_option maxRecDepth 20000
set_option maxHeartbeats 1000000 in
theorem varsMinus_any (x y u v : Nat) (hx : x < 18446744073709551616) (hy : y < 18446744073709551616) (hu : u < 18446744073709551616) (hv : v < 18446744073709551616) (w : World) :
    Calls Tryd.prog 23 #[setV x y, setV u v] w fun e w' => e = .returned (setV (x &&& (18446744073709551615 - u)) (y &&& (18446744073709551615 - v))) ∧ Ex w w' := by
  unfold setV
  have h1 := u64_andNot_nat x u hx hu
  have h2 := u64_andNot_nat y v hy hv
  clear hx hy hu hv
  generalize x &&& (18446744073709551615 - u) = p at *
  generalize y &&& (18446744073709551615 - v) = q at *
  go_enter Tryd.func23, Tryd.ntmps23
  go_wp2
  refine bodyPost_ret (v := .agg #[.int .u64 p, .int .u64 q]) (by simp [results, Tryd.results23, go_sem]) rfl ⟨rfl, ?_⟩
  repeat (first | exact Ex.refl _ | exact Ex.alloc _ _ | refine Ex.setCell ?_ (by simp) _ | refine Ex.alloc' ?_ _)
/-- The variables 1 to m. -/
def allV (m : Nat) : Nat × Nat := (List.range m).foldl (fun s (k : Nat) => withV s ((k : Int) + 1)) (0, 0)
theorem allV_succ (m : Nat) : allV (m + 1) = withV (allV m) ((m : Int) + 1) := by unfold allV; rw [List.range_succ, List.foldl_append]; rfl
theorem withV_lt64 {s : Nat × Nat} {v : Int} (h1 : s.1 < 18446744073709551616) (h2 : s.2 < 18446744073709551616) : (withV s v).1 < 18446744073709551616 ∧ (withV s v).2 < 18446744073709551616 := by
  have hb := bitOf_lt v
  unfold withV
  have e : (18446744073709551616 : Nat) = 2 ^ 64 := rfl
  rw [e] at *
  split
  · exact ⟨Nat.or_lt_two_pow h1 hb, h2⟩
  · exact ⟨h1, Nat.or_lt_two_pow h2 hb⟩
theorem allV_lt : ∀ m, (allV m).1 < 18446744073709551616 ∧ (allV m).2 < 18446744073709551616
  | 0 => by unfold allV; simp
  | m + 1 => by rw [allV_succ]; exact withV_lt64 (allV_lt m).1 (allV_lt m).2
/-- Whether all of a set is in another one. -/
def subB (x y u v : Nat) : Bool := decide (x &&& (18446744073709551615 - u) = 0) && decide (y &&& (18446744073709551615 - v) = 0)
set_option maxHeartbeats 1000000 in
theorem varsSub_any (x y u v : Nat) (hx : x < 18446744073709551616) (hy : y < 18446744073709551616) (hu : u < 18446744073709551616) (hv : v < 18446744073709551616) (w : World) :
    Calls Tryd.prog 28 #[setV x y, setV u v] w fun e w' => e = .returned (.bool (subB x y u v)) ∧ Ex w w' := by
  have HM : Hid (∀ wa, Calls Tryd.prog 23 #[setV x y, setV u v] wa fun e w' => e = .returned (setV (x &&& (18446744073709551615 - u)) (y &&& (18446744073709551615 - v))) ∧ Ex wa w') := fun wa => varsMinus_any x y u v hx hy hu hv wa
  have HB : Hid (∀ p q, p = x &&& (18446744073709551615 - u) → q = y &&& (18446744073709551615 - v) → ((((p : Nat) : Int) == 0) && (((q : Nat) : Int) == 0)) = subB x y u v) := fun p q hp hq => by
    subst hp hq; unfold subB; congr 1 <;> (rw [Bool.eq_iff_iff]; simp; try omega)
  have HB' := HB.out _ _ rfl rfl
  clear HB hx hy hu hv
  generalize x &&& (18446744073709551615 - u) = p at *
  generalize y &&& (18446744073709551615 - v) = q at *
  generalize subB x y u v = B at *
  have HB2 : Hid _ := HB'
  clear HB'
  unfold setV at *
  go_enter Tryd.func28, Tryd.ntmps28
  go_wp2_with fail
  refine (HM.out _).mono ?_
  rintro e w2 ⟨rfl, hx2⟩
  go_wp2
  go_ret
  refine ⟨ret_bool ?_, ?_⟩
  · rw [← HB2.out]
  · exact (((Ex.refl w).alloc' _).alloc' _).trans hx2
set_option maxHeartbeats 2000000 in
theorem varsAll_any (n : Int) (h0 : 0 ≤ n) (h1 : n ≤ 128) (w : World) :
    Calls Tryd.prog 29 #[.int .i64 n] w fun e w' => e = .returned (setV (allV n.toNat).1 (allV n.toNat).2) ∧ Ex w w' := by
  have HA : Hid (∀ (m : Nat) (wa : World), (m : Int) + 1 ≤ 128 → Calls Tryd.prog 41 #[setV (allV m).1 (allV m).2, .int .i64 ((m : Int) + 1)] wa fun e w' => e = .returned (setV (allV (m + 1)).1 (allV (m + 1)).2) ∧ Ex wa w') := fun m wa hm => by
    rw [allV_succ]; exact varsWith_any (allV m) _ (by omega) hm (allV_lt m).1 (allV_lt m).2 wa
  unfold setV at *
  obtain ⟨N, rfl⟩ : ∃ N : Nat, n = N := ⟨n.toNat, by omega⟩
  simp only [Int.toNat_natCast]
  have hmin : min (N : Int) 128 = N := by omega
  have z0 : allV 0 = (0, 0) := rfl
  have o0 := (OwnB.new w [.int .u64 0, .int .u64 0] 30).ex (Ex.alloc _ (.cells #[.int .u64 0, .int .u64 0] 30))
  have o1 := OwnB.new (w.alloc (.cells #[.int .u64 0, .int .u64 0] 30)) [.int .u64 0, .int .u64 0] 30
  have hx0 := (Ex.alloc w (.cells #[.int .u64 0, .int .u64 0] 30)).alloc' (.cells #[.int .u64 0, .int .u64 0] 30)
  rw [alloc_size] at o1
  have HZ : Hid ([Value.int .u64 ((allV 0).1 : Nat), .int .u64 ((allV 0).2 : Nat)] = [.int .u64 0, .int .u64 0]) := rfl
  clear z0
  go_enter Tryd.func29, Tryd.ntmps29
  go_wp2
  generalize (w.alloc (.cells #[.int .u64 0, .int .u64 0] 30)).alloc (.cells #[.int .u64 0, .int .u64 0] 30) = w1 at *
  have hB0 : w.heap.size ≤ w.heap.size := Nat.le_refl _
  have hB1 : w.heap.size ≤ w.heap.size + 1 := Nat.le_succ _
  have hne : w.heap.size ≠ w.heap.size + 1 := by omega
  generalize w.heap.size + 1 = B1 at *
  go_loopw [4] (fun i wr => ∃ m : Nat, m ≤ N ∧ i = .int .i64 ((m : Int) + 1) ∧ Ex w wr ∧ OwnB wr w.heap.size [.int .u64 0, .int .u64 0] 30 ∧ OwnB wr B1 [.int .u64 ((allV m).1 : Nat), .int .u64 ((allV m).2 : Nat)] 30) (fun i _ => (N + 1 - (intOf i).toNat))
  case atStart => exact ⟨0, Nat.zero_le _, rfl, hx0, o0, by rw [HZ.out]; exact o1⟩
  case round =>
    obtain ⟨m, hm, rfl, hx, q0, q1⟩ := hrel
    have e0 := q1.cell 0
    have e1 := q1.cell 1
    have f0 := q1.free 0
    have f1 := q1.free 1
    have z1 := q1.lt
    by_cases hlt : m < N
    · have HW := HA.out m wr (by omega)
      have HW' : Hid _ := HW
      obtain ⟨A1, hA1⟩ : ∃ A1, A1 = (allV (m + 1)).1 := ⟨_, rfl⟩
      obtain ⟨A2, hA2⟩ : ∃ A2, A2 = (allV (m + 1)).2 := ⟨_, rfl⟩
      rw [← hA1, ← hA2] at HW'
      have HQ : Hid (A1 = (allV (m + 1)).1 ∧ A2 = (allV (m + 1)).2) := ⟨hA1, hA2⟩
      clear HW HA hA1 hA2 o0 o1 HZ
      generalize (allV m).1 = C1 at *
      generalize (allV m).2 = C2 at *
      have hgo : (m : Int) + 1 ≤ N := by omega
      go_wp2_with fail
      refine Calls.mono HW'.out ?_
      rintro e w2 ⟨rfl, hx2⟩
      have q02 := q0.ex hx2
      have q12 := q1.ex hx2
      have e02 := q12.cell 0
      have e12 := q12.cell 1
      have f02 := q12.free 0
      have f12 := q12.free 1
      have z12 := q12.lt
      have q13 := (q12.set 0 (.int .u64 A1)).set 1 (.int .u64 A2)
      have q03 := (q02.set_other (c := B1) 0 (.int .u64 A1) hne.symm).set_other (c := B1) 1 (.int .u64 A2) hne.symm
      have hx3 := ((hx.trans hx2).setCell (p := ⟨B1, 0, none⟩) hB1 (.int .u64 A1)).setCell (p := ⟨B1, 1, none⟩) hB1 (.int .u64 A2)
      clear HW' q0 q1 q02 q12 e0 e1 f0 f1
      go_wp2
      go_roundw
      case rel => exact ⟨m + 1, by omega, by go_num, hx3, q03, by rw [← HQ.out.1, ← HQ.out.2]; exact q13⟩
      case measure => simp [intOf]; omega
    · obtain rfl : m = N := by omega
      have r0 := q0.cell 0
      have r1 := q0.cell 1
      have g0 := q0.free 0
      have g1 := q0.free 1
      have z0 := q0.lt
      have hgo : ¬ ((m : Int) + 1 ≤ m) := by omega
      clear HA o0 o1 HZ q0 q1
      obtain ⟨C1, hC1⟩ : ∃ C1, C1 = (allV m).1 := ⟨_, rfl⟩
      obtain ⟨C2, hC2⟩ : ∃ C2, C2 = (allV m).2 := ⟨_, rfl⟩
      have HQ : Hid (C1 = (allV m).1 ∧ C2 = (allV m).2) := ⟨hC1, hC2⟩
      rw [← hC1] at e0
      rw [← hC2] at e1
      clear hC1 hC2
      go_wp2
      refine bodyPost_ret (v := .agg #[.int .u64 C1, .int .u64 C2]) (by simp [results, Tryd.results29, go_sem, r0, r1, z0]) rfl ⟨by rw [HQ.out.1, HQ.out.2], ?_⟩
      exact (hx.setCell hB0 _).setCell hB0 _
set_option maxHeartbeats 2000000 in
theorem varsAll_big (n : Int) (hn : 128 < n) (w : World) :
    Calls Tryd.prog 29 #[.int .i64 n] w fun e w' => e = .returned (setV (allV 128).1 (allV 128).2) ∧ Ex w w' := by
  have HA : Hid (∀ (m : Nat) (wa : World), (m : Int) + 1 ≤ 128 → Calls Tryd.prog 41 #[setV (allV m).1 (allV m).2, .int .i64 ((m : Int) + 1)] wa fun e w' => e = .returned (setV (allV (m + 1)).1 (allV (m + 1)).2) ∧ Ex wa w') := fun m wa hm => by
    rw [allV_succ]; exact varsWith_any (allV m) _ (by omega) hm (allV_lt m).1 (allV_lt m).2 wa
  unfold setV at *
  obtain ⟨N, hN⟩ : ∃ N : Nat, N = 128 := ⟨_, rfl⟩
  rw [← hN]
  have hmin : min n 128 = 128 := by omega
  have hmn : ¬ (n ≤ 128) := by omega
  have z0 : allV 0 = (0, 0) := rfl
  have o0 := (OwnB.new w [.int .u64 0, .int .u64 0] 30).ex (Ex.alloc _ (.cells #[.int .u64 0, .int .u64 0] 30))
  have o1 := OwnB.new (w.alloc (.cells #[.int .u64 0, .int .u64 0] 30)) [.int .u64 0, .int .u64 0] 30
  have hx0 := (Ex.alloc w (.cells #[.int .u64 0, .int .u64 0] 30)).alloc' (.cells #[.int .u64 0, .int .u64 0] 30)
  rw [alloc_size] at o1
  have HZ : Hid ([Value.int .u64 ((allV 0).1 : Nat), .int .u64 ((allV 0).2 : Nat)] = [.int .u64 0, .int .u64 0]) := rfl
  clear z0
  go_enter Tryd.func29, Tryd.ntmps29
  go_wp2
  generalize (w.alloc (.cells #[.int .u64 0, .int .u64 0] 30)).alloc (.cells #[.int .u64 0, .int .u64 0] 30) = w1 at *
  have hB0 : w.heap.size ≤ w.heap.size := Nat.le_refl _
  have hB1 : w.heap.size ≤ w.heap.size + 1 := Nat.le_succ _
  have hne : w.heap.size ≠ w.heap.size + 1 := by omega
  generalize w.heap.size + 1 = B1 at *
  go_loopw [4] (fun i wr => ∃ m : Nat, m ≤ N ∧ i = .int .i64 ((m : Int) + 1) ∧ Ex w wr ∧ OwnB wr w.heap.size [.int .u64 0, .int .u64 0] 30 ∧ OwnB wr B1 [.int .u64 ((allV m).1 : Nat), .int .u64 ((allV m).2 : Nat)] 30) (fun i _ => (N + 1 - (intOf i).toNat))
  case atStart => exact ⟨0, Nat.zero_le _, rfl, hx0, o0, by rw [HZ.out]; exact o1⟩
  case round =>
    obtain ⟨m, hm, rfl, hx, q0, q1⟩ := hrel
    have e0 := q1.cell 0
    have e1 := q1.cell 1
    have f0 := q1.free 0
    have f1 := q1.free 1
    have z1 := q1.lt
    by_cases hlt : m < N
    · have HW := HA.out m wr (by omega)
      have HW' : Hid _ := HW
      obtain ⟨A1, hA1⟩ : ∃ A1, A1 = (allV (m + 1)).1 := ⟨_, rfl⟩
      obtain ⟨A2, hA2⟩ : ∃ A2, A2 = (allV (m + 1)).2 := ⟨_, rfl⟩
      rw [← hA1, ← hA2] at HW'
      have HQ : Hid (A1 = (allV (m + 1)).1 ∧ A2 = (allV (m + 1)).2) := ⟨hA1, hA2⟩
      clear HW HA hA1 hA2 o0 o1 HZ
      generalize (allV m).1 = C1 at *
      generalize (allV m).2 = C2 at *
      have hgo : (m : Int) + 1 ≤ 128 := by omega
      have hgo2 : (m : Int) + 1 ≤ n := by omega
      go_wp2_with fail
      refine Calls.mono HW'.out ?_
      rintro e w2 ⟨rfl, hx2⟩
      have q02 := q0.ex hx2
      have q12 := q1.ex hx2
      have e02 := q12.cell 0
      have e12 := q12.cell 1
      have f02 := q12.free 0
      have f12 := q12.free 1
      have z12 := q12.lt
      have q13 := (q12.set 0 (.int .u64 A1)).set 1 (.int .u64 A2)
      have q03 := (q02.set_other (c := B1) 0 (.int .u64 A1) hne.symm).set_other (c := B1) 1 (.int .u64 A2) hne.symm
      have hx3 := ((hx.trans hx2).setCell (p := ⟨B1, 0, none⟩) hB1 (.int .u64 A1)).setCell (p := ⟨B1, 1, none⟩) hB1 (.int .u64 A2)
      clear HW' q0 q1 q02 q12 e0 e1 f0 f1
      go_wp2
      go_roundw
      case rel => exact ⟨m + 1, by omega, by go_num, hx3, q03, by rw [← HQ.out.1, ← HQ.out.2]; exact q13⟩
      case measure => simp [intOf]; omega
    · obtain rfl : m = N := by omega
      have r0 := q0.cell 0
      have r1 := q0.cell 1
      have g0 := q0.free 0
      have g1 := q0.free 1
      have z0 := q0.lt
      have hgo : ¬ ((m : Int) + 1 ≤ 128) := by omega
      clear HA o0 o1 HZ q0 q1
      obtain ⟨C1, hC1⟩ : ∃ C1, C1 = (allV m).1 := ⟨_, rfl⟩
      obtain ⟨C2, hC2⟩ : ∃ C2, C2 = (allV m).2 := ⟨_, rfl⟩
      have HQ : Hid (C1 = (allV m).1 ∧ C2 = (allV m).2) := ⟨hC1, hC2⟩
      rw [← hC1] at e0
      rw [← hC2] at e1
      clear hC1 hC2
      go_wp2
      refine bodyPost_ret (v := .agg #[.int .u64 C1, .int .u64 C2]) (by simp [results, Tryd.results29, go_sem, r0, r1, z0]) rfl ⟨by rw [HQ.out.1, HQ.out.2, show m = 128 by omega], ?_⟩
      exact (hx.setCell hB0 _).setCell hB0 _
theorem varsAll_neg (n : Int) (hn : n < 0) (w : World) :
    Calls Tryd.prog 29 #[.int .i64 n] w fun e w' => e = .returned (setV 0 0) ∧ Ex w w' := by
  unfold setV at *
  have hmin : min n 128 = n := by omega
  have hgo : ¬ ((1 : Int) ≤ n) := by omega
  go_enter Tryd.func29, Tryd.ntmps29
  go_wp2
  refine wp_loop_rounds 1 ?_
  rw [rounds_succ]
  go_wp2
  refine bodyPost_ret (v := .agg #[.int .u64 0, .int .u64 0]) (by simp [results, Tryd.results29, go_sem]) rfl ⟨rfl, ?_⟩
  repeat (first | exact Ex.refl _ | exact Ex.alloc _ _ | refine Ex.setCell ?_ (by simp) _ | refine Ex.alloc' ?_ _)
/-- .. for any number. -/
theorem varsAll_wide (n : Int) (w : World) :
    Calls Tryd.prog 29 #[.int .i64 n] w fun e w' => e = .returned (setV (allV (min n 128).toNat).1 (allV (min n 128).toNat).2) ∧ Ex w w' := by
  by_cases h : n < 0
  · rw [show (min n 128).toNat = 0 by omega]; exact varsAll_neg n h w
  · by_cases h' : n ≤ 128
    · rw [show min n 128 = n by omega]; exact varsAll_any n (by omega) h' w
    · rw [show (min n 128).toNat = 128 by omega]; exact varsAll_big n (by omega) w
end Go.Proofs.YtagohmpbbbkdjaaDoor
