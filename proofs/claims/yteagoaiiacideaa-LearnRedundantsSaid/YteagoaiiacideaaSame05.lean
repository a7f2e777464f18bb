/- censusref05.Same on two theories that are alike. No condition. -/
import Derived.Test.YteagoaiiacideaaLight05
namespace Go.Proofs.Yteagoaiiacideaa
set_option linter.unusedSimpArgs false
set_option linter.unusedVariables false
open Go.RowKit
set_option maxRecDepth 20000
set_option maxRecDepth 100000 in
set_option maxHeartbeats 2000000 in
/-- A theory compared with the like one. -/
theorem r05Same_yes (n : Int) (av bv : Value) (ll : List (List Int)) (w : World) (ha : RowsAt w av ll) (hb : RowsAt w bv ll) :
    Calls Try.prog 19 #[.agg #[.int .i64 n, av], .agg #[.int .i64 n, bv]] w fun e w' => e = .returned (.bool true) ∧ Ex w w' := by
  have HS : Hid (∀ (wa : World) (u v : Value) (l : List Int), IntsAt wa u l → IntsAt wa v l → Calls Try.prog 18 #[u, v] wa fun e w' => e = .returned (.bool true) ∧ Ex wa w') := fun wa u v l h k => by
    have := r05SameInts_any u v l l wa h k
    rwa [decide_eq_true rfl] at this
  have ha0 := ha
  have hb0 := hb
  obtain ⟨ra, rcap, rfl, r1, r2, r3⟩ := ha
  obtain ⟨qa, qcap, rfl, q1, q2, q3⟩ := hb
  unfold maxLen at r2 q2
  clear r3 q3
  have oA := (OwnB.new w [.int .i64 n, .slice ra ll.length rcap] 24).ex (Ex.alloc _ (.cells #[.int .i64 n, .slice qa ll.length qcap] 24))
  have oB := OwnB.new (w.alloc (.cells #[.int .i64 n, .slice ra ll.length rcap] 24)) [.int .i64 n, .slice qa ll.length qcap] 24
  rw [alloc_size] at oB
  have hx0 : Ex w _ := (Ex.refl w).alloc' (.cells #[.int .i64 n, .slice ra ll.length rcap] 24) |>.alloc' (.cells #[.int .i64 n, .slice qa ll.length qcap] 24)
  have hne : ((n != n)) = false := by simp
  have hne2 : (((ll.length : Int)) != (ll.length : Int)) = false := by simp
  go_enter Try.func19, Try.ntmps19
  go_wp2
  generalize (w.alloc (.cells #[.int .i64 n, .slice ra ll.length rcap] 24)).alloc (.cells #[.int .i64 n, .slice qa ll.length qcap] 24) = w1 at *
  go_loopw [5] (fun i wr => ∃ k : Nat, k ≤ ll.length ∧ i = .int .i64 k ∧ Ex w1 wr) (fun i _ => ll.length - (intOf i).toNat)
  case atStart => exact ⟨0, Nat.zero_le _, rfl, Ex.refl _⟩
  case round =>
    obtain ⟨k, hk, rfl, hxr⟩ := hrel
    have hxw := hx0.trans hxr
    have a1 := (oA.ex hxr).cell 1
    have b1 := (oB.ex hxr).cell 1
    have za := (oA.ex hxr).lt
    have zb := (oB.ex hxr).lt
    by_cases hlt : k < ll.length
    · obtain ⟨_, _, hv, _, _, h3⟩ := ha0.ex hxw
      cases hv
      obtain ⟨b, off, rv, rfl, hb, hcell, hrow⟩ := h3 k hlt
      obtain ⟨_, _, hv, _, _, g3⟩ := hb0.ex hxw
      cases hv
      obtain ⟨b2, off2, rv2, rfl, hb2, hcell2, hrow2⟩ := g3 k hlt
      clear h3 g3
      have HA : Hid (IntsAt wr rv (ll.getD k [])) := hrow
      have HB : Hid (IntsAt wr rv2 (ll.getD k [])) := hrow2
      have a1x := ext_cell a1
      have b1x := ext_cell b1
      have hcx := ext_cell hcell
      have hcx2 := ext_cell hcell2
      have i1 : (k : Int) < (ll.length : Int) := by omega
      have i2 : (0 : Int) ≤ (k : Int) := by omega
      clear hrow hrow2
      go_wp2
      refine wp_region_quiet_ext (by kernel_rfl) (by kernel_rfl) ?_
      repeat (go_big_quiet_step ((go_at_call 18; exact Calls.quiet_ext (HS.out _ _ _ _ (HA.out.ex (ex_ext _ _)) (HB.out.ex (ex_ext _ _))))))
      refine wpQuiet_nil ?_
      intro w9 hx9
      go_wp2
      go_roundw
      case rel => exact ⟨k + 1, by omega, by go_num, hxr.trans hx9⟩
      case measure => simp [intOf]; omega
    · go_wp2
      go_ret
      exact ⟨rfl, hxw⟩
end Go.Proofs.Yteagoaiiacideaa
