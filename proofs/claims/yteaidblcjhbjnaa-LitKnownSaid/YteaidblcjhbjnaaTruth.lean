/- Clauses and terms under a set: lit.Any, lit.All; old memory stays. No condition but that the words fit and the list can be read. -/
import Derived.Test.YteaidblcjhbjnaaVars
import Derived.Test.YteaidblcjhbjnaaFuncs
import Derived.Test.YteaidblcjhbjnaaOwn
namespace Go.Proofs.Yteaidblcjhbjnaa
set_option linter.unusedSimpArgs false
set_option linter.unusedVariables false
open Go.RowKit

set_option maxHeartbeats 1000000 in
theorem litAny1_any (x y : Nat) (hx : x < 18446744073709551616) (hy : y < 18446744073709551616) (l : Int) (B : Nat) (w : World) (s0 : w.cell? ⟨B, 0, none⟩ = some (.int .u64 x)) (s1 : w.cell? ⟨B, 1, none⟩ = some (.int .u64 y)) :
    Calls Try.prog 45 #[.int .i64 l, .pointer (some ⟨B, 0, none⟩)] w fun e w' => e = .returned (.bool (holdsB x y l)) ∧ Ex w w' := by
  have HH : Hid (∀ wa, Calls Try.prog 29 #[.agg #[.int .u64 x, .int .u64 y], .int .i64 l] wa fun e w' => e = .returned (.bool (holdsB x y l)) ∧ Ex wa w') := fun wa => litHolds_any x y hx hy l wa
  clear hx hy
  generalize holdsB x y l = r at *
  go_enter Try.func45, Try.ntmps45
  go_wp2_with fail
  refine (HH.out _).mono ?_
  rintro e w2 ⟨rfl, hx2⟩
  go_wp2
  go_ret
  exact ⟨rfl, hx2⟩
set_option maxHeartbeats 1000000 in
theorem litAny_any (x y : Nat) (hx : x < 18446744073709551616) (hy : y < 18446744073709551616) (lv : Value) (l : List Int) (w : World) (hl : IntsAt w lv l) :
    Calls Try.prog 27 #[setV x y, lv] w fun e w' => e = .returned (.bool (l.any (holdsB x y))) ∧ Ex w w' := by
  unfold setV
  have oS := OwnB.new w [.int .u64 x, .int .u64 y] 39
  have hxs := Ex.alloc w (.cells #[.int .u64 x, .int .u64 y] 39)
  have hC := has_lit_Any1 lv (.pointer (some ⟨w.heap.size, 0, none⟩)) l (fun u => holdsB x y u) (w.alloc (.cells #[.int .u64 x, .int .u64 y] 39)) (hl.ex hxs)
    (fun wa u _ hx' => litAny1_any x y hx hy u w.heap.size wa (by have := (oS.ex hx').cell 0; exact this) (by have := (oS.ex hx').cell 1; exact this))
  have HC : Hid _ := hC
  have HE : Hid (l.any (fun u => holdsB x y u) = l.any (holdsB x y)) := rfl
  obtain ⟨a, cap, rfl, _, _, _⟩ := hl
  clear hC oS
  generalize l.any (holdsB x y) = R at *
  generalize l.any (fun u => holdsB x y u) = R' at *
  go_enter Try.func27, Try.ntmps27
  go_wp2_with fail
  refine Calls.mono HC.out ?_
  rintro e w2 ⟨rfl, hx2⟩
  go_wp2
  go_ret
  exact ⟨by first | rfl | exact ret_bool HE.out, hxs.trans hx2⟩
set_option maxHeartbeats 1000000 in
theorem litAll1_any (x y : Nat) (hx : x < 18446744073709551616) (hy : y < 18446744073709551616) (l : Int) (B : Nat) (w : World) (s0 : w.cell? ⟨B, 0, none⟩ = some (.int .u64 x)) (s1 : w.cell? ⟨B, 1, none⟩ = some (.int .u64 y)) :
    Calls Try.prog 48 #[.int .i64 l, .pointer (some ⟨B, 0, none⟩)] w fun e w' => e = .returned (.bool (!holdsB x y l)) ∧ Ex w w' := by
  have HH : Hid (∀ wa, Calls Try.prog 29 #[.agg #[.int .u64 x, .int .u64 y], .int .i64 l] wa fun e w' => e = .returned (.bool (holdsB x y l)) ∧ Ex wa w') := fun wa => litHolds_any x y hx hy l wa
  clear hx hy
  generalize holdsB x y l = r at *
  go_enter Try.func48, Try.ntmps48
  go_wp2_with fail
  refine (HH.out _).mono ?_
  rintro e w2 ⟨rfl, hx2⟩
  go_wp2
  go_ret
  exact ⟨rfl, hx2⟩
set_option maxHeartbeats 1000000 in
theorem litAll_any (x y : Nat) (hx : x < 18446744073709551616) (hy : y < 18446744073709551616) (lv : Value) (l : List Int) (w : World) (hl : IntsAt w lv l) :
    Calls Try.prog 32 #[setV x y, lv] w fun e w' => e = .returned (.bool (l.all (holdsB x y))) ∧ Ex w w' := by
  unfold setV
  have oS := OwnB.new w [.int .u64 x, .int .u64 y] 39
  have hxs := Ex.alloc w (.cells #[.int .u64 x, .int .u64 y] 39)
  have hC := has_lit_All1 lv (.pointer (some ⟨w.heap.size, 0, none⟩)) l (fun u => !holdsB x y u) (w.alloc (.cells #[.int .u64 x, .int .u64 y] 39)) (hl.ex hxs)
    (fun wa u _ hx' => litAll1_any x y hx hy u w.heap.size wa (by have := (oS.ex hx').cell 0; exact this) (by have := (oS.ex hx').cell 1; exact this))
  have HC : Hid _ := hC
  have HE : Hid ((!l.any (fun u => !holdsB x y u)) = l.all (holdsB x y)) := by show _ = _; rw [List.all_eq_not_any_not]
  obtain ⟨a, cap, rfl, _, _, _⟩ := hl
  clear hC oS
  generalize l.all (holdsB x y) = R at *
  generalize l.any (fun u => !holdsB x y u) = R' at *
  go_enter Try.func32, Try.ntmps32
  go_wp2_with fail
  refine Calls.mono HC.out ?_
  rintro e w2 ⟨rfl, hx2⟩
  go_wp2
  go_ret
  exact ⟨by first | rfl | exact ret_bool HE.out, hxs.trans hx2⟩
end Go.Proofs.Yteaidblcjhbjnaa
