/- Clauses and terms under a set: lit.Any, lit.All; old memory stays. No condition but that the words fit and the list can be read. -/
import Derived.Test.YtagohmpbbbkdjaaDoorVars
import Derived.Test.YtagohmpbbbkdjaaDoorFuncs
import Derived.Test.YtagohmpbbbkdjaaDoorOwn
namespace Go.Proofs.YtagohmpbbbkdjaaDoor
set_option linter.unusedSimpArgs false
set_option linter.unusedVariables false
open Go.RowKit

set_option maxHeartbeats 1000000 in
theorem litAny1_any (x y : Nat) (hx : x < 18446744073709551616) (hy : y < 18446744073709551616) (l : Int) (B : Nat) (w : World) (s0 : w.cell? ⟨B, 0, none⟩ = some (.int .u64 x)) (s1 : w.cell? ⟨B, 1, none⟩ = some (.int .u64 y)) :
    Calls Tryd.prog 44 #[.int .i64 l, .pointer (some ⟨B, 0, none⟩)] w fun e w' => e = .returned (.bool (holdsB x y l)) ∧ Ex w w' := by
  have HH : Hid (∀ wa, Calls Tryd.prog 33 #[.agg #[.int .u64 x, .int .u64 y], .int .i64 l] wa fun e w' => e = .returned (.bool (holdsB x y l)) ∧ Ex wa w') := fun wa => litHolds_any x y hx hy l wa
  clear hx hy
  generalize holdsB x y l = r at *
  go_enter Tryd.func44, Tryd.ntmps44
  go_wp2_with fail
  refine (HH.out _).mono ?_
  rintro e w2 ⟨rfl, hx2⟩
  go_wp2
  go_ret
  exact ⟨rfl, hx2⟩
set_option maxHeartbeats 1000000 in
theorem litAny_any (x y : Nat) (hx : x < 18446744073709551616) (hy : y < 18446744073709551616) (lv : Value) (l : List Int) (w : World) (hl : IntsAt w lv l) :
    Calls Tryd.prog 30 #[setV x y, lv] w fun e w' => e = .returned (.bool (l.any (holdsB x y))) ∧ Ex w w' := by
  unfold setV
  have oS := OwnB.new w [.int .u64 x, .int .u64 y] 30
  have hxs := Ex.alloc w (.cells #[.int .u64 x, .int .u64 y] 30)
  have hC := has_lit_Any1 lv (.pointer (some ⟨w.heap.size, 0, none⟩)) l (fun u => holdsB x y u) (w.alloc (.cells #[.int .u64 x, .int .u64 y] 30)) (hl.ex hxs)
    (fun wa u _ hx' => litAny1_any x y hx hy u w.heap.size wa (by have := (oS.ex hx').cell 0; exact this) (by have := (oS.ex hx').cell 1; exact this))
  have HC : Hid _ := hC
  have HE : Hid (l.any (fun u => holdsB x y u) = l.any (holdsB x y)) := rfl
  obtain ⟨a, cap, rfl, _, _, _⟩ := hl
  clear hC oS
  generalize l.any (holdsB x y) = R at *
  generalize l.any (fun u => holdsB x y u) = R' at *
  go_enter Tryd.func30, Tryd.ntmps30
  go_wp2_with fail
  refine Calls.mono HC.out ?_
  rintro e w2 ⟨rfl, hx2⟩
  go_wp2
  go_ret
  exact ⟨by first | rfl | exact ret_bool HE.out, hxs.trans hx2⟩
set_option maxHeartbeats 1000000 in
theorem litAll1_any (x y : Nat) (hx : x < 18446744073709551616) (hy : y < 18446744073709551616) (l : Int) (B : Nat) (w : World) (s0 : w.cell? ⟨B, 0, none⟩ = some (.int .u64 x)) (s1 : w.cell? ⟨B, 1, none⟩ = some (.int .u64 y)) :
    Calls Tryd.prog 32 #[.int .i64 l, .pointer (some ⟨B, 0, none⟩)] w fun e w' => e = .returned (.bool (!holdsB x y l)) ∧ Ex w w' := by
  have HH : Hid (∀ wa, Calls Tryd.prog 33 #[.agg #[.int .u64 x, .int .u64 y], .int .i64 l] wa fun e w' => e = .returned (.bool (holdsB x y l)) ∧ Ex wa w') := fun wa => litHolds_any x y hx hy l wa
  clear hx hy
  generalize holdsB x y l = r at *
  go_enter Tryd.func32, Tryd.ntmps32
  go_wp2_with fail
  refine (HH.out _).mono ?_
  rintro e w2 ⟨rfl, hx2⟩
  go_wp2
  go_ret
  exact ⟨rfl, hx2⟩
set_option maxHeartbeats 1000000 in
theorem litAll_any (x y : Nat) (hx : x < 18446744073709551616) (hy : y < 18446744073709551616) (lv : Value) (l : List Int) (w : World) (hl : IntsAt w lv l) :
    Calls Tryd.prog 12 #[setV x y, lv] w fun e w' => e = .returned (.bool (l.all (holdsB x y))) ∧ Ex w w' := by
  unfold setV
  have oS := OwnB.new w [.int .u64 x, .int .u64 y] 30
  have hxs := Ex.alloc w (.cells #[.int .u64 x, .int .u64 y] 30)
  have hC := has_lit_All1 lv (.pointer (some ⟨w.heap.size, 0, none⟩)) l (fun u => !holdsB x y u) (w.alloc (.cells #[.int .u64 x, .int .u64 y] 30)) (hl.ex hxs)
    (fun wa u _ hx' => litAll1_any x y hx hy u w.heap.size wa (by have := (oS.ex hx').cell 0; exact this) (by have := (oS.ex hx').cell 1; exact this))
  have HC : Hid _ := hC
  have HE : Hid ((!l.any (fun u => !holdsB x y u)) = l.all (holdsB x y)) := by show _ = _; rw [List.all_eq_not_any_not]
  obtain ⟨a, cap, rfl, _, _, _⟩ := hl
  clear hC oS
  generalize l.all (holdsB x y) = R at *
  generalize l.any (fun u => !holdsB x y u) = R' at *
  go_enter Tryd.func12, Tryd.ntmps12
  go_wp2_with fail
  refine Calls.mono HC.out ?_
  rintro e w2 ⟨rfl, hx2⟩
  go_wp2
  go_ret
  exact ⟨by first | rfl | exact ret_bool HE.out, hxs.trans hx2⟩
end Go.Proofs.YtagohmpbbbkdjaaDoor
