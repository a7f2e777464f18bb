/- probe.Backbone: the literals that no model refuses. No condition. -/
import Derived.Test.YtnhlfhoeglnajaaSearch2
import Derived.Test.YtnhlfhoeglnajaaG2
namespace Go.Proofs.Ytnhlfhoeglnajaa
set_option linter.unusedSimpArgs false
set_option linter.unusedVariables false
open Go.RowKit
set_option maxRecDepth 20000
/-- The literal of a variable that a set makes true. -/
def sideV (s : Nat × Nat) (v : Int) : Int := if hasB s.1 s.2 v then v else -v
/-- The backbone's literals of the variables 1 to m. -/
def boneL (n : Nat) (ll : List (List Int)) (s : Nat × Nat) (m : Nat) : List Int :=
  (List.range m).flatMap fun (k : Nat) => if (least n ll [-sideV s ((k : Int) + 1)]).isSome then [] else [sideV s ((k : Int) + 1)]
theorem boneL_succ (n : Nat) (ll : List (List Int)) (s : Nat × Nat) (m : Nat) : boneL n ll s (m + 1) = boneL n ll s m ++ (if (least n ll [-sideV s ((m : Int) + 1)]).isSome then [] else [sideV s ((m : Int) + 1)]) := by
  unfold boneL; rw [List.range_succ, List.flatMap_append]; simp
theorem boneL_len (n : Nat) (ll : List (List Int)) (s : Nat × Nat) : ∀ m, (boneL n ll s m).length ≤ m
  | 0 => by simp [boneL]
  | m + 1 => by rw [boneL_succ, List.length_append]; have := boneL_len n ll s m; split <;> simp <;> omega
/-- What Backbone hands back. -/
def BoneRet (w : World) (L : List Int) (b : Bool) (er : Int) (e : Ending) (w' : World) : Prop := ∃ v, e = .returned (.tuple #[v, .bool b, .int .i64 er]) ∧ OwnI w' w.heap.size v L ∧ Ex w w'
set_option maxRecDepth 100000 in
set_option maxHeartbeats 4000000 in
theorem Backbone_bad (n : Int) (lv : Value) (ll : List (List Int)) (w : World) (hR : RowsAt w lv ll) (he : theoryErr n ll ≠ 0) :
    Calls Try.prog 21 #[.agg #[.int .i64 n, lv]] w (BoneRet w [] false (theoryErr n ll)) := by
  have HCk : Hid (∀ wa, Ex w wa → Calls Try.prog 33 #[.agg #[.int .i64 n, lv]] wa fun e w' => e = .returned (.int .i64 (theoryErr n ll)) ∧ Ex wa w') := fun wa hx => theoryCheck_any n lv ll wa (hR.ex hx)
  obtain ⟨ra, rcap, rfl, _, _, r3⟩ := hR
  have hxa := Ex.alloc w (.cells #[.int .i64 n, .slice ra ll.length rcap] 24)
  have he' : (theoryErr n ll != 0) = true := by simp [he]
  clear r3 he
  generalize theoryErr n ll = ER at *
  go_enter Try.func21, Try.ntmps21
  go_wp2_with fail
  refine (HCk.out _ hxa).mono ?_
  rintro e w2 ⟨rfl, hx2⟩
  go_wp2
  refine bodyPost_ret (v := .tuple #[.slice none 0 0, .bool false, .int .i64 ER]) (by simp [results, Try.results21, go_sem]) rfl ?_
  exact ⟨_, rfl, OwnI.nil _ _, hxa.trans hx2⟩
set_option maxRecDepth 100000 in
set_option maxHeartbeats 4000000 in
theorem Backbone_none (n : Nat) (lv : Value) (ll : List (List Int)) (w : World) (hR : RowsAt w lv ll) (he : theoryErr n ll = 0) (hn : least n ll [] = none) :
    Calls Try.prog 21 #[.agg #[.int .i64 n, lv]] w (BoneRet w [] false 0) := by
  have HCk : Hid (∀ wa, Ex w wa → Calls Try.prog 33 #[.agg #[.int .i64 n, lv]] wa fun e w' => e = .returned (.int .i64 0) ∧ Ex wa w') := fun wa hx => he ▸ theoryCheck_any n lv ll wa (hR.ex hx)
  have HS : Hid (∀ wa, Ex w wa → Calls Try.prog 47 #[.agg #[.int .i64 n, lv], .slice none 0 0] wa fun e w' => e = .returned (.tuple #[setV 0 0, .bool false, .int .i64 0]) ∧ Ex wa w') := fun wa hx => by
    have := Solve_ok n lv (.slice none 0 0) ll [] wa (hR.ex hx) (IntsAt.nil wa) (by unfold searchErr; rw [if_pos he]; rfl)
    rw [hn] at this; exact this
  unfold setV at *
  obtain ⟨ra, rcap, rfl, _, _, r3⟩ := hR
  have hbox := OwnB.new w [.int .i64 n, .slice ra ll.length rcap] 24
  have hxa := Ex.alloc w (.cells #[.int .i64 n, .slice ra ll.length rcap] 24)
  clear r3 he hn
  go_enter Try.func21, Try.ntmps21
  go_wp2_with fail
  refine (HCk.out _ hxa).mono ?_
  rintro e w2 ⟨rfl, hx2⟩
  have c0 := (hbox.ex hx2).cell 0
  have c1 := (hbox.ex hx2).cell 1
  have z2 := (hbox.ex hx2).lt
  clear HCk
  go_wp2_with fail
  refine (HS.out _ (hxa.trans hx2)).mono ?_
  rintro e w3 ⟨rfl, hx3⟩
  clear HS c0 c1 z2
  go_wp2
  refine bodyPost_ret (v := .tuple #[.slice none 0 0, .bool false, .int .i64 0]) (by simp [results, Try.results21, go_sem]) rfl ?_
  exact ⟨_, rfl, OwnI.nil _ _, by
    repeat (first | exact (hxa.trans hx2).trans hx3 | refine Ex.setCell ?_ (by have := ((hxa.trans hx2).trans hx3).size; omega) _ | refine Ex.alloc' ?_ _)⟩
end Go.Proofs.Ytnhlfhoeglnajaa
