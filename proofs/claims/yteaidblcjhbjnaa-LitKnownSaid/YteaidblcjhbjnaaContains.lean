/- slices.Contains at []int: whether a number is in a list; the world stays. -/
import Derived.Test.YteaidblcjhbjnaaBase
namespace Go.Proofs.Yteaidblcjhbjnaa
set_option linter.unusedSimpArgs false
set_option linter.unusedVariables false
open Go.RowKit
/-- What Index hands back: not below 0 exactly if the number is there. -/
def IdxAt (w : World) (b : Bool) (e : Ending) (w' : World) : Prop := ∃ r : Int, e = .returned (.int .i64 r) ∧ decide (0 ≤ r) = b ∧ w = w'
set_option maxHeartbeats 1000000 in
theorem slicesIndex_any (lv : Value) (l : List Int) (x : Int) (w : World) (hl : IntsAt w lv l) :
    Calls Try.prog 55 #[lv, .int .i64 x] w (IdxAt w (l.contains x)) := by
  obtain ⟨a, cap, rfl, h1, h2, h3⟩ := hl
  unfold maxLen at h2
  have H3 : Hid _ := h3
  have HY : Hid (∀ k, k < l.length → l.getD k 0 = x → l.contains x = true) := fun k hk h => by
    rw [List.contains_iff_mem, ← h, getD_getElem hk]; exact List.getElem_mem hk
  have HN : Hid ((∀ k, k < l.length → ¬ l.getD k 0 = x) → l.contains x = false) := fun h => by
    rw [Bool.eq_false_iff]
    intro hc
    rw [List.contains_iff_mem] at hc
    obtain ⟨k, hk, e⟩ := List.getElem_of_mem hc
    exact h k hk (by rw [getD_getElem hk]; exact e)
  clear h3
  generalize l.contains x = B at *
  go_enter Try.func55, Try.ntmps55
  go_wp2
  go_loop [8] (fun i => ∃ k : Nat, k ≤ l.length ∧ i = .int .i64 k ∧ Hid (∀ j, j < k → ¬ l.getD j 0 = x)) (fun i => l.length - (intOf i).toNat)
  case atStart => exact ⟨0, Nat.zero_le _, rfl, fun j hj => (by omega)⟩
  case round =>
    obtain ⟨k, hk, rfl, hd⟩ := hrel
    by_cases hlt : k < l.length
    · obtain ⟨b, off, rfl, hb, hc⟩ := H3.out k hlt
      by_cases he : l.getD k 0 = x
      · have hB : Hid (B = true) := HY.out k hlt he
        have he' : (x == l.getD k 0) = true := by simp only [beq_iff_eq]; exact he.symm
        clear hd he HY HN H3
        generalize l.getD k 0 = y at *
        go_wp2
        go_ret
        exact ⟨k, rfl, by rw [hB.out]; simp, rfl⟩
      · have hd2 : Hid (∀ j, j < k + 1 → ¬ l.getD j 0 = x) := fun j hj => by
          by_cases hjk : j = k
          · subst hjk; exact he
          · exact hd.out j (by omega)
        have he' : (x == l.getD k 0) = false := by simp only [beq_eq_false_iff_ne]; exact fun e => he e.symm
        clear hd he HY H3
        generalize l.getD k 0 = y at *
        go_wp2
        go_round
        case rel => exact ⟨k + 1, by omega, by go_num, hd2⟩
        case measure => simp [intOf]; omega
    · have hB : Hid (B = false) := HN.out fun j hj => hd.out j (by omega)
      clear hd HY HN H3
      go_wp2
      go_ret
      exact ⟨-1, rfl, by rw [hB.out]; simp, rfl⟩
set_option maxHeartbeats 1000000 in
theorem slicesContains_any (lv : Value) (l : List Int) (x : Int) (w : World) (hl : IntsAt w lv l) :
    Calls Try.prog 40 #[lv, .int .i64 x] w fun e w' => e = .returned (.bool (l.contains x)) ∧ w = w' := by
  have HI := slicesIndex_any lv l x w hl
  have HK : Hid _ := HI
  obtain ⟨a, cap, rfl, h1, h2, h3⟩ := hl
  clear h3 HI
  generalize l.contains x = B at *
  go_enter Try.func40, Try.ntmps40
  go_wp2_with fail
  refine Calls.mono HK.out ?_
  rintro e w2 ⟨r, rfl, hr, rfl⟩
  go_wp2
  go_ret
  exact ⟨ret_bool (by simp), rfl⟩
end Go.Proofs.Yteaidblcjhbjnaa
