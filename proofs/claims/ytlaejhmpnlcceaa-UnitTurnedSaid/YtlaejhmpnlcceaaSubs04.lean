/- lit.Subsumes and the reference's: whether a list contains another one; old memory stays. -/
import Derived.Test.YtlaejhmpnlcceaaRef04
import Derived.Test.YtlaejhmpnlcceaaContains
namespace Go.Proofs.Ytlaejhmpnlcceaa
set_option linter.unusedSimpArgs false
set_option linter.unusedVariables false
open Go.RowKit

set_option maxHeartbeats 1000000 in
theorem r04Subsumes_any (cv dv : Value) (l d : List Int) (w : World) (hl : IntsAt w cv l) (hdd : IntsAt w dv d) :
    Calls Try.prog 44 #[cv, dv] w fun e w' => e = .returned (.bool (l.all (d.contains ·))) ∧ w = w' := by
  have HQ : Hid (∀ x, Calls Try.prog 54 #[dv, .int .i64 x] w fun e w' => e = .returned (.bool (d.contains x)) ∧ w = w') := fun x => r04has_any dv d x w hdd
  obtain ⟨a, cap, rfl, h1, h2, h3⟩ := hl
  obtain ⟨a', cap', rfl, _, _, _⟩ := hdd
  unfold maxLen at h2
  have H3 : Hid _ := h3
  have HY : Hid (∀ k, k < l.length → d.contains (l.getD k 0) = false → l.all (d.contains ·) = false) := fun k hk h => not_all_of_getD hk h
  have HN : Hid ((∀ k, k < l.length → d.contains (l.getD k 0) = true) → l.all (d.contains ·) = true) := fun h => all_of_getD h
  clear h3
  generalize l.all (d.contains ·) = B at *
  go_enter Try.func44, Try.ntmps44
  go_wp2
  go_loop [5] (fun i => ∃ k : Nat, k ≤ l.length ∧ i = .int .i64 k ∧ Hid (∀ j, j < k → d.contains (l.getD j 0) = true)) (fun i => l.length - (intOf i).toNat)
  case atStart => exact ⟨0, Nat.zero_le _, rfl, fun j hj => (by omega)⟩
  case round =>
    obtain ⟨k, hk, rfl, hd⟩ := hrel
    by_cases hlt : k < l.length
    · obtain ⟨b, off, rfl, hb, hc⟩ := H3.out k hlt
      have hV := HQ.out (l.getD k 0)
      by_cases he : d.contains (l.getD k 0) = true
      · have hd2 : Hid (∀ j, j < k + 1 → d.contains (l.getD j 0) = true) := fun j hj => by
          by_cases hjk : j = k
          · subst hjk; exact he
          · exact hd.out j (by omega)
        rw [he] at hV
        have HV : Hid _ := hV
        clear hd he HY H3 hV
        generalize l.getD k 0 = y at *
        go_wp2_with (go_at_call 54; refine Calls.mono HV.out ?_; rintro e w' ⟨rfl, rfl⟩)
        go_round
        case rel => exact ⟨k + 1, by omega, by go_num, hd2⟩
        case measure => simp [intOf]; omega
      · have he' : d.contains (l.getD k 0) = false := by simpa using he
        have hB : Hid (B = false) := HY.out k hlt he'
        rw [he'] at hV
        have HV : Hid _ := hV
        clear hd he he' HY HN H3 hV
        generalize l.getD k 0 = y at *
        go_wp2_with (go_at_call 54; refine Calls.mono HV.out ?_; rintro e w' ⟨rfl, rfl⟩)
        go_ret
        exact ⟨ret_bool hB.out.symm, rfl⟩
    · have hB : Hid (B = true) := HN.out fun j hj => hd.out j (by omega)
      clear hd HY HN H3
      go_wp2
      go_ret
      exact ⟨ret_bool hB.out.symm, rfl⟩
end Go.Proofs.Ytlaejhmpnlcceaa
