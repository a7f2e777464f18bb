/- The reference's Opposite: whether a list of literals has opposite ones; the world stays. -/
import Derived.Test.YteaidblcjhbjnaaRef04
namespace Go.Proofs.Yteaidblcjhbjnaa
set_option linter.unusedSimpArgs false
set_option linter.unusedVariables false
open Go.RowKit
set_option maxHeartbeats 1000000 in
theorem r04Opposite_any (lv : Value) (l : List Int) (w : World) (hl : IntsAt w lv l) (hv : ∀ x ∈ l, litVar x ≠ 0) :
    Calls Try.prog 38 #[lv] w fun e w' => e = .returned (.bool (l.any fun x => l.contains (-x))) ∧ w = w' := by
  have HQ : Hid (∀ x, Calls Try.prog 42 #[lv, .int .i64 x] w fun e w' => e = .returned (.bool (l.contains x)) ∧ w = w') := fun x => r04has_any lv l x w hl
  have HW : Hid (∀ x, Calls Try.prog 13 #[.int .i64 x] w fun e w' => e = .returned (.int .i64 (litVar x)) ∧ w = w') := fun x => r04Var_any x w
  obtain ⟨a, cap, rfl, h1, h2, h3⟩ := hl
  unfold maxLen at h2
  have H3 : Hid _ := h3
  have HB : Hid (∀ k, k < l.length → 0 < litVar (l.getD k 0) ∧ -128 ≤ l.getD k 0 ∧ l.getD k 0 ≤ 128) := fun k hk => by
    have h := hv _ (show l.getD k 0 ∈ l by rw [getD_getElem hk]; exact List.getElem_mem hk)
    have := litVar_range (l.getD k 0)
    have := litVar_bound h
    omega
  have HY : Hid (∀ k, k < l.length → l.contains (-(l.getD k 0)) = true → (l.any fun x => l.contains (-x)) = true) := fun k hk h => any_of_getD hk h
  have HN : Hid ((∀ k, k < l.length → l.contains (-(l.getD k 0)) = false) → (l.any fun x => l.contains (-x)) = false) := fun h => not_any_of_getD h
  clear h3 hv
  generalize (l.any fun x => l.contains (-x)) = B at *
  go_enter Try.func38, Try.ntmps38
  go_wp2
  go_loop [3] (fun i => ∃ k : Nat, k ≤ l.length ∧ i = .int .i64 k ∧ Hid (∀ j, j < k → l.contains (-(l.getD j 0)) = false)) (fun i => l.length - (intOf i).toNat)
  case atStart => exact ⟨0, Nat.zero_le _, rfl, fun j hj => (by omega)⟩
  case round =>
    obtain ⟨k, hk, rfl, hd⟩ := hrel
    by_cases hlt : k < l.length
    · obtain ⟨b, off, rfl, hb, hc⟩ := H3.out k hlt
      obtain ⟨b1, b2, b3⟩ := HB.out k hlt
      have hV := HQ.out (-(l.getD k 0))
      have hW := HW.out (l.getD k 0)
      by_cases he : l.contains (-(l.getD k 0)) = true
      · have hBt : Hid (B = true) := HY.out k hlt he
        rw [he] at hV
        have HV : Hid _ := hV
        have HU : Hid _ := hW
        clear hd he HY HN H3 hV hW HB
        generalize litVar (l.getD k 0) = u at *
        generalize l.getD k 0 = y at *
        go_wp2_with fail
        refine Calls.mono HU.out ?_
        rintro e w' ⟨rfl, rfl⟩
        go_wp2_with fail
        refine Calls.mono HV.out ?_
        rintro e w' ⟨rfl, rfl⟩
        go_wp2
        go_ret
        exact ⟨ret_bool hBt.out.symm, rfl⟩
      · have he' : l.contains (-(l.getD k 0)) = false := by simpa using he
        have hd2 : Hid (∀ j, j < k + 1 → l.contains (-(l.getD j 0)) = false) := fun j hj => by
          by_cases hjk : j = k
          · subst hjk; exact he'
          · exact hd.out j (by omega)
        rw [he'] at hV
        have HV : Hid _ := hV
        have HU : Hid _ := hW
        clear hd he he' HY H3 hV hW HB
        generalize litVar (l.getD k 0) = u at *
        generalize l.getD k 0 = y at *
        go_wp2_with fail
        refine Calls.mono HU.out ?_
        rintro e w' ⟨rfl, rfl⟩
        go_wp2_with fail
        refine Calls.mono HV.out ?_
        rintro e w' ⟨rfl, rfl⟩
        go_wp2
        go_round
        case rel => exact ⟨k + 1, by omega, by go_num, hd2⟩
        case measure => simp [intOf]; omega
    · have hBf : Hid (B = false) := HN.out fun j hj => hd.out j (by omega)
      clear hd HY HN H3
      go_wp2
      go_ret
      exact ⟨ret_bool hBf.out.symm, rfl⟩
end Go.Proofs.Yteaidblcjhbjnaa
