/- Chapter 15: whether all of a list is in another one. No condition. -/
import Derived.Test.YtnhlfhoeglnajaaLaw15a
namespace Go.Proofs.Ytnhlfhoeglnajaa
set_option linter.unusedSimpArgs false
set_option linter.unusedVariables false
open Go.RowKit
set_option maxRecDepth 20000
theorem contains_take {m : List Int} {j : Nat} (h : j < m.length) (x : Int) : (m.take (j + 1)).contains x = ((m.take j).contains x || x == m.getD j 0) := by
  rw [List.take_succ_eq_append_getElem h, getD_getElem h, Bool.eq_iff_iff]
  simp only [List.contains_iff_mem, Bool.or_eq_true, beq_iff_eq, List.mem_append, List.mem_singleton]
set_option maxHeartbeats 1000000 in
theorem within15_any (av bv : Value) (l m : List Int) (w : World) (hl : IntsAt w av l) (hm : IntsAt w bv m) :
    Calls Try.prog 31 #[av, bv] w fun e w' => e = .returned (.bool (l.all (m.contains ·))) ∧ w = w' := by
  obtain ⟨a, cap, rfl, h1, h2, h3⟩ := hl
  obtain ⟨b, bap, rfl, g1, g2, g3⟩ := hm
  unfold maxLen at h2 g2
  have H3 : Hid _ := h3
  have G3 : Hid _ := g3
  have HY : Hid (∀ k, k < l.length → m.contains (l.getD k 0) = false → l.all (m.contains ·) = false) := fun k hk h => not_all_of_getD hk h
  have HN : Hid ((∀ k, k < l.length → m.contains (l.getD k 0) = true) → l.all (m.contains ·) = true) := fun h => all_of_getD h
  have HT : Hid (∀ j, j < m.length → ∀ x, (m.take (j + 1)).contains x = ((m.take j).contains x || x == m.getD j 0)) := fun j hj x => contains_take hj x
  have HE : Hid (∀ x, (m.take m.length).contains x = m.contains x) := fun x => by rw [List.take_length]
  clear h3 g3
  generalize l.all (m.contains ·) = B at *
  go_enter Try.func31, Try.ntmps31
  go_wp2
  go_loop [12] (fun i => ∃ k : Nat, k ≤ l.length ∧ i = .int .i64 k ∧ Hid (∀ j, j < k → m.contains (l.getD j 0) = true)) (fun i => l.length - (intOf i).toNat)
  case atStart => exact ⟨0, Nat.zero_le _, rfl, fun j hj => (by omega)⟩
  case round =>
    obtain ⟨k, hk, rfl, hd⟩ := hrel
    by_cases hlt : k < l.length
    · obtain ⟨lb, lo, rfl, hb, hc⟩ := H3.out k hlt
      have HY2 : Hid (m.contains (l.getD k 0) = false → B = false) := HY.out k hlt
      have HN2 : Hid (m.contains (l.getD k 0) = true → ∀ j, j < k + 1 → m.contains (l.getD j 0) = true) := fun h j hj => by
        by_cases e : j = k
        · subst e; exact h
        · exact hd.out j (by omega)
      have HT2 : Hid (∀ j, j < m.length → (m.take (j + 1)).contains (l.getD k 0) = ((m.take j).contains (l.getD k 0) || l.getD k 0 == m.getD j 0)) := fun j hj => HT.out j hj _
      have HE2 : Hid ((m.take m.length).contains (l.getD k 0) = m.contains (l.getD k 0)) := HE.out _
      have H0 : Hid ((m.take 0).contains (l.getD k 0) = false) := by show _ = _; simp
      clear HY HN HT HE hd H3
      generalize l.getD k 0 = x at *
      go_wp2
      go_loop [7, 18] (fun bw iw => ∃ j : Nat, j ≤ m.length ∧ iw = .int .i64 j ∧ bw = .bool ((m.take j).contains x)) (fun _ iw => m.length - (intOf iw).toNat)
      case atStart => exact ⟨0, Nat.zero_le _, rfl, by rw [H0.out]⟩
      case round =>
        obtain ⟨j, hj, rfl, rfl⟩ := hrel
        by_cases hltj : j < m.length
        · obtain ⟨mb, mo, rfl, gb, gc⟩ := G3.out j hltj
          have ht := HT2.out j hltj
          clear G3 HT2 HE2 H0 HY2 HN2
          generalize m.getD j 0 = y at *
          have HT3 : Hid _ := ht
          clear ht
          generalize (m.take j).contains x = C at *
          cases C with
          | true =>
            go_wp2
            go_round
            case rel => exact ⟨j + 1, by omega, by go_num, by rw [HT3.out]; simp⟩
            case measure => simp [intOf]; omega
          | false =>
            go_wp2
            go_round
            case rel => exact ⟨j + 1, by omega, by go_num, by rw [HT3.out]; simp⟩
            case measure => simp [intOf]; omega
        · obtain rfl : j = m.length := by omega
          rw [HE2.out]
          clear G3 HT2 HE2 H0
          generalize m.contains x = C at *
          cases C with
          | true =>
            have hd3 : Hid _ := HN2.out rfl
            clear HN2 HY2
            go_wp2
            go_round
            case rel => exact ⟨k + 1, by omega, by go_num, hd3⟩
            case measure => simp [intOf]; omega
          | false =>
            have hB : Hid _ := HY2.out rfl
            clear HN2 HY2
            go_wp2
            go_ret
            exact ⟨ret_bool hB.out.symm, rfl⟩
    · have hB : Hid (B = true) := HN.out fun j hj => hd.out j (by omega)
      clear hd HY HN H3 G3 HT HE
      go_wp2
      go_ret
      exact ⟨ret_bool hB.out.symm, rfl⟩
end Go.Proofs.Ytnhlfhoeglnajaa
