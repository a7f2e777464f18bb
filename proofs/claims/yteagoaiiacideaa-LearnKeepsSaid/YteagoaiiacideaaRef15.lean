/- Small functions of the references: what each call returns. No condition. -/
import Derived.Test.YteagoaiiacideaaG5
import Derived.Test.YteagoaiiacideaaG4
namespace Go.Proofs.Yteagoaiiacideaa
set_option linter.unusedSimpArgs false
set_option linter.unusedVariables false
open Go.RowKit
set_option maxRecDepth 20000
set_option maxHeartbeats 1000000 in
theorem r05Contains_any (lv : Value) (l : List Int) (x : Int) (w : World) (hl : IntsAt w lv l) :
    Calls Try.prog 48 #[lv, .int .i64 x] w fun e w' => e = .returned (.bool (l.contains x)) ∧ w = w' := by
  obtain ⟨a, cap, rfl, h1, h2, h3⟩ := hl
  unfold maxLen at h2
  have H3 : Hid _ := h3
  have HY : Hid (∀ k, k < l.length → l.getD k 0 = x → l.contains x = true) := fun k hk h => by
    rw [List.contains_iff_mem, ← h, getD_getElem hk]; exact List.getElem_mem hk
  have HN : Hid ((∀ k, k < l.length → ¬ l.getD k 0 = x) → l.contains x = false) := fun h => by
    rw [Bool.eq_false_iff]
    intro hc
    rw [List.contains_iff_mem] at hc
    obtain ⟨k, hk, e⟩ := List.getElem_of_mem hc
    exact h k hk (by rw [getD_getElem hk]; exact e)
  clear h3
  generalize l.contains x = B at *
  go_enter Try.func48, Try.ntmps48
  go_wp2
  go_loop [5] (fun i => ∃ k : Nat, k ≤ l.length ∧ i = .int .i64 k ∧ Hid (∀ j, j < k → ¬ l.getD j 0 = x)) (fun i => l.length - (intOf i).toNat)
  case atStart => exact ⟨0, Nat.zero_le _, rfl, fun j hj => (by omega)⟩
  case round =>
    obtain ⟨k, hk, rfl, hd⟩ := hrel
    by_cases hlt : k < l.length
    · obtain ⟨b, off, rfl, hb, hc⟩ := H3.out k hlt
      by_cases he : l.getD k 0 = x
      · have hB : Hid (B = true) := HY.out k hlt he
        have he' : (l.getD k 0 == x) = true := by simp only [beq_iff_eq]; exact he
        clear hd he HY HN H3
        generalize l.getD k 0 = y at *
        go_wp2
        go_ret
        exact ⟨ret_bool hB.out.symm, rfl⟩
      · have hd2 : Hid (∀ j, j < k + 1 → ¬ l.getD j 0 = x) := fun j hj => by
          by_cases hjk : j = k
          · subst hjk; exact he
          · exact hd.out j (by omega)
        have he' : (l.getD k 0 == x) = false := by simp only [beq_eq_false_iff_ne]; exact he
        clear hd he HY H3
        generalize l.getD k 0 = y at *
        go_wp2
        go_round
        case rel => exact ⟨k + 1, by omega, by go_num, hd2⟩
        case measure => simp [intOf]; omega
    · have hB : Hid (B = false) := HN.out fun j hj => hd.out j (by omega)
      clear hd HY HN H3
      go_wp2
      go_ret
      exact ⟨ret_bool hB.out.symm, rfl⟩
set_option maxHeartbeats 1000000 in
theorem r05SameInts_any (av bv : Value) (l m : List Int) (w : World) (hl : IntsAt w av l) (hm : IntsAt w bv m) :
    Calls Try.prog 18 #[av, bv] w fun e w' => e = .returned (.bool (decide (l = m))) ∧ Ex w w' := by
  have hl0 := hl
  have hm0 := hm
  obtain ⟨a, cap, rfl, h1, h2, h3⟩ := hl
  obtain ⟨b, bap, rfl, g1, g2, g3⟩ := hm
  unfold maxLen at h2 g2
  clear h3 g3
  by_cases hlen : l.length = m.length
  · have hne : (((l.length : Int)) != (m.length : Int)) = false := by simp; omega
    have H : Hid (l.length = m.length) := hlen
    have fin : Hid ((∀ j, j < l.length → l.getD j 0 = m.getD j 0) → decide (l = m) = true) := fun h => by
      rw [decide_eq_true_iff]
      refine List.ext_getElem hlen fun i h1 h2 => ?_
      have := h i h1
      rwa [getD_getElem h1, getD_getElem h2] at this
    have fin2 : Hid (∀ j, j < l.length → l.getD j 0 ≠ m.getD j 0 → decide (l = m) = false) := fun j hj h => by
      rw [decide_eq_false_iff_not]; intro e; rw [e] at h; exact h rfl
    have hle : l.length ≤ m.length := by omega
    clear hlen
    generalize decide (l = m) = res at *
    go_enter Try.func18, Try.ntmps18
    go_wp2
    go_loopw [5] (fun i wr => ∃ k : Nat, k ≤ l.length ∧ i = .int .i64 k ∧ Hid (∀ j, j < k → l.getD j 0 = m.getD j 0) ∧ Ex w wr) (fun i _ => l.length - (intOf i).toNat)
    case atStart => exact ⟨0, Nat.zero_le _, rfl, fun j hj => by omega, Ex.refl _⟩
    case round =>
      obtain ⟨k, hk, rfl, hall, hxr⟩ := hrel
      by_cases hlt : k < l.length
      · have hlr := hl0.ex hxr
        obtain ⟨_, _, hv, _, _, h3⟩ := hlr
        cases hv
        obtain ⟨lb, lo, rfl, hb, hc⟩ := h3 k hlt
        have hmr := hm0.ex hxr
        obtain ⟨_, _, hv, _, _, g3⟩ := hmr
        cases hv
        have hltm : k < m.length := by omega
        obtain ⟨mb, mo, rfl, gb, gc⟩ := g3 k hltm
        clear h3 g3
        have hcx := ext_cell hc
        have gcx := ext_cell gc
        have q1 : (k : Int) < (l.length : Int) := by omega
        have q2 : (k : Int) < (m.length : Int) := by omega
        by_cases he : l.getD k 0 = m.getD k 0
        · have hall2 : Hid (∀ j, j < k + 1 → l.getD j 0 = m.getD j 0) := fun j hj => by
            by_cases hjm : j = k
            · subst hjm; exact he
            · exact hall.out j (by omega)
          have hne2 : (l.getD k 0 != m.getD k 0) = false := by simp only [bne_eq_false_iff_eq]; exact he
          clear hall he
          generalize l.getD k 0 = x at *
          generalize m.getD k 0 = y at *
          go_wp2
          refine wp_region_quiet_ext (by kernel_rfl) (by kernel_rfl) ?_
          repeat (go_big_quiet_step ((fail)))
          refine wpQuiet_nil ?_
          intro w2 hx2
          go_wp2
          go_roundw
          case rel => exact ⟨k + 1, by omega, by go_num, hall2, hxr.trans hx2⟩
          case measure => simp [intOf] <;> omega
        · have hfin : Hid (res = false) := fin2.out k hlt he
          have hne2 : (l.getD k 0 != m.getD k 0) = true := by simp only [bne_iff_ne]; exact he
          clear hall fin fin2 he
          generalize l.getD k 0 = x at *
          generalize m.getD k 0 = y at *
          go_wp2
          refine wp_region_quiet_ext (by kernel_rfl) (by kernel_rfl) ?_
          repeat (go_big_quiet_step ((fail)))
          refine wpQuiet_nil ?_
          intro w2 hx2
          go_wp2
          go_ret
          exact ⟨ret_bool hfin.out.symm, hxr.trans hx2⟩
      · have hfin : Hid (res = true) := fin.out fun j hj => hall.out j (by omega)
        clear hall fin fin2
        go_wp2
        go_ret
        exact ⟨ret_bool hfin.out.symm, hxr⟩
  · have hne : (((l.length : Int)) != (m.length : Int)) = true := by simp; omega
    have hfin : Hid (decide (l = m) = false) := by show _ = _; rw [decide_eq_false_iff_not]; intro e; rw [e] at hlen; exact hlen rfl
    clear hlen
    go_enter Try.func18, Try.ntmps18
    go_wp2
    go_ret
    exact ⟨ret_bool hfin.out.symm, Ex.refl _⟩
theorem termB_eq (l : List Int) (n : Int) : termB l n = l.all fun x => litValid x n && !l.contains (-x) := by
  unfold termB
  cases hv : l.all (litValid · n) with
  | false =>
    symm
    rw [Bool.false_and, ← Bool.not_eq_true, List.all_eq_true]
    intro h
    rw [← Bool.not_eq_true, List.all_eq_true] at hv
    exact hv fun x hx => by have := h x hx; rw [Bool.and_eq_true] at this; exact this.1
  | true =>
    rw [Bool.true_and, opp_order (valid_vars hv)]
    rw [List.all_eq_true] at hv
    rw [Bool.eq_iff_iff]
    simp only [Bool.not_eq_true', List.all_eq_true, Bool.and_eq_true]
    rw [← Bool.not_eq_true, List.any_eq_true]
    constructor
    · intro h x hx
      refine ⟨hv x hx, ?_⟩
      rw [← Bool.not_eq_true]; exact fun hc => h ⟨x, hx, hc⟩
    · rintro h ⟨x, hx, hc⟩
      have := (h x hx).2
      rw [hc] at this; cases this
set_option maxHeartbeats 1000000 in
theorem r05Term_any (lv : Value) (l : List Int) (n : Int) (h0 : 0 ≤ n) (h1n : n ≤ 128) (w : World) (hl : IntsAt w lv l) :
    Calls Try.prog 51 #[lv, .int .i64 n] w fun e w' => e = .returned (.bool (termB l n)) ∧ w = w' := by
  have HC : Hid (∀ x, Calls Try.prog 48 #[lv, .int .i64 x] w fun e w' => e = .returned (.bool (l.contains x)) ∧ w = w') := fun x => r05Contains_any lv l x w hl
  have HV0 : Hid (∀ x, Calls Try.prog 47 #[.int .i64 x, .int .i64 n] w fun e w' => e = .returned (.bool (litValid x n)) ∧ w = w') := fun x => r05Valid_any x n h0 h1n w
  rw [termB_eq]
  obtain ⟨a, cap, rfl, h1, h2, h3⟩ := hl
  unfold maxLen at h2
  have H3 : Hid _ := h3
  have HY : Hid (∀ k, k < l.length → (litValid (l.getD k 0) n && !l.contains (-l.getD k 0)) = false → (l.all fun x => litValid x n && !l.contains (-x)) = false) := fun k hk h => not_all_of_getD hk h
  have HN : Hid ((∀ k, k < l.length → (litValid (l.getD k 0) n && !l.contains (-l.getD k 0)) = true) → (l.all fun x => litValid x n && !l.contains (-x)) = true) := fun h => all_of_getD h
  have HB : Hid (∀ x, litValid x n = true → -128 ≤ x ∧ x ≤ 128) := fun x h => by have := (litValid_iff _ _).1 h; omega
  clear h3
  generalize (l.all fun x => litValid x n && !l.contains (-x)) = B at *
  go_enter Try.func51, Try.ntmps51
  go_wp2
  go_loop [5] (fun i => ∃ k : Nat, k ≤ l.length ∧ i = .int .i64 k ∧ Hid (∀ j, j < k → (litValid (l.getD j 0) n && !l.contains (-l.getD j 0)) = true)) (fun i => l.length - (intOf i).toNat)
  case atStart => exact ⟨0, Nat.zero_le _, rfl, fun j hj => (by omega)⟩
  case round =>
    obtain ⟨k, hk, rfl, hd⟩ := hrel
    by_cases hlt : k < l.length
    · obtain ⟨b, off, rfl, hb, hc⟩ := H3.out k hlt
      have hV := HV0.out (l.getD k 0)
      have hC := HC.out (-l.getD k 0)
      by_cases he : litValid (l.getD k 0) n = true
      · have hbd := HB.out _ he
        rw [he] at hV
        have HV : Hid _ := hV
        by_cases hcc : l.contains (-l.getD k 0) = true
        · have hB : Hid (B = false) := HY.out k hlt (by rw [he, hcc]; rfl)
          rw [hcc] at hC
          have HC2 : Hid _ := hC
          clear hd he hcc HY HN H3 hV hC HC HV0 HB
          generalize l.getD k 0 = y at *
          go_wp2_with fail
          refine Calls.mono HV.out ?_
          rintro e w' ⟨rfl, rfl⟩
          go_wp2_with fail
          refine Calls.mono HC2.out ?_
          rintro e w' ⟨rfl, rfl⟩
          go_wp2
          go_ret
          exact ⟨ret_bool hB.out.symm, rfl⟩
        · have hcf : l.contains (-l.getD k 0) = false := by simpa using hcc
          have hd2 : Hid (∀ j, j < k + 1 → (litValid (l.getD j 0) n && !l.contains (-l.getD j 0)) = true) := fun j hj => by
            by_cases hjk : j = k
            · subst hjk; rw [he, hcf]; rfl
            · exact hd.out j (by omega)
          rw [hcf] at hC
          have HC2 : Hid _ := hC
          clear hd he hcc hcf HY H3 hV hC HC HV0 HB
          generalize l.getD k 0 = y at *
          go_wp2_with fail
          refine Calls.mono HV.out ?_
          rintro e w' ⟨rfl, rfl⟩
          go_wp2_with fail
          refine Calls.mono HC2.out ?_
          rintro e w' ⟨rfl, rfl⟩
          go_wp2
          go_round
          case rel => exact ⟨k + 1, by omega, by go_num, hd2⟩
          case measure => simp [intOf]; omega
      · have he' : litValid (l.getD k 0) n = false := by simpa using he
        have hB : Hid (B = false) := HY.out k hlt (by rw [he']; rfl)
        rw [he'] at hV
        have HV : Hid _ := hV
        clear hd he he' HY HN H3 hV hC HC HV0 HB
        generalize l.getD k 0 = y at *
        go_wp2_with fail
        refine Calls.mono HV.out ?_
        rintro e w' ⟨rfl, rfl⟩
        go_wp2
        go_ret
        exact ⟨ret_bool hB.out.symm, rfl⟩
    · have hB : Hid (B = true) := HN.out fun j hj => hd.out j (by omega)
      clear hd HY HN H3 HC HV0
      go_wp2
      go_ret
      exact ⟨ret_bool hB.out.symm, rfl⟩
end Go.Proofs.Yteagoaiiacideaa
