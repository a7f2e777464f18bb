/- The reference of learning: find, occurs, allFalse, level, greatest, add, of, Ordered: what each call returns. No condition but that literals are ones. -/
import Derived.Test.YteagoaiiacideaaLearnS
import Derived.Test.YteagoaiiacideaaStp
import Derived.Test.YteagoaiiacideaaRef15
namespace Go.Proofs.Yteagoaiiacideaa
set_option linter.unusedSimpArgs false
set_option linter.unusedVariables false
open Go.RowKit
set_option maxRecDepth 20000
theorem take_get {tr : List St} {i k : Nat} (hi : i ≤ tr.length) (hk : k < i) : sL (tr.take i) k = sL tr k := by
  unfold sL
  rw [getD_getElem (by rw [List.length_take]; omega), getD_getElem (by omega), List.getElem_take]
theorem wrongI_at {tr : List St} {i k : Nat} {y : Int} (hi : i ≤ tr.length) (hk : k < i) (hno : ∀ j, j < k → ¬ sL tr j = -y) (e : sL tr k = -y) : wrongI (tr.take i) y = k := by
  cases hw : wrongN (tr.take i) y with
  | none =>
    rw [wrongN_none] at hw
    rw [(trueT_take hi).2 ⟨k, hk, e⟩] at hw; cases hw
  | some j =>
    unfold wrongI
    rw [hw]
    unfold wrongN at hw
    rw [List.findIdx?_eq_some_iff_getElem] at hw
    obtain ⟨hj, h1, h2⟩ := hw
    have hj' : j < i := by rw [List.length_take] at hj; omega
    have ej : sL tr j = -y := by rw [← take_get hi hj']; unfold sL; rw [getD_getElem hj]; exact beq_iff_eq.1 h1
    rcases Nat.lt_trichotomy j k with g | g | g
    · exact absurd ej (hno j g)
    · subst g; rfl
    · have hkt : k < (tr.take i).length := by rw [List.length_take]; omega
      have := h2 k g
      have e' : ((tr.take i)[k]).lit = -y := by
        have := take_get hi hk
        unfold sL at this
        rw [getD_getElem hkt] at this
        rw [this]; exact e
      exact absurd (beq_iff_eq.2 e') this
theorem wrongI_end {tr : List St} {i : Nat} {y : Int} (hi : i ≤ tr.length) (hno : ∀ j, j < i → ¬ sL tr j = -y) : wrongI (tr.take i) y = -1 := by
  have : wrongN (tr.take i) y = none := by
    rw [wrongN_none, ← Bool.not_eq_true, trueT_take hi]
    rintro ⟨j, hj, e⟩
    exact hno j hj e
  unfold wrongI; rw [this]
set_option maxHeartbeats 2000000 in
theorem r13find_any (sv : Value) (tr : List St) (i : Nat) (y : Int) (w : World) (hs : StepsAt w sv tr) (hi : i ≤ tr.length) (y1 : -1000 ≤ y) (y2 : y ≤ 1000) (hlen : tr.length ≤ 1000) :
    Calls Try.prog 42 #[sv, .int .i64 i, .int .i64 y] w fun e w' => e = .returned (.int .i64 (wrongI (tr.take i) y)) ∧ w = w' := by
  obtain ⟨a, cap, rfl, h1, h2, h3⟩ := hs
  unfold maxLen at h2
  have H3 : Hid _ := h3
  have HY : Hid (∀ k, k < i → (∀ j, j < k → ¬ (tr.getD j default).lit = -y) → (tr.getD k default).lit = -y → wrongI (tr.take i) y = k) := fun k hk h e => wrongI_at hi hk h e
  have HN : Hid ((∀ k, k < i → ¬ (tr.getD k default).lit = -y) → wrongI (tr.take i) y = -1) := fun h => wrongI_end hi h
  have hwy : IntKind.i64.wrap (-y) = -y := IntWalk.i64_in _ (by omega)
  clear h3
  generalize wrongI (tr.take i) y = B at *
  go_enter Try.func42, Try.ntmps42
  go_wp2
  go_loop [7] (fun v => ∃ k : Nat, k ≤ i ∧ v = .int .i64 k ∧ Hid (∀ j, j < k → ¬ (tr.getD j default).lit = -y)) (fun v => i - (intOf v).toNat)
  case atStart => exact ⟨0, Nat.zero_le _, rfl, fun j hj => (by omega)⟩
  case round =>
    obtain ⟨k, hk, rfl, hd⟩ := hrel
    by_cases hlt : k < i
    · obtain ⟨b, off, rfl, hb, c0, _, _⟩ := H3.out k (by omega)
      have hkt : k < tr.length := by omega
      by_cases he : (tr.getD k default).lit = -y
      · have hB : Hid (B = k) := HY.out k hlt hd.out he
        have he' : ((tr.getD k default).lit == -y) = true := by simp only [beq_iff_eq]; exact he
        clear hd he HY HN H3
        generalize (tr.getD k default).lit = z at *
        go_wp2
        go_ret
        exact ⟨ret_int hB.out.symm, rfl⟩
      · have hd2 : Hid (∀ j, j < k + 1 → ¬ (tr.getD j default).lit = -y) := fun j hj => by
          by_cases hjk : j = k
          · subst hjk; exact he
          · exact hd.out j (by omega)
        have he' : ((tr.getD k default).lit == -y) = false := by simp only [beq_eq_false_iff_ne]; exact he
        clear hd he HY H3
        generalize (tr.getD k default).lit = z at *
        go_wp2
        go_round
        case rel => exact ⟨k + 1, by omega, by go_num, hd2⟩
        case measure => simp [intOf]; omega
    · have hB : Hid (B = -1) := HN.out fun j hj => hd.out j (by omega)
      clear hd HY HN H3
      go_wp2
      go_ret
      exact ⟨ret_int hB.out.symm, rfl⟩
theorem wrongI_full (tr : List St) (y : Int) : wrongI (tr.take tr.length) y = wrongI tr y := by rw [List.take_length]
theorem wrongI_pos {tr : List St} {y : Int} : 0 ≤ wrongI tr y ↔ trueT tr (-y) = true := by
  have := wrongI_neg (tr := tr) (y := y)
  cases h : trueT tr (-y) with
  | true => rw [h] at this; simp at this; simp; exact this
  | false => rw [h] at this; simp at this; simp; exact this
set_option maxHeartbeats 2000000 in
theorem r13occurs_any (sv : Value) (tr : List St) (i : Nat) (y : Int) (w : World) (hs : StepsAt w sv tr) (hi : i ≤ tr.length) (y1 : -1000 ≤ y) (y2 : y ≤ 1000) (hlen : tr.length ≤ 1000) :
    Calls Try.prog 66 #[sv, .int .i64 i, .int .i64 y] w fun e w' => e = .returned (.bool (!openT (tr.take i) y)) ∧ w = w' := by
  have H1 : Hid _ := r13find_any sv tr i y w hs hi y1 y2 hlen
  have H2 : Hid _ := r13find_any sv tr i (-y) w hs hi (by omega) (by omega) hlen
  have HO : Hid (openT (tr.take i) y = (!trueT (tr.take i) y && !trueT (tr.take i) (-y))) := rfl
  have HP1 : Hid (0 ≤ wrongI (tr.take i) y ↔ trueT (tr.take i) (-y) = true) := wrongI_pos
  have HP2 : Hid (0 ≤ wrongI (tr.take i) (-y) ↔ trueT (tr.take i) y = true) := by
    have := wrongI_pos (tr := tr.take i) (y := -y); rw [Int.neg_neg] at this; exact this
  have hwy : IntKind.i64.wrap (-y) = -y := IntWalk.i64_in _ (by omega)
  generalize openT (tr.take i) y = O at *
  generalize wrongI (tr.take i) y = A at *
  generalize wrongI (tr.take i) (-y) = B at *
  generalize trueT (tr.take i) y = T1 at *
  generalize trueT (tr.take i) (-y) = T2 at *
  obtain ⟨a, cap, rfl, _, _, h3⟩ := hs
  clear h3
  by_cases hA : 0 ≤ A
  · have hO : Hid (O = false) := by show _ = _; rw [HO.out, HP1.out.1 hA]; simp
    clear HO HP1 HP2 H2
    go_enter Try.func66, Try.ntmps66
    go_wp2_with fail
    refine Calls.mono H1.out ?_
    rintro e w2 ⟨rfl, rfl⟩
    go_wp2
    go_ret
    exact ⟨ret_bool (by rw [hO.out]; rfl), rfl⟩
  · have hT2 : T2 = false := by
      cases h : T2 with
      | false => rfl
      | true => exact absurd (HP1.out.2 h) hA
    by_cases hB : 0 ≤ B
    · have hO : Hid (O = false) := by show _ = _; rw [HO.out, HP2.out.1 hB]; simp
      clear HO HP1 HP2 hT2
      go_enter Try.func66, Try.ntmps66
      go_wp2_with fail
      refine Calls.mono H1.out ?_
      rintro e w2 ⟨rfl, rfl⟩
      go_wp2_with fail
      refine Calls.mono H2.out ?_
      rintro e w2 ⟨rfl, rfl⟩
      go_wp2
      go_ret
      exact ⟨ret_bool (by rw [hO.out]; rfl), rfl⟩
    · have hT1 : T1 = false := by
        cases h : T1 with
        | false => rfl
        | true => exact absurd (HP2.out.2 h) hB
      have hO : Hid (O = true) := by show _ = _; rw [HO.out, hT1, hT2]; rfl
      clear HO HP1 HP2 hT2 hT1
      go_enter Try.func66, Try.ntmps66
      go_wp2_with fail
      refine Calls.mono H1.out ?_
      rintro e w2 ⟨rfl, rfl⟩
      go_wp2_with fail
      refine Calls.mono H2.out ?_
      rintro e w2 ⟨rfl, rfl⟩
      go_wp2
      go_ret
      exact ⟨ret_bool (by rw [hO.out]; simp [hA, hB]), rfl⟩
/-- All literals but one are false. -/
def allFB (pre : List St) (c : List Int) (b : Int) : Bool := c.all fun y => y == b || trueT pre (-y)
theorem reasonB_eq (pre : List St) (c : List Int) (x : Int) : reasonB pre c x = (c.contains x && allFB pre c x) := rfl
theorem confB_eq {tr : List St} {c : List Int} (h : ∀ y ∈ c, y ≠ 0) : allFB (tr.take tr.length) c 0 = confB tr c := by
  rw [List.take_length]
  unfold allFB confB
  rw [Bool.eq_iff_iff, List.all_eq_true, List.all_eq_true]
  refine ⟨fun g y hy => ?_, fun g y hy => by rw [g y hy, Bool.or_true]⟩
  have := g y hy
  rw [Bool.or_eq_true, beq_iff_eq] at this
  exact this.resolve_left (h y hy)
set_option maxHeartbeats 2000000 in
theorem r13allFalse_any (sv cv : Value) (tr : List St) (c : List Int) (i : Nat) (b : Int) (w : World) (hs : StepsAt w sv tr) (hc : IntsAt w cv c) (hi : i ≤ tr.length) (hl : ∀ y ∈ c, -1000 ≤ y ∧ y ≤ 1000) (hlen : tr.length ≤ 1000) :
    Calls Try.prog 38 #[sv, .int .i64 i, cv, .int .i64 b] w fun e w' => e = .returned (.bool (allFB (tr.take i) c b)) ∧ w = w' := by
  have HF : Hid (∀ k, k < c.length → Calls Try.prog 42 #[sv, .int .i64 i, .int .i64 (c.getD k 0)] w fun e w' => e = .returned (.int .i64 (wrongI (tr.take i) (c.getD k 0))) ∧ w = w') := fun k hk => by
    have := hl (c.getD k 0) (by rw [getD_getElem hk]; exact List.getElem_mem hk)
    exact r13find_any sv tr i _ w hs hi this.1 this.2 hlen
  have HY : Hid ((∀ k, k < c.length → c.getD k 0 = b ∨ 0 ≤ wrongI (tr.take i) (c.getD k 0)) → allFB (tr.take i) c b = true) := fun h => by
    unfold allFB
    refine all_of_getD (d := 0) fun j hj => ?_
    rw [Bool.or_eq_true, beq_iff_eq]
    rcases h j hj with h | h
    · exact .inl h
    · right
      have := wrongI_pos (tr := tr.take i) (y := c.getD j 0)
      exact this.1 h
  have HN : Hid (∀ k, k < c.length → c.getD k 0 ≠ b → wrongI (tr.take i) (c.getD k 0) < 0 → allFB (tr.take i) c b = false) := fun k hk h1 h2 => by
    unfold allFB
    refine not_all_of_getD (d := 0) hk ?_
    rw [wrongI_neg.1 h2, Bool.or_false, beq_eq_false_iff_ne]; exact h1
  obtain ⟨sa, scap, rfl, _, _, s3⟩ := hs
  obtain ⟨a, cap, rfl, h1, h2, h3⟩ := hc
  unfold maxLen at h2
  have H3 : Hid _ := h3
  clear h3 s3
  generalize allFB (tr.take i) c b = R at *
  go_enter Try.func38, Try.ntmps38
  go_wp2
  go_loop [9] (fun v => ∃ k : Nat, k ≤ c.length ∧ v = .int .i64 k ∧ Hid (∀ j, j < k → c.getD j 0 = b ∨ 0 ≤ wrongI (tr.take i) (c.getD j 0))) (fun v => c.length - (intOf v).toNat)
  case atStart => exact ⟨0, Nat.zero_le _, rfl, fun j hj => (by omega)⟩
  case round =>
    obtain ⟨k, hk, rfl, hd⟩ := hrel
    by_cases hlt : k < c.length
    · obtain ⟨bb, off, rfl, hb, c0⟩ := H3.out k hlt
      have HF1 : Hid _ := HF.out k hlt
      have HN1 : Hid _ := HN.out k hlt
      by_cases he : c.getD k 0 = b
      · have hd2 : Hid (∀ j, j < k + 1 → c.getD j 0 = b ∨ 0 ≤ wrongI (tr.take i) (c.getD j 0)) := fun j hj => by
          by_cases hjk : j = k
          · subst hjk; exact .inl he
          · exact hd.out j (by omega)
        have he' : (c.getD k 0 != b) = false := by rw [he]; exact by simp
        clear hd he HY HN HN1 HF HF1 H3
        generalize c.getD k 0 = z at *
        go_wp2
        go_round
        case rel => exact ⟨k + 1, by omega, by go_num, hd2⟩
        case measure => simp [intOf]; omega
      · have he' : (c.getD k 0 != b) = true := bne_iff_ne.2 he
        by_cases hw : wrongI (tr.take i) (c.getD k 0) < 0
        · have hB : Hid (R = false) := HN1.out he hw
          clear hd he HY HN HN1 HF H3
          generalize wrongI (tr.take i) (c.getD k 0) = wi at *
          generalize c.getD k 0 = z at *
          go_wp2_with fail
          refine Calls.mono HF1.out ?_
          rintro e w2 ⟨rfl, rfl⟩
          go_wp2
          go_ret
          exact ⟨ret_bool hB.out.symm, rfl⟩
        · have hd2 : Hid (∀ j, j < k + 1 → c.getD j 0 = b ∨ 0 ≤ wrongI (tr.take i) (c.getD j 0)) := fun j hj => by
            by_cases hjk : j = k
            · subst hjk; exact .inr (by omega)
            · exact hd.out j (by omega)
          clear hd he HY HN HN1 HF H3
          generalize wrongI (tr.take i) (c.getD k 0) = wi at *
          generalize c.getD k 0 = z at *
          go_wp2_with fail
          refine Calls.mono HF1.out ?_
          rintro e w2 ⟨rfl, rfl⟩
          go_wp2
          go_round
          case rel => exact ⟨k + 1, by omega, by go_num, hd2⟩
          case measure => simp [intOf]; omega
    · have hB : Hid (R = true) := HY.out fun j hj => hd.out j (by omega)
      clear hd HY HN HF H3
      go_wp2
      go_ret
      exact ⟨ret_bool hB.out.symm, rfl⟩
set_option maxHeartbeats 2000000 in
theorem r13level_any (sv : Value) (tr : List St) (y : Int) (w : World) (hs : StepsAt w sv tr) (hy : trueT tr (-y) = true) (y1 : -1000 ≤ y) (y2 : y ≤ 1000) (hlen : tr.length ≤ 1000) :
    Calls Try.prog 43 #[sv, .int .i64 y] w fun e w' => e = .returned (.int .i64 (levelOf tr y)) ∧ w = w' := by
  have H1 := r13find_any sv tr tr.length y w hs (Nat.le_refl _) y1 y2 hlen
  rw [List.take_length] at H1
  obtain ⟨k, hk⟩ := wrongN_isSome.2 hy
  obtain ⟨hkl, _⟩ := wrongN_some hk
  have e1 : wrongI tr y = k := by unfold wrongI; rw [hk]
  have e2 : levelOf tr y = sV tr k := levelOf_wrong hk
  rw [e1] at H1
  rw [e2]
  have H1' : Hid _ := H1
  obtain ⟨a, cap, rfl, h1, h2, h3⟩ := hs
  unfold maxLen at h2
  obtain ⟨b, off, rfl, hb, _, _, c2⟩ := h3 k hkl
  clear h3 H1 e1 e2 hk hy
  unfold sV
  generalize (tr.getD k default).lev = z at *
  go_enter Try.func43, Try.ntmps43
  go_wp2_with fail
  refine Calls.mono H1'.out ?_
  rintro e w2 ⟨rfl, rfl⟩
  go_wp2
  go_ret
  exact ⟨rfl, rfl⟩
end Go.Proofs.Yteagoaiiacideaa
