/- Texts of this claim, joined: Ref04, Ref04b, OppLaw. No condition. -/
import Derived.Test.YtnhlfhoeglnajaaG2
/- The reference of the chapter on literals: what each call returns; old memory stays. -/
namespace Go.Proofs.Ytnhlfhoeglnajaa
set_option linter.unusedSimpArgs false
set_option linter.unusedVariables false
open Go.RowKit

theorem litVar_bound {x : Int} (h : litVar x ≠ 0) : -128 ≤ x ∧ x ≤ 128 := by
  unfold litVar at h
  (repeat' split at h) <;> omega
set_option maxHeartbeats 1000000 in
theorem r04has_any (lv : Value) (l : List Int) (x : Int) (w : World) (hl : IntsAt w lv l) :
    Calls Try.prog 111 #[lv, .int .i64 x] w fun e w' => e = .returned (.bool (l.contains x)) ∧ w = w' := by
  obtain ⟨a, cap, rfl, h1, h2, h3⟩ := hl
  unfold maxLen at h2
  have H3 : Hid _ := h3
  have HY : Hid (∀ k, k < l.length → l.getD k 0 = x → l.contains x = true) := fun k hk h => by
    rw [List.contains_iff_mem, ← h, getD_getElem hk]; exact List.getElem_mem hk
  have HN : Hid ((∀ k, k < l.length → ¬ l.getD k 0 = x) → l.contains x = false) := fun h => by
    rw [Bool.eq_false_iff]
    intro hc
    rw [List.contains_iff_mem] at hc
    obtain ⟨k, hk, e⟩ := List.getElem_of_mem hc
    exact h k hk (by rw [getD_getElem hk]; exact e)
  clear h3
  generalize l.contains x = B at *
  go_enter Try.func111, Try.ntmps111
  go_wp2
  go_loop [5] (fun i => ∃ k : Nat, k ≤ l.length ∧ i = .int .i64 k ∧ Hid (∀ j, j < k → ¬ l.getD j 0 = x)) (fun i => l.length - (intOf i).toNat)
  case atStart => exact ⟨0, Nat.zero_le _, rfl, fun j hj => (by omega)⟩
  case round =>
    obtain ⟨k, hk, rfl, hd⟩ := hrel
    by_cases hlt : k < l.length
    · obtain ⟨b, off, rfl, hb, hc⟩ := H3.out k hlt
      by_cases he : l.getD k 0 = x
      · have hB : Hid (B = true) := HY.out k hlt he
        have he' : (l.getD k 0 == x) = true := by simp only [beq_iff_eq]; exact he
        clear hd he HY HN H3
        generalize l.getD k 0 = y at *
        go_wp2
        go_ret
        exact ⟨ret_bool hB.out.symm, rfl⟩
      · have hd2 : Hid (∀ j, j < k + 1 → ¬ l.getD j 0 = x) := fun j hj => by
          by_cases hjk : j = k
          · subst hjk; exact he
          · exact hd.out j (by omega)
        have he' : (l.getD k 0 == x) = false := by simp only [beq_eq_false_iff_ne]; exact he
        clear hd he HY H3
        generalize l.getD k 0 = y at *
        go_wp2
        go_round
        case rel => exact ⟨k + 1, by omega, by go_num, hd2⟩
        case measure => simp [intOf]; omega
    · have hB : Hid (B = false) := HN.out fun j hj => hd.out j (by omega)
      clear hd HY HN H3
      go_wp2
      go_ret
      exact ⟨ret_bool hB.out.symm, rfl⟩
set_option maxHeartbeats 1000000 in
theorem r04All1_any (lv : Value) (l : List Int) (n : Int) (w : World) (hl : IntsAt w lv l) :
    Calls Try.prog 107 #[lv, .int .i64 n] w fun e w' => e = .returned (.bool (l.all (litValid · n))) ∧ w = w' := by
  obtain ⟨a, cap, rfl, h1, h2, h3⟩ := hl
  unfold maxLen at h2
  have H3 : Hid _ := h3
  have HY : Hid (∀ k, k < l.length → litValid (l.getD k 0) n = false → l.all (litValid · n) = false) := fun k hk h => not_all_of_getD hk h
  have HN : Hid ((∀ k, k < l.length → litValid (l.getD k 0) n = true) → l.all (litValid · n) = true) := fun h => all_of_getD h
  clear h3
  generalize l.all (litValid · n) = B at *
  go_enter Try.func107, Try.ntmps107
  go_wp2
  go_loop [5] (fun i => ∃ k : Nat, k ≤ l.length ∧ i = .int .i64 k ∧ Hid (∀ j, j < k → litValid (l.getD j 0) n = true)) (fun i => l.length - (intOf i).toNat)
  case atStart => exact ⟨0, Nat.zero_le _, rfl, fun j hj => (by omega)⟩
  case round =>
    obtain ⟨k, hk, rfl, hd⟩ := hrel
    by_cases hlt : k < l.length
    · obtain ⟨b, off, rfl, hb, hc⟩ := H3.out k hlt
      have hV := r04Valid_any (l.getD k 0) n
      by_cases he : litValid (l.getD k 0) n = true
      · have hd2 : Hid (∀ j, j < k + 1 → litValid (l.getD j 0) n = true) := fun j hj => by
          by_cases hjk : j = k
          · subst hjk; exact he
          · exact hd.out j (by omega)
        rw [he] at hV
        have HV : Hid _ := hV
        clear hd he HY H3 hV
        generalize l.getD k 0 = y at *
        go_wp2_with (go_at_call 119; refine (HV.out _).mono ?_; rintro e w' ⟨rfl, rfl⟩)
        go_round
        case rel => exact ⟨k + 1, by omega, by go_num, hd2⟩
        case measure => simp [intOf]; omega
      · have he' : litValid (l.getD k 0) n = false := by simpa using he
        have hB : Hid (B = false) := HY.out k hlt he'
        rw [he'] at hV
        have HV : Hid _ := hV
        clear hd he he' HY HN H3 hV
        generalize l.getD k 0 = y at *
        go_wp2_with (go_at_call 119; refine (HV.out _).mono ?_; rintro e w' ⟨rfl, rfl⟩)
        go_ret
        exact ⟨ret_bool hB.out.symm, rfl⟩
    · have hB : Hid (B = true) := HN.out fun j hj => hd.out j (by omega)
      clear hd HY HN H3
      go_wp2
      go_ret
      exact ⟨ret_bool hB.out.symm, rfl⟩
end Go.Proofs.Ytnhlfhoeglnajaa
/- The reference of the chapter on literals: Order, Opposite, Subsumes: what each call returns; old memory stays. -/
namespace Go.Proofs.Ytnhlfhoeglnajaa
set_option linter.unusedSimpArgs false
set_option linter.unusedVariables false
open Go.RowKit
def pieceL (l : List Int) (v : Nat) : List Int := (if l.contains (-((v : Int) + 1)) then [-((v : Int) + 1)] else []) ++ (if l.contains ((v : Int) + 1) then [(v : Int) + 1] else [])
def orderTo (l : List Int) (k : Nat) : List Int := (List.range k).flatMap (pieceL l)
theorem orderTo_all (l : List Int) : orderTo l 128 = orderL l := rfl
theorem orderTo_succ (l : List Int) (k : Nat) : orderTo l (k + 1) = orderTo l k ++ pieceL l k := by
  unfold orderTo; rw [List.range_succ, List.flatMap_append]; simp
theorem orderTo_length (l : List Int) : ∀ k, (orderTo l k).length ≤ 2 * k
  | 0 => by simp [orderTo]
  | k + 1 => by
    have := orderTo_length l k
    rw [orderTo_succ, List.length_append]
    have : (pieceL l k).length ≤ 2 := by unfold pieceL; split <;> split <;> simp
    omega
/-- What Order hands back: a list of the call's own. -/
def OrdRet (w : World) (L : List Int) (e : Ending) (w' : World) : Prop := ∃ v, e = .returned v ∧ OwnI w' w.heap.size v L ∧ Ex w w'
set_option maxHeartbeats 2000000 in
theorem r04Order_any (lv : Value) (l : List Int) (w : World) (hl : IntsAt w lv l) :
    Calls Try.prog 92 #[lv] w (OrdRet w (orderL l)) := by
  have HH : Hid (∀ wa x, Ex w wa → Calls Try.prog 111 #[lv, .int .i64 x] wa fun e w' => e = .returned (.bool (l.contains x)) ∧ wa = w') := fun wa x hx => r04has_any lv l x wa (hl.ex hx)
  obtain ⟨a, cap, rfl, _, _, h3⟩ := hl
  clear h3
  rw [← orderTo_all]
  go_enter Try.func92, Try.ntmps92
  go_wp2
  go_loopw [3, 4] (fun out i wr => ∃ k : Nat, k ≤ 128 ∧ i = .int .i64 (k + 1 : Nat) ∧ OwnI wr w.heap.size out (orderTo l k) ∧ Ex w wr) (fun out i _ => 129 - (intOf i).toNat)
  case atStart => exact ⟨0, Nat.zero_le _, rfl, OwnI.nil _ _, Ex.refl _⟩
  case round =>
    obtain ⟨k, hk, rfl, hO, hxr⟩ := hrel
    by_cases hlt : k < 128
    · have H1 := HH.out wr (-((k + 1 : Nat) : Int)) hxr
      have H2 : Hid (∀ wa, Ex w wa → Calls Try.prog 111 #[.slice a l.length cap, .int .i64 ((k + 1 : Nat) : Int)] wa fun e w' => e = .returned (.bool (l.contains ((k + 1 : Nat) : Int))) ∧ wa = w') := fun wa hx => HH.out wa _ hx
      have hS := orderTo_succ l k
      have hlen : Hid ((orderTo l k).length ≤ 2 * k) := orderTo_length l k
      have hs := hxr.size
      unfold pieceL at hS
      rw [show ((k : Int) + 1) = ((k + 1 : Nat) : Int) by omega] at hS
      have q1 : ((k + 1 : Nat) : Int) ≤ 128 := by omega
      have q0 : (0 : Int) ≤ ((k + 1 : Nat) : Int) := by omega
      have q2 : Hid (((k + 1 : Nat) : Int) + 1 = ((k + 1 + 1 : Nat) : Int)) := by show _ = _; omega
      obtain ⟨v, hv⟩ : ∃ v : Int, v = ((k + 1 : Nat) : Int) := ⟨_, rfl⟩
      rw [← hv] at H1 H2 hS q1 q0 q2 ⊢
      have Hv : Hid _ := hv
      clear hv HH
      by_cases hn : l.contains (-v) = true
      · by_cases hp : l.contains v = true
        · have hF : Hid (orderTo l (k + 1) = orderTo l k ++ [-v, v]) := by
            show _ = _
            rw [hS, if_pos hn, if_pos hp]
            simp
          rw [hn] at H1
          rw [hp] at H2
          have H1' : Hid _ := H1
          clear H1 hn hp hS
          generalize hL1 : orderTo l (k + 1) = L1 at *
          have HL1 : Hid _ := hL1
          clear hL1
          generalize orderTo l k = L0 at *
          go_wp2_with fail
          refine Calls.mono H1'.out ?_
          rintro e w' ⟨rfl, rfl⟩
          have hI1 := intsAt_fresh wr (-v) 3
          go_wp2_with (at_builtin; refine wpList_append_ints rfl (.tmp 13) (.tmp 16) rfl rfl rfl (hO.ex (Ex.alloc _ _)) hI1 ?c1 ?c2 ?_)
          case c1 => have := hlen.out; simp only [List.length_cons, List.length_nil]; omega
          case c2 => exact Nat.le_trans hs (by show _ ≤ (wr.heap.push _).size; simp)
          intro v1 w1 hown hg
          have hx1 : Ex w w1 := grown_ex (hxr.alloc' _) hg (ownsRow_block hO)
          have hO1 : OwnI w1 w.heap.size v1 (L0 ++ [-v]) := hown
          have hs1 := hx1.size
          clear hg hI1 hown hO hxr hs
          go_wp2_with fail
          refine Calls.mono (H2.out w1 hx1) ?_
          rintro e w' ⟨rfl, rfl⟩
          have hI2 := intsAt_fresh w1 v 3
          go_wp2_with (at_builtin; refine wpList_append_ints rfl (.tmp 21) (.tmp 23) rfl rfl rfl (hO1.ex (Ex.alloc _ _)) hI2 ?c1 ?c2 ?_)
          case c1 => have := hlen.out; simp only [List.length_append, List.length_cons, List.length_nil]; omega
          case c2 => exact Nat.le_trans hs1 (by show _ ≤ (w1.heap.push _).size; simp)
          intro v2 w2 hown2 hg2
          have hx2 : Ex w w2 := grown_ex (hx1.alloc' _) hg2 (ownsRow_block hO1)
          have hO2 : OwnI w2 w.heap.size v2 (L0 ++ [-v, v]) := hown2
          clear hg2 hI2 hown2
          go_wp2
          go_roundw
          case rel => exact ⟨k + 1, by omega, by rw [q2.out], by rw [HL1.out, hF.out]; exact hO2, hx2⟩
          case measure => simp [intOf]; have := Hv.out; omega
        · have hF : Hid (orderTo l (k + 1) = orderTo l k ++ [-v]) := by
            show _ = _
            rw [hS, if_pos hn, if_neg hp]
            simp
          rw [hn] at H1
          rw [Bool.eq_false_iff.2 hp] at H2
          have H1' : Hid _ := H1
          clear H1 hn hp hS
          generalize hL1 : orderTo l (k + 1) = L1 at *
          have HL1 : Hid _ := hL1
          clear hL1
          generalize orderTo l k = L0 at *
          go_wp2_with fail
          refine Calls.mono H1'.out ?_
          rintro e w' ⟨rfl, rfl⟩
          have hI1 := intsAt_fresh wr (-v) 3
          go_wp2_with (at_builtin; refine wpList_append_ints rfl (.tmp 13) (.tmp 16) rfl rfl rfl (hO.ex (Ex.alloc _ _)) hI1 ?c1 ?c2 ?_)
          case c1 => have := hlen.out; simp only [List.length_cons, List.length_nil]; omega
          case c2 => exact Nat.le_trans hs (by show _ ≤ (wr.heap.push _).size; simp)
          intro v1 w1 hown hg
          have hx1 : Ex w w1 := grown_ex (hxr.alloc' _) hg (ownsRow_block hO)
          have hO1 : OwnI w1 w.heap.size v1 (L0 ++ [-v]) := hown
          have hs1 := hx1.size
          clear hg hI1 hown hO hxr hs
          go_wp2_with fail
          refine Calls.mono (H2.out w1 hx1) ?_
          rintro e w' ⟨rfl, rfl⟩
          go_wp2
          go_roundw
          case rel => exact ⟨k + 1, by omega, by rw [q2.out], by rw [HL1.out, hF.out]; exact hO1, hx1⟩
          case measure => simp [intOf]; have := Hv.out; omega
      · by_cases hp : l.contains v = true
        · have hF : Hid (orderTo l (k + 1) = orderTo l k ++ [v]) := by
            show _ = _
            rw [hS, if_neg hn, if_pos hp]
            simp
          rw [Bool.eq_false_iff.2 hn] at H1
          rw [hp] at H2
          have H1' : Hid _ := H1
          clear H1 hn hp hS
          generalize hL1 : orderTo l (k + 1) = L1 at *
          have HL1 : Hid _ := hL1
          clear hL1
          generalize orderTo l k = L0 at *
          go_wp2_with fail
          refine Calls.mono H1'.out ?_
          rintro e w' ⟨rfl, rfl⟩
          have hs1 := hs
          go_wp2_with fail
          refine Calls.mono (H2.out wr hxr) ?_
          rintro e w' ⟨rfl, rfl⟩
          have hI2 := intsAt_fresh wr v 3
          go_wp2_with (at_builtin; refine wpList_append_ints rfl (.tmp 21) (.tmp 23) rfl rfl rfl (hO.ex (Ex.alloc _ _)) hI2 ?c1 ?c2 ?_)
          case c1 => have := hlen.out; simp only [List.length_append, List.length_cons, List.length_nil]; omega
          case c2 => exact Nat.le_trans hs1 (by show _ ≤ (wr.heap.push _).size; simp)
          intro v2 w2 hown2 hg2
          have hx2 : Ex w w2 := grown_ex (hxr.alloc' _) hg2 (ownsRow_block hO)
          have hO2 : OwnI w2 w.heap.size v2 (L0 ++ [v]) := hown2
          clear hg2 hI2 hown2
          go_wp2
          go_roundw
          case rel => exact ⟨k + 1, by omega, by rw [q2.out], by rw [HL1.out, hF.out]; exact hO2, hx2⟩
          case measure => simp [intOf]; have := Hv.out; omega
        · have hF : Hid (orderTo l (k + 1) = orderTo l k) := by
            show _ = _
            rw [hS, if_neg hn, if_neg hp]
            simp
          rw [Bool.eq_false_iff.2 hn] at H1
          rw [Bool.eq_false_iff.2 hp] at H2
          have H1' : Hid _ := H1
          clear H1 hn hp hS
          generalize hL1 : orderTo l (k + 1) = L1 at *
          have HL1 : Hid _ := hL1
          clear hL1
          generalize orderTo l k = L0 at *
          go_wp2_with fail
          refine Calls.mono H1'.out ?_
          rintro e w' ⟨rfl, rfl⟩
          have hs1 := hs
          go_wp2_with fail
          refine Calls.mono (H2.out wr hxr) ?_
          rintro e w' ⟨rfl, rfl⟩
          go_wp2
          go_roundw
          case rel => exact ⟨k + 1, by omega, by rw [q2.out], by rw [HL1.out, hF.out]; exact hO, hxr⟩
          case measure => simp [intOf]; have := Hv.out; omega
    · obtain rfl : k = 128 := by omega
      go_wp2
      go_ret
      exact ⟨_, rfl, hO, hxr⟩
end Go.Proofs.Ytnhlfhoeglnajaa
/- A list of literals has opposite ones exactly if in order they are neighbours. No Go in sight. -/
namespace Go.Proofs.Ytnhlfhoeglnajaa
set_option linter.unusedSimpArgs false
set_option linter.unusedVariables false
theorem opp_order {l : List Int} (hv : ∀ x ∈ l, litVar x ≠ 0) : oppB (orderL l) = l.any fun x => l.contains (-x) := by
  have hm := orderL_mem hv
  have hs := orderL_strict l
  generalize orderL l = L at *
  rw [Bool.eq_iff_iff]
  unfold oppB
  rw [List.any_eq_true, List.any_eq_true]
  have hp := List.pairwise_iff_getElem.1 hs
  constructor
  · rintro ⟨i, hi, h⟩
    rw [List.mem_range] at hi
    simp only [Bool.and_eq_true, decide_eq_true_eq, beq_iff_eq] at h
    obtain ⟨h1, h2⟩ := h
    rw [getD_getElem hi, getD_getElem (by omega)] at h2
    refine ⟨L[i - 1], (hm _).1 (List.getElem_mem _), ?_⟩
    rw [List.contains_iff_mem, ← h2]
    exact (hm _).1 (List.getElem_mem _)
  · rintro ⟨x, hx, h⟩
    rw [List.contains_iff_mem] at h
    have key : ∀ y : Int, y < 0 → y ∈ L → -y ∈ L → ∃ i, i ∈ List.range L.length ∧ (decide (1 ≤ i) && (L.getD i 0 == -(L.getD (i - 1) 0))) = true := by
      intro y hy h1 h2
      obtain ⟨i, hi, ei⟩ := List.getElem_of_mem h1
      obtain ⟨j, hj, ej⟩ := List.getElem_of_mem h2
      have ki : litKey L[i] = 2 * (y.natAbs : Int) := by rw [ei]; unfold litKey; rw [if_neg (by omega)]; omega
      have kj : litKey L[j] = 2 * (y.natAbs : Int) + 1 := by rw [ej]; unfold litKey; rw [if_pos (by omega)]; omega
      have hij : i < j := by
        rcases Nat.lt_trichotomy i j with h | h | h
        · exact h
        · subst h; omega
        · have := hp j i hj hi h; omega
      have hji : j = i + 1 := by
        by_cases h : j = i + 1
        · exact h
        · have a1 := hp i (i + 1) hi (by omega) (by omega)
          have a2 := hp (i + 1) j (by omega) hj (by omega)
          omega
      refine ⟨j, List.mem_range.2 hj, ?_⟩
      simp only [Bool.and_eq_true, decide_eq_true_eq, beq_iff_eq]
      refine ⟨by omega, ?_⟩
      rw [getD_getElem hj, getD_getElem (by omega), ej]
      subst hji
      simp only [Nat.add_sub_cancel]
      rw [ei]
    have h0 : x ≠ 0 := by rintro rfl; exact hv 0 hx rfl
    rcases Int.lt_or_gt_of_ne h0 with hn | hn
    · exact key x hn ((hm _).2 hx) ((hm _).2 h)
    · exact key (-x) (by omega) ((hm _).2 h) (by rw [Int.neg_neg]; exact (hm _).2 hx)
end Go.Proofs.Ytnhlfhoeglnajaa
