/- The reference's backbone: the walk. For theories of at most 12 variables. -/
import Derived.Test.YtnhlfhoeglnajaaBackP
namespace Go.Proofs.Ytnhlfhoeglnajaa
set_option linter.unusedSimpArgs false
set_option linter.unusedVariables false
open Go.RowKit
set_option maxRecDepth 20000
set_option maxRecDepth 100000 in
set_option maxHeartbeats 4000000 in
theorem r15Backbone_bad (n : Int) (lv : Value) (ll : List (List Int)) (w : World) (hR : RowsAt w lv ll) (he : theoryErr n ll ≠ 0) :
    Calls Try.prog 27 #[.agg #[.int .i64 n, lv]] w (BoneRet w [] false (theoryErr n ll)) := by
  have HCk : Hid (∀ wa, Ex w wa → Calls Try.prog 37 #[.agg #[.int .i64 n, lv]] wa fun e w' => e = .returned (.int .i64 (theoryErr n ll)) ∧ Ex wa w') := fun wa hx => r05Check_any n lv ll wa (hR.ex hx)
  obtain ⟨ra, rcap, rfl, _, _, r3⟩ := hR
  have hxa := Ex.alloc w (.cells #[.int .i64 n, .slice ra ll.length rcap] 24)
  have he' : (theoryErr n ll != 0) = true := by simp [he]
  clear r3 he
  generalize theoryErr n ll = ER at *
  go_enter Try.func27, Try.ntmps27
  go_wp2_with fail
  refine (HCk.out _ hxa).mono ?_
  rintro e w2 ⟨rfl, hx2⟩
  go_wp2
  refine bodyPost_ret (v := .tuple #[.slice none 0 0, .bool false, .int .i64 ER]) (by simp [results, Try.results27, go_sem]) rfl ?_
  exact ⟨_, rfl, OwnI.nil _ _, hxa.trans hx2⟩
set_option maxRecDepth 100000 in
set_option maxHeartbeats 4000000 in
theorem r15Backbone_ok (n : Nat) (lv : Value) (ll : List (List Int)) (w : World) (hR : RowsAt w lv ll) (he : theoryErr n ll = 0) (hn : n ≤ 12) :
    Calls Try.prog 27 #[.agg #[.int .i64 n, lv]] w (BoneRet w (boneO n ll) (boneB n ll) 0) := by
  have HCk : Hid (∀ wa, Ex w wa → Calls Try.prog 37 #[.agg #[.int .i64 n, lv]] wa fun e w' => e = .returned (.int .i64 0) ∧ Ex wa w') := fun wa hx => he ▸ r05Check_any n lv ll wa (hR.ex hx)
  have HMo : Hid (∀ wa, Ex w wa → Calls Try.prog 52 #[.agg #[.int .i64 n, lv]] wa fun e w' => ∃ v, e = .returned v ∧ SetsAt w' v (modelsL n ll) ∧ Ex wa w') := fun wa hx => r05Models_any n lv ll wa (hR.ex hx) he hn
  have HNo : Hid (modelsL n ll = [] → boneO n ll = [] ∧ boneB n ll = false) := fun h => by
    have hb : boneB n ll = false := by unfold boneB; rw [Int.toNat_natCast, least_nil, h]; simp
    exact ⟨boneO_no hb, hb⟩
  have HYe : Hid (modelsL n ll ≠ [] → boneO n ll = backF (modelsL n ll) n ∧ boneB n ll = true) := fun h => by
    obtain ⟨s, hs⟩ : ∃ s, least n ll [] = some s := by
      rw [least_nil]
      cases hm : modelsL n ll with
      | nil => exact absurd hm h
      | cons a t => exact ⟨a, rfl⟩
    have hb : boneB n ll = true := by unfold boneB; rw [Int.toNat_natCast, hs]; simp [he]
    refine ⟨?_, hb⟩
    unfold boneO
    rw [if_pos hb, Int.toNat_natCast, hs, back_bone (by omega) hs n (Nat.le_refl _)]; rfl
  obtain ⟨ra, rcap, rfl, _, _, r3⟩ := hR
  have hbox := OwnB.new w [.int .i64 n, .slice ra ll.length rcap] 24
  have hxa := Ex.alloc w (.cells #[.int .i64 n, .slice ra ll.length rcap] 24)
  clear r3 he
  generalize boneO n ll = BO at *
  generalize boneB n ll = BB at *
  generalize modelsL n ll = M at *
  go_enter Try.func27, Try.ntmps27
  go_wp2_with fail
  refine (HCk.out _ hxa).mono ?_
  rintro e w2 ⟨rfl, hx2⟩
  have c0 := (hbox.ex hx2).cell 0
  have c1 := (hbox.ex hx2).cell 1
  have z2 := (hbox.ex hx2).lt
  clear HCk
  go_wp2_with fail
  refine (HMo.out _ (hxa.trans hx2)).mono ?_
  rintro e w3 ⟨mv, rfl, hm, hx3⟩
  have hm0 := hm
  obtain ⟨ma, mcap, rfl, m1, m2, m3⟩ := hm
  unfold maxLen at m2
  have hb3 := (hbox.ex hx2).ex hx3
  have hxw := (hxa.trans hx2).trans hx3
  clear m3 c0 c1 z2 HMo hbox hxa hx2 hx3
  by_cases hM : M.length = 0
  · obtain ⟨rfl, rfl⟩ := HNo.out (List.length_eq_zero_iff.1 hM)
    have hM0 : ((M.length : Int) == 0) = true := by simp [hM]
    clear HNo HYe
    go_wp2
    refine bodyPost_ret (v := .tuple #[.slice none 0 0, .bool false, .int .i64 0]) (by simp [results, Try.results27, go_sem]) rfl ?_
    exact ⟨_, rfl, OwnI.nil _ _, hxw⟩
  obtain ⟨hbo, rfl⟩ := HYe.out (fun h => hM (by rw [h]; rfl))
  have HBo : Hid (BO = backF M n) := hbo
  have hM0 : ((M.length : Int) == 0) = false := by simp [hM]
  have HFs : Hid (∀ m, backF M (m + 1) = backF M m ++ backP M ((m : Int) + 1)) := backF_succ M
  have HFl : Hid (∀ m, (backF M m).length ≤ 2 * m) := backF_len M
  clear HNo HYe hbo
  have hsz := hxw.size
  go_wp2
  clear hM0
  go_loopw [7, 8] (fun out vv wr => ∃ m : Nat, m ≤ n ∧ vv = .int .i64 ((m : Int) + 1) ∧ OwnI wr w3.heap.size out (backF M m) ∧ Ex w3 wr) (fun _ vv _ => n + 1 - (intOf vv).toNat)
  case atStart => exact ⟨0, Nat.zero_le _, rfl, OwnI.nil _ _, Ex.refl _⟩
  case round =>
    obtain ⟨m, hm', rfl, hO, hxr⟩ := hrel
    have hxr0 := hxr
    have c0 := (hb3.ex hxr).cell 0
    have c1 := (hb3.ex hxr).cell 1
    have z1 := (hb3.ex hxr).lt
    by_cases hlt : m < n
    · obtain ⟨v, hv⟩ : ∃ v : Int, v = (m : Int) + 1 := ⟨_, rfl⟩
      have HV : Hid _ := hv
      have hS := HFs.out m
      have hlen : Hid ((backF M m).length ≤ 2 * m) := HFl.out m
      have q1 : v ≤ (n : Int) := by omega
      have q2 : 1 ≤ v := by omega
      have q3 : v ≤ 12 := by omega
      rw [← hv] at hS ⊢
      have HS : Hid (backF M (m + 1) = backF M m ++ ((if manyN M v M.length = M.length then [v] else []) ++ (if manyN M v M.length = 0 then [-v] else []))) := hS
      have HMs : Hid (∀ k, k < M.length → manyN M v (k + 1) = manyN M v k + (if hasB (M.getD k (0, 0)).1 (M.getD k (0, 0)).2 v then 1 else 0)) := fun k hk => manyN_succ hk
      have HMl : Hid (∀ k, manyN M v k ≤ k) := manyN_le M v
      have hM00 : Hid (manyN M v 0 = 0) := by show _ = _; simp [manyN]
      clear hv hS HFs HFl
      go_wp2
      clear c0 c1 z1
      go_loopw [9, 10] (fun cw iw wq => ∃ i : Nat, i ≤ M.length ∧ iw = .int .i64 i ∧ cw = .int .i64 (manyN M v i) ∧ Ex wr wq) (fun _ iw _ => M.length - (intOf iw).toNat)
      case atStart => exact ⟨0, Nat.zero_le _, rfl, by rw [hM00.out]; rfl, Ex.refl _⟩
      case round =>
        obtain ⟨i, hi, rfl, rfl, hxq⟩ := hrel
        by_cases hlti : i < M.length
        · obtain ⟨_, _, hv', _, _, m3⟩ := (hm0.ex (hxr0.trans hxq))
          cases hv'
          obtain ⟨b, off, rfl, hb, d0, d1⟩ := m3 i hlti
          clear m3
          have hms := HMs.out i hlti
          have hml := HMl.out i
          have HH : Hid (Calls Try.prog 53 #[.agg #[.int .u64 (M.getD i (0, 0)).1, .int .u64 (M.getD i (0, 0)).2], .int .i64 v] wr fun e w' => e = .returned (.bool (hasB (M.getD i (0, 0)).1 (M.getD i (0, 0)).2 v)) ∧ Ex wr w') := r03Has_any _ _ v wr
          clear HMs HMl hM00 HS
          generalize hasB (M.getD i (0, 0)).1 (M.getD i (0, 0)).2 v = B at *
          generalize (M.getD i (0, 0)).1 = x at *
          generalize (M.getD i (0, 0)).2 = y at *
          have HMs2 : Hid _ := hms
          clear hms
          generalize manyN M v i = c at *
          cases B with
          | true =>
            go_wp2_with fail
            refine Calls.mono HH.out ?_
            rintro e w8 ⟨rfl, hx8⟩
            go_wp2
            go_roundw
            case rel => exact ⟨i + 1, by omega, by go_num, by have := HMs2.out; simp only [if_true] at this; rw [this]; go_num, hxq.trans hx8⟩
            case measure => simp [intOf]; omega
          | false =>
            go_wp2_with fail
            refine Calls.mono HH.out ?_
            rintro e w8 ⟨rfl, hx8⟩
            go_wp2
            go_roundw
            case rel => exact ⟨i + 1, by omega, by go_num, by have := HMs2.out; simp only [Bool.false_eq_true, if_false, Nat.add_zero] at this; rw [this], hxq.trans hx8⟩
            case measure => simp [intOf]; omega
        · obtain rfl : i = M.length := by omega
          have hxr2 := hxr0.trans hxq
          have hO2 := hO.ex hxq
          have hml := HMl.out M.length
          have hsr := hxr2.size
          clear HMs HMl hM00 hO
          generalize manyN M v M.length = c at *
          by_cases ha : c = M.length
          · have hS2 : Hid (backF M (m + 1) = backF M m ++ [v]) := by show _ = _; rw [HS.out, if_pos ha, if_neg (by omega)]; rfl
            have e1 : ((c : Int) == (M.length : Int)) = true := by simp [ha]
            have e2 : ((c : Int) == 0) = false := by simp; omega
            clear HS ha
            have hI := intsAt_fresh wr v 3
            go_wp2_with (at_builtin; refine wpList_append_ints rfl (.tmp 45) (.tmp 47) rfl rfl rfl (hO2.ex (Ex.alloc _ _)) hI ?c1 ?c2 ?_)
            case c1 => have := hlen.out; simp only [List.length_cons, List.length_nil]; omega
            case c2 => rw [alloc_size]; omega
            intro v9 w9 hown hg
            have hx9 : Ex w3 w9 := grown_ex (hxr2.alloc' _) hg (ownsRow_block hO2)
            rw [← hS2.out] at hown
            clear hI hg hO2
            go_wp2
            go_roundw
            case rel => exact ⟨m + 1, by omega, by rw [HV.out]; go_num, hown, hx9⟩
            case measure => have := HV.out; simp [intOf]; omega
          · have e1 : ((c : Int) == (M.length : Int)) = false := by simp; omega
            by_cases hz : c = 0
            · have hS2 : Hid (backF M (m + 1) = backF M m ++ [-v]) := by show _ = _; rw [HS.out, if_neg ha, if_pos hz]; rfl
              have e2 : ((c : Int) == 0) = true := by simp [hz]
              clear HS ha hz
              have hI := intsAt_fresh wr (-v) 3
              go_wp2_with (at_builtin; refine wpList_append_ints rfl (.tmp 51) (.tmp 54) rfl rfl rfl (hO2.ex (Ex.alloc _ _)) hI ?c1 ?c2 ?_)
              case c1 => have := hlen.out; simp only [List.length_cons, List.length_nil]; omega
              case c2 => rw [alloc_size]; omega
              intro v9 w9 hown hg
              have hx9 : Ex w3 w9 := grown_ex (hxr2.alloc' _) hg (ownsRow_block hO2)
              rw [← hS2.out] at hown
              clear hI hg hO2
              go_wp2
              go_roundw
              case rel => exact ⟨m + 1, by omega, by rw [HV.out]; go_num, hown, hx9⟩
              case measure => have := HV.out; simp [intOf]; omega
            · have hS2 : Hid (backF M (m + 1) = backF M m) := by show _ = _; rw [HS.out, if_neg ha, if_neg hz]; simp
              have e2 : ((c : Int) == 0) = false := by simp [hz]
              clear HS ha hz
              go_wp2
              go_roundw
              case rel => exact ⟨m + 1, by omega, by rw [HV.out]; go_num, by rw [hS2.out]; exact hO2, hxr2⟩
              case measure => have := HV.out; simp [intOf]; omega
    · obtain rfl : m = n := by omega
      clear HFs HFl
      go_wp2
      refine bodyPost_ret (v := .tuple #[u7, .bool true, .int .i64 0]) (by simp [results, Try.results27, go_sem]) rfl ?_
      exact ⟨_, rfl, by rw [HBo.out]; exact hO.base hsz, hxw.trans hxr⟩
end Go.Proofs.Ytnhlfhoeglnajaa
