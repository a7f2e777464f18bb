/- The reference of probing: with, sorted: what each call returns. No condition. -/
import Derived.Test.YtnhlfhoeglnajaaStepP
namespace Go.Proofs.Ytnhlfhoeglnajaa
set_option linter.unusedSimpArgs false
set_option linter.unusedVariables false
open Go.RowKit
set_option maxRecDepth 20000
set_option maxHeartbeats 1000000 in
theorem r15with_any (av : Value) (l : List Int) (x : Int) (w : World) (hl : IntsAt w av l) (hb : l.length ≤ 1000) :
    Calls Try.prog 75 #[av, .int .i64 x] w (OrdRet w (l ++ [x])) := by
  have hl0 := hl
  obtain ⟨a, cap, rfl, h1, h2, h3⟩ := hl
  clear h3
  go_enter Try.func75, Try.ntmps75
  go_wp2_with (at_builtin; refine wpList_append_ints rfl (.tmp 6) (.tmp 7) rfl rfl rfl (OwnI.nil w w.heap.size) hl0 ?c1 ?c2 ?_)
  case c1 => simp only [List.length_nil]; omega
  case c2 => exact Nat.le_refl _
  intro v1 w1 hown hg
  have hx1 : Ex w w1 := grown_ex (Ex.refl _) hg (by intro k hk; cases hk)
  have hO1 : OwnI w1 w.heap.size v1 l := hown
  have hI := intsAt_fresh w1 x 3
  have hs := hx1.size
  clear hown hg
  go_wp2_with (at_builtin; refine wpList_append_ints rfl (.tmp 9) (.tmp 11) rfl rfl rfl (hO1.ex (Ex.alloc _ _)) hI ?c1 ?c2 ?_)
  case c1 => simp only [List.length_cons, List.length_nil]; omega
  case c2 => rw [alloc_size]; omega
  intro v2 w2 hown hg
  have hx2 : Ex w w2 := grown_ex (hx1.alloc' _) hg (ownsRow_block hO1)
  clear hg hI
  go_wp2
  go_ret
  exact ⟨_, rfl, hown, hx2⟩
set_option maxHeartbeats 2000000 in
theorem r15sorted_any (lv : Value) (l : List Int) (n : Nat) (hn : n ≤ 128) (w : World) (hl : IntsAt w lv l) :
    Calls Try.prog 49 #[lv, .int .i64 n] w (OrdRet w (sortF l n)) := by
  have HH : Hid (∀ wa x, Ex w wa → Calls Try.prog 57 #[lv, .int .i64 x] wa fun e w' => e = .returned (.bool (l.contains x)) ∧ wa = w') := fun wa x hx => r15in_any lv l x wa (hl.ex hx)
  obtain ⟨a, cap, rfl, _, _, h3⟩ := hl
  clear h3
  go_enter Try.func49, Try.ntmps49
  go_wp2
  go_loopw [5, 6] (fun out i wr => ∃ k : Nat, k ≤ n ∧ i = .int .i64 ((k : Int) + 1) ∧ OwnI wr w.heap.size out (sortF l k) ∧ Ex w wr) (fun _ i _ => n + 1 - (intOf i).toNat)
  case atStart => exact ⟨0, Nat.zero_le _, rfl, OwnI.nil _ _, Ex.refl _⟩
  case round =>
    obtain ⟨k, hk, rfl, hO, hxr⟩ := hrel
    by_cases hlt : k < n
    · obtain ⟨v, hv⟩ : ∃ v : Int, v = (k : Int) + 1 := ⟨_, rfl⟩
      have HV : Hid _ := hv
      have hS := sortF_succ l k
      have hlen : Hid ((sortF l k).length ≤ k) := sortF_len l k
      unfold sortP at hS
      have q1 : v ≤ (n : Int) := by omega
      have q2 : 1 ≤ v := by omega
      have q3 : v ≤ 128 := by omega
      rw [← hv] at hS ⊢
      have H1 := HH.out wr (-v) hxr
      have H2 := HH.out wr v hxr
      have hs := hxr.size
      clear hv HH
      by_cases hc1 : l.contains (-v) = true
      · rw [hc1] at H1
        have hS2 : Hid (sortF l (k + 1) = sortF l k ++ [-v]) := by show _ = _; rw [hS, if_pos hc1]
        have H1' : Hid _ := H1
        clear H1 H2 hS hc1
        go_wp2_with fail
        refine Calls.mono H1'.out ?_
        rintro e w' ⟨rfl, rfl⟩
        have hI := intsAt_fresh wr (-v) 3
        go_wp2_with (at_builtin; refine wpList_append_ints rfl (.tmp 16) (.tmp 19) rfl rfl rfl (hO.ex (Ex.alloc _ _)) hI ?c1 ?c2 ?_)
        case c1 => have := hlen.out; simp only [List.length_cons, List.length_nil]; omega
        case c2 => rw [alloc_size]; omega
        intro v1 w1 hown hg
        have hx1 : Ex w w1 := grown_ex (hxr.alloc' _) hg (ownsRow_block hO)
        rw [← hS2.out] at hown
        clear hg hI hO H1'
        go_wp2
        go_roundw
        case rel => exact ⟨k + 1, by omega, by rw [HV.out]; go_num, hown, hx1⟩
        case measure => have := HV.out; simp [intOf]; omega
      · have hc1' : l.contains (-v) = false := by simpa using hc1
        rw [hc1'] at H1
        have H1' : Hid _ := H1
        by_cases hc2 : l.contains v = true
        · rw [hc2] at H2
          have hS2 : Hid (sortF l (k + 1) = sortF l k ++ [v]) := by show _ = _; rw [hS, if_neg hc1, if_pos hc2]
          have H2' : Hid _ := H2
          clear H1 H2 hS hc1 hc2 hc1'
          go_wp2_with fail
          refine Calls.mono H1'.out ?_
          rintro e w' ⟨rfl, rfl⟩
          go_wp2_with fail
          refine Calls.mono H2'.out ?_
          rintro e w' ⟨rfl, rfl⟩
          have hI := intsAt_fresh wr v 3
          go_wp2_with (at_builtin; refine wpList_append_ints rfl (.tmp 24) (.tmp 26) rfl rfl rfl (hO.ex (Ex.alloc _ _)) hI ?c1 ?c2 ?_)
          case c1 => have := hlen.out; simp only [List.length_cons, List.length_nil]; omega
          case c2 => rw [alloc_size]; omega
          intro v1 w1 hown hg
          have hx1 : Ex w w1 := grown_ex (hxr.alloc' _) hg (ownsRow_block hO)
          rw [← hS2.out] at hown
          clear hg hI hO H1' H2'
          go_wp2
          go_roundw
          case rel => exact ⟨k + 1, by omega, by rw [HV.out]; go_num, hown, hx1⟩
          case measure => have := HV.out; simp [intOf]; omega
        · have hc2' : l.contains v = false := by simpa using hc2
          rw [hc2'] at H2
          have hS2 : Hid (sortF l (k + 1) = sortF l k) := by show _ = _; rw [hS, if_neg hc1, if_neg hc2, List.append_nil]
          have H2' : Hid _ := H2
          clear H1 H2 hS hc1 hc2 hc1' hc2'
          go_wp2_with fail
          refine Calls.mono H1'.out ?_
          rintro e w' ⟨rfl, rfl⟩
          go_wp2_with fail
          refine Calls.mono H2'.out ?_
          rintro e w' ⟨rfl, rfl⟩
          go_wp2
          go_roundw
          case rel => exact ⟨k + 1, by omega, by rw [HV.out]; go_num, by rw [hS2.out]; exact hO, hxr⟩
          case measure => have := HV.out; simp [intOf]; omega
    · obtain rfl : k = n := by omega
      clear HH
      go_wp2
      go_ret
      exact ⟨_, rfl, hO, hxr⟩
end Go.Proofs.Ytnhlfhoeglnajaa
