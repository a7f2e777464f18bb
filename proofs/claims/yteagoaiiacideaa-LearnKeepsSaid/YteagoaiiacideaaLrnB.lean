/- The reference of learning: greatest, add, of, Ordered: what each call returns. No condition but that literals are false by the trail. -/
import Derived.Test.YteagoaiiacideaaLrnA
import Derived.Test.YteagoaiiacideaaG5
namespace Go.Proofs.Yteagoaiiacideaa
set_option linter.unusedSimpArgs false
set_option linter.unusedVariables false
open Go.RowKit
set_option maxRecDepth 20000
theorem topI_take {tr : List St} {c : List Int} {k : Nat} (hk : k < c.length) : topI tr (c.take (k + 1)) = max (topI tr (c.take k)) (levelOf tr (c.getD k 0)) := by
  unfold topI
  rw [List.take_succ_eq_append_getElem hk, List.foldl_append, getD_getElem hk]
  rfl
set_option maxHeartbeats 2000000 in
theorem r13greatest_any (sv cv : Value) (tr : List St) (c : List Int) (w : World) (hs : StepsAt w sv tr) (hc : IntsAt w cv c) (hf : ∀ y ∈ c, trueT tr (-y) = true) (hl : ∀ y ∈ c, -1000 ≤ y ∧ y ≤ 1000) (hlen : tr.length ≤ 1000) :
    Calls Try.prog 40 #[sv, cv] w fun e w' => e = .returned (.int .i64 (topI tr c)) ∧ w = w' := by
  have HL : Hid (∀ k, k < c.length → Calls Try.prog 43 #[sv, .int .i64 (c.getD k 0)] w fun e w' => e = .returned (.int .i64 (levelOf tr (c.getD k 0))) ∧ w = w') := fun k hk => by
    have hm : c.getD k 0 ∈ c := by rw [getD_getElem hk]; exact List.getElem_mem hk
    exact r13level_any sv tr _ w hs (hf _ hm) (hl _ hm).1 (hl _ hm).2 hlen
  have HT : Hid (∀ k, k < c.length → topI tr (c.take (k + 1)) = max (topI tr (c.take k)) (levelOf tr (c.getD k 0))) := fun k hk => topI_take hk
  obtain ⟨sa, scap, rfl, _, _, s3⟩ := hs
  obtain ⟨a, cap, rfl, h1, h2, h3⟩ := hc
  unfold maxLen at h2
  have H3 : Hid _ := h3
  clear h3 s3
  go_enter Try.func40, Try.ntmps40
  go_wp2
  go_loop [5, 6] (fun d v => ∃ (k : Nat) (m : Int), k ≤ c.length ∧ v = .int .i64 k ∧ d = .int .i64 m ∧ Hid (m = topI tr (c.take k))) (fun _ v => c.length - (intOf v).toNat)
  case atStart => exact ⟨0, -1, Nat.zero_le _, rfl, rfl, rfl⟩
  case round =>
    obtain ⟨k, m, hk, rfl, rfl, hm⟩ := hrel
    by_cases hlt : k < c.length
    · obtain ⟨bb, off, rfl, hb, c0⟩ := H3.out k hlt
      have HL1 : Hid _ := HL.out k hlt
      have hm2 : Hid (max m (levelOf tr (c.getD k 0)) = topI tr (c.take (k + 1))) := by show _ = _; rw [HT.out k hlt, hm.out]
      clear hm HT HL H3
      generalize levelOf tr (c.getD k 0) = lv at *
      generalize c.getD k 0 = z at *
      go_wp2_with fail
      refine Calls.mono HL1.out ?_
      rintro e w2 ⟨rfl, rfl⟩
      go_wp2
      go_round
      case rel => exact ⟨k + 1, max m lv, by omega, by go_num, rfl, hm2⟩
      case measure => simp [intOf]; omega
    · obtain rfl : k = c.length := by omega
      have hm2 : Hid (m = topI tr c) := by show _ = _; rw [hm.out, List.take_length]
      clear hm HT HL H3
      go_wp2
      go_ret
      exact ⟨ret_int hm2.out, rfl⟩
/-- What 'add' leaves of a list of the call's own. -/
def AddRet (w : World) (base : Nat) (v : Value) (l : List Int) (x : Int) (e : Ending) (w' : World) : Prop := ∃ v', e = .returned v' ∧ OwnI w' base v' (addL l x) ∧ w.grownBy w' v.ownBlock
set_option maxHeartbeats 2000000 in
theorem r13add_any (base : Nat) (v : Value) (l : List Int) (x : Int) (w : World) (ho : OwnI w base v l) (hb : base ≤ w.heap.size) (hl : l.length ≤ 100000) :
    Calls Try.prog 39 #[v, .int .i64 x] w (AddRet w base v l x) := by
  have HC := r05Contains_any v l x w ho.ints
  have ho0 := ho
  obtain ⟨a, cap, rfl, _, _, _⟩ := ho.ints
  cases hc : l.contains x with
  | true =>
    have ha : addL l x = l := by unfold addL; rw [if_pos hc]
    rw [hc] at HC
    have HC' : Hid _ := HC
    clear HC hc ho
    go_enter Try.func39, Try.ntmps39
    go_wp2_with fail
    refine Calls.mono HC'.out ?_
    rintro e w2 ⟨rfl, rfl⟩
    go_wp2
    go_ret
    exact ⟨_, rfl, by rw [ha]; exact ho0, ⟨rfl, rfl, rfl, Nat.le_refl _, fun _ _ _ => rfl⟩⟩
  | false =>
    have ha : addL l x = l ++ [x] := by unfold addL; rw [if_neg (by rw [hc]; simp)]
    rw [hc] at HC
    have HC' : Hid _ := HC
    have hI := intsAt_fresh w x 3
    have hx1 := Ex.alloc w (.cells #[.int .i64 x] 3)
    have hg1 := World.grownBy_alloc w (.cells #[.int .i64 x] 3) (Value.slice a l.length cap).ownBlock
    clear HC hc
    go_enter Try.func39, Try.ntmps39
    go_wp2_with fail
    refine Calls.mono HC'.out ?_
    rintro e w2 ⟨rfl, rfl⟩
    go_wp2_with (at_builtin; refine wpList_append_ints rfl (.tmp 9) (.tmp 11) rfl rfl rfl (ho.ex hx1) hI ?c1 ?c2 ?_)
    case c1 => simp only [List.length_cons, List.length_nil]; omega
    case c2 => rw [alloc_size]; omega
    intro v2 w2 hown hg
    obtain ⟨a2, cap2, rfl, _, _, _⟩ := hown.ints
    go_wp2
    go_ret
    exact ⟨_, rfl, by rw [ha]; exact hown, hg1.trans hg⟩
set_option maxHeartbeats 4000000 in
theorem r13of_any (sv cv : Value) (tr : List St) (c : List Int) (d : Int) (w : World) (hs : StepsAt w sv tr) (hc : IntsAt w cv c) (hf : ∀ y ∈ c, trueT tr (-y) = true) (hl : ∀ y ∈ c, -1000 ≤ y ∧ y ≤ 1000) (hlen : tr.length ≤ 1000) (hcl : c.length ≤ 10000) :
    Calls Try.prog 41 #[sv, cv, .int .i64 d] w (OrdRet w (c.filter fun y => levelOf tr y == d)) := by
  have HL : Hid (∀ k wa, k < c.length → Ex w wa → Calls Try.prog 43 #[sv, .int .i64 (c.getD k 0)] wa fun e w' => e = .returned (.int .i64 (levelOf tr (c.getD k 0))) ∧ wa = w') := fun k wa hk hx => by
    have hm : c.getD k 0 ∈ c := by rw [getD_getElem hk]; exact List.getElem_mem hk
    exact r13level_any sv tr _ wa (hs.ex hx) (hf _ hm) (hl _ hm).1 (hl _ hm).2 hlen
  have HF : Hid (∀ k, k < c.length → (c.take (k + 1)).filter (fun y => levelOf tr y == d) = (c.take k).filter (fun y => levelOf tr y == d) ++ if levelOf tr (c.getD k 0) = d then [c.getD k 0] else []) := fun k hk => by
    rw [List.take_succ_eq_append_getElem hk, List.filter_append, getD_getElem hk]
    by_cases e : levelOf tr c[k] = d
    · rw [if_pos e]; simp [e]
    · rw [if_neg e]; simp [e]
  have HFl : Hid (∀ k, k ≤ c.length → ((c.take k).filter (fun y => levelOf tr y == d)).length ≤ 10000) := fun k hk => by
    have := List.length_filter_le (fun y => levelOf tr y == d) (c.take k)
    rw [List.length_take] at this; omega
  have hc0 := hc
  obtain ⟨sa, scap, rfl, _, _, s3⟩ := hs
  obtain ⟨a, cap, rfl, h1, h2, h3⟩ := hc
  unfold maxLen at h2
  clear h3 s3
  go_enter Try.func41, Try.ntmps41
  go_wp2
  go_loopw [7, 8] (fun ov v wr => ∃ (k : Nat) (m : List Int), k ≤ c.length ∧ v = .int .i64 k ∧ OwnI wr w.heap.size ov m ∧ Ex w wr ∧ Hid (m = (c.take k).filter fun y => levelOf tr y == d)) (fun _ v _ => c.length - (intOf v).toNat)
  case atStart => exact ⟨0, [], Nat.zero_le _, rfl, OwnI.nil _ _, Ex.refl _, rfl⟩
  case round =>
    obtain ⟨k, m, hk, rfl, hO, hx, hm⟩ := hrel
    have hml : m.length ≤ 10000 := by rw [hm.out]; exact HFl.out k hk
    by_cases hlt : k < c.length
    · obtain ⟨_, _, hv, _, _, c3⟩ := hc0.ex hx
      cases hv
      obtain ⟨bb, off, rfl, hb, c0⟩ := c3 k hlt
      have HL1 : Hid _ := HL.out k wr hlt hx
      have hstep := HF.out k hlt
      rw [← hm.out] at hstep
      clear c3 HL HF HFl hc0 hm
      generalize levelOf tr (c.getD k 0) = lv at *
      generalize c.getD k 0 = z at *
      have hsz := hx.size
      by_cases he : lv = d
      · rw [if_pos he] at hstep
        have hS : Hid _ := hstep
        have he' : (lv == d) = true := by simp [he]
        clear hstep he
        obtain ⟨oa, ocap, rfl, _, _, _⟩ := hO.ints
        go_wp2_with fail
        refine Calls.mono HL1.out ?_
        rintro e w2 ⟨rfl, rfl⟩
        have hI := intsAt_fresh wr z 3
        go_wp2_with (at_builtin; refine wpList_append_ints rfl (.tmp 23) (.tmp 28) rfl rfl rfl (hO.ex (Ex.alloc _ _)) hI ?c1 ?c2 ?_)
        case c1 => simp only [List.length_cons, List.length_nil]; omega
        case c2 => rw [alloc_size]; omega
        intro v1 w1 hown hg
        have hx1 : Ex w w1 := grown_ex (hx.alloc' _) hg (ownsRow_block hO)
        clear hg hI hO HL1
        go_wp2
        go_roundw
        case rel => exact ⟨k + 1, m ++ [z], by omega, by go_num, hown, hx1, hS.out.symm⟩
        case measure => simp [intOf]; omega
      · rw [if_neg he, List.append_nil] at hstep
        have hS : Hid _ := hstep
        have he' : (lv == d) = false := by simp [he]
        clear hstep he
        go_wp2_with fail
        refine Calls.mono HL1.out ?_
        rintro e w2 ⟨rfl, rfl⟩
        go_wp2
        go_roundw
        case rel => exact ⟨k + 1, m, by omega, by go_num, hO, hx, hS.out.symm⟩
        case measure => simp [intOf]; omega
    · obtain rfl : k = c.length := by omega
      have hm2 : Hid (m = c.filter fun y => levelOf tr y == d) := by show _ = _; rw [hm.out, List.take_length]
      clear hm HF HL HFl
      go_wp2
      go_ret
      exact ⟨_, rfl, by rw [← hm2.out]; exact hO, hx⟩
set_option maxHeartbeats 4000000 in
theorem r13Ordered_any (lv : Value) (l : List Int) (n : Nat) (hn : n ≤ 128) (w : World) (hl : IntsAt w lv l) :
    Calls Try.prog 44 #[lv, .int .i64 n] w (OrdRet w (ordF l n)) := by
  have HH : Hid (∀ wa x, Ex w wa → Calls Try.prog 48 #[lv, .int .i64 x] wa fun e w' => e = .returned (.bool (l.contains x)) ∧ wa = w') := fun wa x hx => r05Contains_any lv l x wa (hl.ex hx)
  obtain ⟨a, cap, rfl, _, _, h3⟩ := hl
  clear h3
  go_enter Try.func44, Try.ntmps44
  go_wp2
  go_loopw [5, 6] (fun out i wr => ∃ k : Nat, k ≤ n ∧ i = .int .i64 ((k : Int) + 1) ∧ OwnI wr w.heap.size out (ordF l k) ∧ Ex w wr) (fun _ i _ => n + 1 - (intOf i).toNat)
  case atStart => exact ⟨0, Nat.zero_le _, rfl, OwnI.nil _ _, Ex.refl _⟩
  case round =>
    obtain ⟨k, hk, rfl, hO, hxr⟩ := hrel
    by_cases hlt : k < n
    · obtain ⟨v, hv⟩ : ∃ v : Int, v = (k : Int) + 1 := ⟨_, rfl⟩
      have HV : Hid _ := hv
      have hS := ordF_succ l k
      have hlen : Hid ((ordF l k).length ≤ 2 * k) := ordF_len l k
      unfold ordP at hS
      have q1 : v ≤ (n : Int) := by omega
      have q2 : 1 ≤ v := by omega
      have q3 : v ≤ 128 := by omega
      rw [← hv] at hS ⊢
      have H1 := HH.out wr (-v) hxr
      have hs := hxr.size
      clear hv
      by_cases hc1 : l.contains (-v) = true
      · rw [hc1] at H1
        rw [if_pos hc1] at hS
        have H1' : Hid _ := H1
        clear H1 hc1
        go_wp2_with fail
        refine Calls.mono H1'.out ?_
        rintro e w' ⟨rfl, rfl⟩
        have hI := intsAt_fresh wr (-v) 3
        go_wp2_with (at_builtin; refine wpList_append_ints rfl (.tmp 16) (.tmp 19) rfl rfl rfl (hO.ex (Ex.alloc _ _)) hI ?c1 ?c2 ?_)
        case c1 => have := hlen.out; simp only [List.length_cons, List.length_nil]; omega
        case c2 => rw [alloc_size]; omega
        intro v1 w1 hown hg
        have hx1 : Ex w w1 := grown_ex (hxr.alloc' _) hg (ownsRow_block hO)
        have hs1 := hx1.size
        obtain ⟨oa, ocap, rfl, _, _, _⟩ := hown.ints
        have H2 := HH.out w1 v hx1
        clear hg hI hO H1'
        by_cases hc2 : l.contains v = true
        · rw [hc2] at H2
          rw [if_pos hc2] at hS
          have hS2 : Hid (ordF l (k + 1) = ordF l k ++ [-v] ++ [v]) := by show _ = _; rw [hS, List.append_assoc]
          have hlen2 : Hid ((ordF l k ++ [-v]).length ≤ 2 * k + 1) := by show _ ≤ _; rw [List.length_append, List.length_singleton]; have := hlen.out; omega
          have H2' : Hid _ := H2
          clear H2 hS hc2
          generalize ordF l k ++ [-v] = ok at *
          go_wp2_with fail
          refine Calls.mono H2'.out ?_
          rintro e w' ⟨rfl, rfl⟩
          have hI := intsAt_fresh w1 v 3
          go_wp2_with (at_builtin; refine wpList_append_ints rfl (.tmp 24) (.tmp 26) rfl rfl rfl (hown.ex (Ex.alloc _ _)) hI ?c1 ?c2 ?_)
          case c1 => have := hlen2.out; simp only [List.length_cons, List.length_nil]; omega
          case c2 => rw [alloc_size]; omega
          intro v2 w2 hown2 hg2
          have hx2 : Ex w w2 := grown_ex (hx1.alloc' _) hg2 (ownsRow_block hown)
          rw [← hS2.out] at hown2
          clear hg2 hI hown H2'
          go_wp2
          go_roundw
          case rel => exact ⟨k + 1, by omega, by rw [HV.out]; go_num, hown2, hx2⟩
          case measure => have := HV.out; simp [intOf]; omega
        · have hc2' : l.contains v = false := by simpa using hc2
          rw [hc2'] at H2
          rw [if_neg hc2, List.append_nil] at hS
          have hS2 : Hid _ := hS
          have H2' : Hid _ := H2
          clear H2 hS hc2 hc2'
          generalize ordF l k ++ [-v] = ok at *
          go_wp2_with fail
          refine Calls.mono H2'.out ?_
          rintro e w' ⟨rfl, rfl⟩
          go_wp2
          go_roundw
          case rel => exact ⟨k + 1, by omega, by rw [HV.out]; go_num, by rw [hS2.out]; exact hown, hx1⟩
          case measure => have := HV.out; simp [intOf]; omega
      · have hc1' : l.contains (-v) = false := by simpa using hc1
        have H2 := HH.out wr v hxr
        rw [hc1'] at H1
        rw [if_neg hc1, List.nil_append] at hS
        have H1' : Hid _ := H1
        clear H1 hc1 hc1'
        by_cases hc2 : l.contains v = true
        · rw [hc2] at H2
          rw [if_pos hc2] at hS
          have hS2 : Hid _ := hS
          have H2' : Hid _ := H2
          clear H2 hS hc2
          go_wp2_with fail
          refine Calls.mono H1'.out ?_
          rintro e w' ⟨rfl, rfl⟩
          go_wp2_with fail
          refine Calls.mono H2'.out ?_
          rintro e w' ⟨rfl, rfl⟩
          have hI := intsAt_fresh wr v 3
          go_wp2_with (at_builtin; refine wpList_append_ints rfl (.tmp 24) (.tmp 26) rfl rfl rfl (hO.ex (Ex.alloc _ _)) hI ?c1 ?c2 ?_)
          case c1 => have := hlen.out; simp only [List.length_cons, List.length_nil]; omega
          case c2 => rw [alloc_size]; omega
          intro v1 w1 hown hg
          have hx1 : Ex w w1 := grown_ex (hxr.alloc' _) hg (ownsRow_block hO)
          rw [← hS2.out] at hown
          clear hg hI hO H1' H2'
          go_wp2
          go_roundw
          case rel => exact ⟨k + 1, by omega, by rw [HV.out]; go_num, hown, hx1⟩
          case measure => have := HV.out; simp [intOf]; omega
        · have hc2' : l.contains v = false := by simpa using hc2
          rw [hc2'] at H2
          rw [if_neg hc2, List.append_nil] at hS
          have hS2 : Hid _ := hS
          have H2' : Hid _ := H2
          clear H2 hS hc2 hc2'
          go_wp2_with fail
          refine Calls.mono H1'.out ?_
          rintro e w' ⟨rfl, rfl⟩
          go_wp2_with fail
          refine Calls.mono H2'.out ?_
          rintro e w' ⟨rfl, rfl⟩
          go_wp2
          go_roundw
          case rel => exact ⟨k + 1, by omega, by rw [HV.out]; go_num, by rw [hS2.out]; exact hO, hxr⟩
          case measure => have := HV.out; simp [intOf]; omega
    · obtain rfl : k = n := by omega
      clear HH
      go_wp2
      go_ret
      exact ⟨_, rfl, hO, hxr⟩
end Go.Proofs.Yteagoaiiacideaa
