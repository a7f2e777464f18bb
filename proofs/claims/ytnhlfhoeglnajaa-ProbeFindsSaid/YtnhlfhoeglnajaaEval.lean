/- Assignments and the truth of a theory in the references: each Go function returns what the plain definition says, and old memory stays. -/
import Derived.Test.YtnhlfhoeglnajaaG2
import Derived.Test.YtnhlfhoeglnajaaG1
namespace Go.Proofs.Ytnhlfhoeglnajaa
set_option linter.unusedSimpArgs false
set_option linter.unusedVariables false
open Go.RowKit

theorem any_take_succ {p : Int → Bool} {l : List Int} {m : Nat} (h : m < l.length) : (l.take (m + 1)).any p = ((l.take m).any p || p (l.getD m 0)) := by
  rw [List.take_succ_eq_append_getElem h, List.any_append, getD_getElem h]; simp

set_option maxHeartbeats 1000000 in
theorem r05Assignment_any (x y : Nat) (n : Int) (h0 : 0 ≤ n) (h1 : n ≤ 128) (w : World) :
    Calls Try.prog 93 #[setV x y, .int .i64 n] w fun e w' => e = .returned (.bool (assignB x y n)) ∧ Ex w w' := by
  unfold setV
  go_enter Try.func93, Try.ntmps93
  go_wp2
  generalize hw1 : w.alloc (.cells #[.int .u64 x, .int .u64 y] 28) = w1
  have hx1 : Ex w w1 := hw1 ▸ Ex.alloc _ _
  have c0 : w1.cell? ⟨w.heap.size, 0, none⟩ = some (.int .u64 x) := by rw [← hw1]; simp
  have c1 : w1.cell? ⟨w.heap.size, 1, none⟩ = some (.int .u64 y) := by rw [← hw1]; simp
  clear hw1
  go_loopw [5] (fun i wr => ∃ v : Int, n < v ∧ v ≤ 129 ∧ i = .int .i64 v ∧ Hid (∀ u, n < u → u < v → hasB x y u = false) ∧ Ex w1 wr) (fun i _ => (129 - intOf i).toNat)
  case atStart => exact ⟨n + 1, by omega, by omega, rfl, fun u _ _ => by omega, Ex.refl _⟩
  case round =>
    obtain ⟨v, hv1, hv2, rfl, hall, hxr⟩ := hrel
    have c0r := (hxr.cell (p := ⟨w.heap.size, 0, none⟩) (cell_lt c0)).trans c0
    have c1r := (hxr.cell (p := ⟨w.heap.size, 1, none⟩) (cell_lt c1)).trans c1
    by_cases hlt : v ≤ 128
    · by_cases hh : hasB x y v = true
      · have hfin : Hid (assignB x y n = false) := by
          show _ = _
          rw [← Bool.not_eq_true, assignB_iff]
          intro h; rw [h v hv1] at hh; cases hh
        clear hall
        go_wp2_with (go_at_call 112; refine (r05Has_any _ _ _ _).mono ?_; rintro e w' ⟨rfl, hx⟩)
        go_ret
        exact ⟨ret_bool hfin.out.symm, hx1.trans (hxr.trans hx)⟩
      · have hh' : hasB x y v = false := by simpa using hh
        have hall2 : Hid (∀ u, n < u → u < v + 1 → hasB x y u = false) := fun u a b => by
          by_cases e : u = v
          · subst e; exact hh'
          · exact hall.out u a (by omega)
        clear hall hh
        go_wp2_with (go_at_call 112; refine (r05Has_any _ _ _ _).mono ?_; rintro e w' ⟨rfl, hx⟩)
        go_roundw
        case rel => exact ⟨v + 1, by omega, by omega, rfl, hall2, hxr.trans hx⟩
        case measure => simp [intOf]; omega
    · have hfin : Hid (assignB x y n = true) := by
        show _ = _
        rw [assignB_iff]
        intro u hu
        by_cases h : u < v
        · exact hall.out u hu h
        · exact hasB_high x y (by omega)
      clear hall
      go_wp2
      go_ret
      exact ⟨ret_bool hfin.out.symm, hx1.trans hxr⟩
set_option maxHeartbeats 2000000 in
theorem r05Eval_any (n : Int) (lv : Value) (ll : List (List Int)) (x y : Nat) (w : World) (hR : RowsAt w lv ll) :
    Calls Try.prog 77 #[.agg #[.int .i64 n, lv], setV x y] w fun e w' => e = .returned (.bool (evalB n ll x y)) ∧ Ex w w' := by
  unfold setV
  have hR0 := hR
  obtain ⟨a, cap, rfl, h1, h2, h3⟩ := hR
  unfold maxLen at h2
  clear h3
  obtain ⟨wa, hwa⟩ : ∃ wa : World, wa = (w.alloc (.cells #[.int .i64 n, .slice a ll.length cap] 24)).alloc (.cells #[.int .u64 x, .int .u64 y] 28) := ⟨_, rfl⟩
  have hxa : Ex w wa := hwa ▸ (Ex.alloc _ _).alloc' _
  have hA : RowsAt wa (.slice a ll.length cap) ll := hR0.ex hxa
  have hT : BoxT wa w.heap.size n (.slice a ll.length cap) := ⟨by rw [hwa]; simp, by rw [hwa]; simp⟩
  have hS : BoxS wa (w.heap.size + 1) x y := ⟨by rw [hwa]; simp, by rw [hwa]; simp⟩
  by_cases he : theoryErr n ll = 0
  · obtain ⟨n0, n1, _, _⟩ := theoryErr_zero he
    have he' : (theoryErr n ll != 0) = false := by simp [he]
    have hev : Hid (evalB n ll x y = (assignB x y n && clausesB ll x y)) := by show _ = _; simp [evalB, he]
    have HW := Hid.out hwa
    have hlit : Hid (∀ k, k < ll.length → ∀ m, m < (ll.getD k []).length → litVar ((ll.getD k []).getD m 0) ≠ 0) := fun k hk m hm => litVar_ne (theory_lit he hk hm)
    clear he
    go_enter Try.func77, Try.ntmps77
    have hwb : Hid _ := hwa
    clear hwa HW
    go_wp2_with fail
    rw [← hwb.out]; clear hwb
    refine (r05Check_any _ _ _ _ hA).mono ?_
    rintro e w2 ⟨rfl, hx2⟩
    replace hA := hA.ex hx2
    replace hxa := hxa.trans hx2
    replace hT := hT.ex hx2
    replace hS := hS.ex hx2
    have b0 := hT.1
    have b2 := hS.1
    have b3 := hS.2
    clear hx2
    go_wp2_with fail
    refine (r05Assignment_any _ _ _ n0 n1 _).mono ?_
    rintro e w3 ⟨rfl, hx2⟩
    replace hA := hA.ex hx2
    replace hxa := hxa.trans hx2
    replace hT := hT.ex hx2
    replace hS := hS.ex hx2
    clear b0 b2 b3 hx2
    generalize assignB x y n = ab at *
    cases ab
    · go_wp2
      go_ret
      exact ⟨ret_bool (by rw [hev.out]; rfl), hxa⟩
    go_wp2
    go_loopw [5] (fun i wr => ∃ k : Nat, k ≤ ll.length ∧ i = .int .i64 k ∧ Hid (∀ j, j < k → (ll.getD j []).any (holdsB x y) = true) ∧ Ex w3 wr) (fun i _ => ll.length - (intOf i).toNat)
    case atStart => exact ⟨0, Nat.zero_le _, rfl, fun j hj => by omega, Ex.refl _⟩
    case round =>
      obtain ⟨k, hk, rfl, hd, hxr⟩ := hrel
      have hTr := hT.ex hxr
      have c1 := hTr.2
      by_cases hlt : k < ll.length
      · have hAr := hA.ex hxr
        obtain ⟨_, _, hv, _, _, h3⟩ := hAr
        cases hv
        obtain ⟨b, off, rv, rfl, hb, hc, hr⟩ := h3 k hlt
        have hr0 := hr
        obtain ⟨ra, rcap, rfl, g1, g2, g3⟩ := hr
        clear h3 g3
        unfold maxLen at g2
        have hSr := hS.ex hxr
        clear hS hT hA
        have hd2 : Hid ((ll.getD k []).any (holdsB x y) = true → ∀ j, j < k + 1 → (ll.getD j []).any (holdsB x y) = true) := fun h j hj => by
          by_cases hjm : j = k
          · subst hjm; exact h
          · exact hd.out j (by omega)
        have hd3 : Hid ((ll.getD k []).any (holdsB x y) = false → evalB n ll x y = false) := fun h => by
          rw [hev.out]; show clausesB ll x y = false
          exact not_all_of_getD hlt h
        have hlit2 : Hid (∀ m, m < (ll.getD k []).length → litVar ((ll.getD k []).getD m 0) ≠ 0) := hlit.out k hlt
        clear hd hlit
        generalize hrow : ll.getD k [] = row at *
        clear hrow
        go_wp2
        obtain ⟨wk, rfl⟩ : ∃ wo : World, wo = wr := ⟨_, rfl⟩
        go_loopw [6, 7] (fun q i wr => ∃ m : Nat, m ≤ row.length ∧ i = .int .i64 m ∧ (∃ bb : Bool, q = .bool bb ∧ Hid (bb = (row.take m).any (holdsB x y))) ∧ Ex wk wr) (fun _ i _ => row.length - (intOf i).toNat)
        case atStart => exact ⟨0, Nat.zero_le _, rfl, ⟨false, rfl, rfl⟩, Ex.refl _⟩
        case round =>
          obtain ⟨m, hm, rfl, ⟨bb, rfl, hbb⟩, hxr2⟩ := hrel
          have hcs := ex_cell hc hxr2
          have hTs := hTr.ex hxr2
          have hSs := hSr.ex hxr2
          have c1s := hTs.2
          by_cases hlt2 : m < row.length
          · have hr2 := hr0.ex hxr2
            obtain ⟨_, _, hv, _, _, g3⟩ := hr2
            cases hv
            obtain ⟨rb, roff, rfl, hrb, hrc⟩ := g3 m hlt2
            clear g3
            have hcx := ext_cell hcs
            have c1x := ext_cell c1s
            have s0x := ext_cell hSs.1
            have s1x := ext_cell hSs.2
            have hrx := ext_cell hrc
            have hq : litVar (row.getD m 0) ≠ 0 := hlit2.out m hlt2
            have hbb2 : Hid ((row.take (m + 1)).any (holdsB x y) = (bb || holdsB x y (row.getD m 0))) := by
              show _ = _; rw [any_take_succ hlt2, hbb.out]
            clear hbb
            generalize row.getD m 0 = z at *
            cases bb
            · go_wp2
              refine wp_region_quiet_ext (by kernel_rfl) (by kernel_rfl) ?_
              repeat (go_big_quiet_step ((go_at_call 94; exact Calls.quiet_ext (r05Holds_any _ _ _ hq _))))
              refine wpQuiet_nil ?_
              intro w2 hx2
              go_wp2
              go_roundw
              case rel => exact ⟨m + 1, by omega, by go_num, ⟨_, rfl, hbb2.out.symm⟩, hxr2.trans hx2⟩
              case measure => simp [intOf]; omega
            · go_wp2
              refine wp_region_quiet_ext (by kernel_rfl) (by kernel_rfl) ?_
              repeat (go_big_quiet_step ((go_at_call 94; exact Calls.quiet_ext (r05Holds_any _ _ _ hq _))))
              refine wpQuiet_nil ?_
              intro w2 hx2
              go_wp2
              go_roundw
              case rel => exact ⟨m + 1, by omega, by go_num, ⟨_, rfl, hbb2.out.symm⟩, hxr2.trans hx2⟩
              case measure => simp [intOf]; omega
          · have hbb2 : Hid (bb = row.any (holdsB x y)) := by show _ = _; rw [hbb.out, List.take_of_length_le (by omega)]
            clear hbb
            cases bb
            · go_wp2
              go_ret
              exact ⟨ret_bool (hd3.out hbb2.out.symm).symm, hxa.trans (hxr.trans hxr2)⟩
            · go_wp2
              go_roundw
              case rel => exact ⟨k + 1, by omega, by go_num, hd2.out hbb2.out.symm, hxr.trans hxr2⟩
              case measure => simp [intOf]; omega
      · have hd3 : Hid (evalB n ll x y = true) := by
          show _ = _
          rw [hev.out]; show clausesB ll x y = true
          exact all_of_getD fun j hj => hd.out j (by omega)
        clear hd
        go_wp2
        go_ret
        exact ⟨ret_bool hd3.out.symm, hxa.trans hxr⟩
  · have he' : (theoryErr n ll != 0) = true := by simp [he]
    have hev : Hid (evalB n ll x y = false) := by show _ = _; simp [evalB, he]
    clear he
    go_enter Try.func77, Try.ntmps77
    have hwb : Hid _ := hwa
    clear hwa
    go_wp2_with fail
    rw [← hwb.out]; clear hwb
    refine (r05Check_any _ _ _ _ hA).mono ?_
    rintro e w2 ⟨rfl, hx2⟩
    go_wp2
    go_ret
    exact ⟨ret_bool hev.out.symm, hxa.trans hx2⟩
end Go.Proofs.Ytnhlfhoeglnajaa
