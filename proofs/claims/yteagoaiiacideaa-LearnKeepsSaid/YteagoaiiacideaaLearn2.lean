/- The program's reason and examine: whether steps are a trail. No condition. -/
import Derived.Test.YteagoaiiacideaaLearn1
import Derived.Test.YteagoaiiacideaaG2
namespace Go.Proofs.Yteagoaiiacideaa
set_option linter.unusedSimpArgs false
set_option linter.unusedVariables false
open Go.RowKit
set_option maxRecDepth 20000
theorem reasonB_no {pre : List St} {c : List Int} {x : Int} {k : Nat} (hk : k < c.length) (h1 : c.getD k 0 ≠ x) (h2 : trueT pre (-(c.getD k 0)) = false) : reasonB pre c x = false := by
  unfold reasonB
  rw [Bool.and_eq_false_iff]
  right
  exact not_all_of_getD hk (by rw [h2, Bool.or_false, beq_eq_false_iff_ne]; exact h1)
theorem reasonB_end {pre : List St} {c : List Int} {x : Int} (h : ∀ k, k < c.length → c.getD k 0 = x ∨ trueT pre (-(c.getD k 0)) = true) : reasonB pre c x = c.contains x := by
  unfold reasonB
  rw [all_of_getD (d := 0), Bool.and_true]
  intro j hj
  rw [Bool.or_eq_true, beq_iff_eq]
  exact h j hj
theorem contains_take {c : List Int} {x : Int} {k : Nat} (hk : k < c.length) : (c.take (k + 1)).contains x = ((c.take k).contains x || c.getD k 0 == x) := by
  rw [List.take_succ_eq_append_getElem hk, getD_getElem hk]
  simp only [List.contains_eq_mem, List.mem_append, List.mem_singleton, Bool.decide_or]
  congr 1
  rw [Bool.eq_iff_iff, decide_eq_true_eq, beq_iff_eq]
  exact eq_comm
set_option maxRecDepth 100000 in
set_option maxHeartbeats 4000000 in
theorem learnReason_any (w : World) (X : Nat) (n : Int) (lv sv : Value) (ll : List (List Int)) (tr : List St) (i : Nat) (s : St) (hR : RowsAt w lv ll) (ht : theoryErr n ll = 0) (h : TrlAt w X n lv sv tr i) (hi : i ≤ tr.length) (ho : Once (tr.take i)) (hlen : tr.length ≤ 1000) (h0 : 0 ≤ s.why) (h1 : s.why < ll.length) :
    Calls Try.prog 62 #[.pointer (some ⟨X, 0, none⟩), .agg #[.int .i64 s.lit, .int .i64 s.why, .int .i64 s.lev]] w fun e w' => e = .returned (.bool (reasonB (tr.take i) (ll.getD s.why.toNat []) s.lit)) ∧ Ex w w' := by
  obtain ⟨sx, sw, sl⟩ := s
  simp only at *
  obtain ⟨q, rfl⟩ : ∃ q : Nat, sw = q := ⟨sw.toNat, by omega⟩
  rw [Int.toNat_natCast]
  have hq : q < ll.length := by omega
  have HWr : Hid (∀ wa l, Ex w wa → litVar l ≠ 0 → Calls Try.prog 34 #[.pointer (some ⟨X, 0, none⟩), .int .i64 l] wa fun e w' => e = .returned (.int .i64 (wrongI (tr.take i) l)) ∧ Ex wa w') := fun wa l hx hl => learnWrong_any wa X n lv sv tr i l (h.ex hx) hi ho hl hlen
  have HLt : Hid (∀ k, k < (ll.getD q []).length → litVar ((ll.getD q []).getD k 0) ≠ 0) := fun k hk => litVar_ne (theory_lit ht hq hk)
  have hcl : (ll.getD q []).length ≤ 128 := ((theoryErr_zero ht).2.2.2 _ (by rw [getD_getElem hq]; exact List.getElem_mem hq)).1
  have hX1 : w.cell? ⟨X, 1, none⟩ = some lv := h.body.cell 1
  have hXl := h.body.lt
  obtain ⟨ra, rcap, rfl, r1, r2, r3⟩ := hR
  obtain ⟨rb, roff, rv, rfl, hrb, hrc, hri⟩ := r3 q hq
  unfold maxLen at r2
  clear r3 h ht
  have oB := OwnB.new w [.int .i64 sx, .int .i64 q, .int .i64 sl] 55
  have hxa := Ex.alloc w (.cells #[.int .i64 sx, .int .i64 q, .int .i64 sl] 55)
  generalize ll.getD q [] = c at *
  have hri0 := hri
  obtain ⟨ca, ccap, rfl, c1, c2, c3⟩ := hri
  unfold maxLen at c2
  clear c3
  obtain ⟨RB, hRB⟩ : ∃ RB, RB = reasonB (tr.take i) c sx := ⟨_, rfl⟩
  have HRB : Hid _ := hRB
  rw [← hRB]
  clear hRB
  go_enter Try.func62, Try.ntmps62
  go_wp2_with fail
  have zx := Nat.lt_of_lt_of_le hXl hxa.size
  have zr := Nat.lt_of_lt_of_le hrb hxa.size
  generalize w.alloc (.cells #[.int .i64 sx, .int .i64 q, .int .i64 sl] 55) = w1 at *
  generalize w.heap.size = B at *
  have e0 := ext_cell (oB.cell 0)
  have e1 := ext_cell (oB.cell 1)
  have e2 := ext_cell (ex_cell hX1 hxa)
  have e3 := ext_cell (ex_cell hrc hxa)
  have zb := oB.lt
  refine wp_region_quiet_ext (by kernel_rfl) (by kernel_rfl) ?_
  repeat (go_big_quiet_step ((fail)))
  refine wpQuiet_nil ?_
  clear e0 e1 e2 e3 zb zx zr
  intro w2 hx2
  replace oB := oB.ex hx2
  replace hxa := hxa.trans hx2
  clear hx2
  go_wp2
  go_loopw [5, 18] (fun hv kv wr => ∃ (k : Nat) (z : Bool), k ≤ c.length ∧ kv = .int .i64 k ∧ hv = .bool z ∧ Hid (z = (c.take k).contains sx) ∧ Ex w2 wr ∧ Hid (∀ j, j < k → c.getD j 0 = sx ∨ trueT (tr.take i) (-(c.getD j 0)) = true)) (fun _ kv _ => c.length - (intOf kv).toNat)
  case atStart => exact ⟨0, false, Nat.zero_le _, rfl, rfl, rfl, Ex.refl _, fun j hj => by omega⟩
  case round =>
    obtain ⟨k, z, hk, rfl, rfl, HZ, hxr, HD⟩ := hrel
    have oBr := oB.ex hxr
    by_cases hlt : k < c.length
    · obtain ⟨_, _, hv, _, _, c3⟩ := hri0.ex (hxa.trans hxr)
      cases hv
      obtain ⟨b, off, rfl, hb, hcell⟩ := c3 k hlt
      have d0 := oBr.cell 0
      have y0 := oBr.lt
      have HW1 : Hid _ := HWr.out wr (c.getD k 0) (hxa.trans hxr) (HLt.out k hlt)
      have HT := contains_take (x := sx) hlt
      have HN : Hid (trueT (tr.take i) (-(c.getD k 0)) = false ↔ wrongI (tr.take i) (c.getD k 0) < 0) := wrongI_neg.symm
      obtain ⟨y, hy⟩ : ∃ y, y = c.getD k 0 := ⟨_, rfl⟩
      have HY : Hid _ := hy
      have HRN : Hid (y ≠ sx → trueT (tr.take i) (-y) = false → RB = false) := fun g1 g2 => by rw [HRB.out]; rw [hy] at g1 g2; exact reasonB_no hlt g1 g2
      rw [← hy] at hcell HW1 HT HN
      clear c3 HWr HLt hri0 hy
      by_cases he : y = sx
      · have heb : (y == sx) = true := by simp [he]
        rw [heb, Bool.or_true] at HT
        have HT' : Hid _ := HT
        have HD' : Hid (∀ j, j < k + 1 → c.getD j 0 = sx ∨ trueT (tr.take i) (-(c.getD j 0)) = true) := fun j hj => by
          by_cases g : j = k
          · subst g; exact .inl (by rw [← HY.out]; exact he)
          · exact HD.out j (by omega)
        clear HT he HD HY HRN HN HW1 HRB
        go_wp2
        go_roundw
        case rel => exact ⟨k + 1, true, by omega, by go_num, rfl, HT'.out.symm, hxr, HD'⟩
        case measure => simp [intOf]; omega
      · have heb : (y == sx) = false := by simp [he]
        rw [heb, Bool.or_false] at HT
        have HT' : Hid _ := HT
        by_cases hw : wrongI (tr.take i) y < 0
        · have hr : RB = false := HRN.out he (HN.out.2 hw)
          subst hr
          clear HT HT' HD HY HRN HN HRB he
          generalize wrongI (tr.take i) y = wi at *
          go_wp2_with fail
          refine (Calls.mono HW1.out) ?_
          rintro e w3 ⟨rfl, hx3⟩
          go_wp2
          go_ret
          exact ⟨rfl, (hxa.trans hxr).trans hx3⟩
        · have HD' : Hid (∀ j, j < k + 1 → c.getD j 0 = sx ∨ trueT (tr.take i) (-(c.getD j 0)) = true) := fun j hj => by
            by_cases g : j = k
            · subst g
              right
              rw [← HY.out]
              cases ht : trueT (tr.take i) (-y) with
              | true => rfl
              | false => exact absurd (HN.out.1 ht) hw
            · exact HD.out j (by omega)
          clear HT HD HY HRN HN HRB he
          generalize wrongI (tr.take i) y = wi at *
          go_wp2_with fail
          refine (Calls.mono HW1.out) ?_
          rintro e w3 ⟨rfl, hx3⟩
          go_wp2
          go_roundw
          case rel => exact ⟨k + 1, z, by omega, by go_num, rfl, HZ.out.trans HT'.out.symm, hxr.trans hx3, HD'⟩
          case measure => simp [intOf]; omega
    · obtain rfl : k = c.length := by omega
      have hr : Hid (RB = c.contains sx) := by show _ = _; rw [HRB.out]; exact reasonB_end HD.out
      have hz : Hid (z = c.contains sx) := by show _ = _; rw [HZ.out, List.take_length]
      clear HRB HD HWr HLt HZ
      go_wp2
      go_ret
      exact ⟨ret_bool (hz.out.trans hr.out.symm), hxa.trans hxr⟩
end Go.Proofs.Yteagoaiiacideaa
