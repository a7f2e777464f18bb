/- Chapter 13: levels, models: what each call returns. No condition but that literals are ones. -/
import Derived.Test.YteagoaiiacideaaLaw13a
import Derived.Test.YteagoaiiacideaaLrnA
import Derived.Test.YteagoaiiacideaaEvalP
import Derived.WalkSmall
namespace Go.Proofs.Yteagoaiiacideaa
set_option linter.unusedSimpArgs false
set_option linter.unusedVariables false
open Go.RowKit
set_option maxRecDepth 20000
theorem levelOf_at {tr : List St} {k : Nat} {y : Int} (hk : k < tr.length) (hno : ∀ j, j < k → ¬ sL tr j = -y) (e : sL tr k = -y) : levelOf tr y = sV tr k := by
  have h := wrongI_at (Nat.le_refl tr.length) hk hno e
  rw [List.take_length] at h
  unfold wrongI at h
  unfold levelOf
  cases hw : wrongN tr y with
  | none => rw [hw] at h; simp only at h; omega
  | some i =>
    rw [hw] at h
    have : i = k := by simp only at h; omega
    subst this; rfl
theorem levelOf_none {tr : List St} {y : Int} (hno : ∀ j, j < tr.length → ¬ sL tr j = -y) : levelOf tr y = -1 := by
  have h := wrongI_end (Nat.le_refl tr.length) hno
  rw [List.take_length] at h
  unfold wrongI at h
  unfold levelOf
  cases hw : wrongN tr y with
  | none => rfl
  | some i => rw [hw] at h; simp only at h; omega
set_option maxHeartbeats 4000000 in
theorem levels13_any (sv : Value) (tr : List St) (y : Int) (w : World) (hs : StepsAt w sv tr) (y1 : -1000 ≤ y) (y2 : y ≤ 1000) (hlen : tr.length ≤ 1000) :
    Calls Try.prog 26 #[sv, .int .i64 y] w fun e w' => e = .returned (.int .i64 (levelOf tr y)) ∧ Ex w w' := by
  have HY : Hid (∀ k, k < tr.length → (∀ j, j < k → ¬ (tr.getD j default).lit = -y) → (tr.getD k default).lit = -y → levelOf tr y = (tr.getD k default).lev) := fun k hk h e => levelOf_at hk h e
  have HN : Hid ((∀ k, k < tr.length → ¬ (tr.getD k default).lit = -y) → levelOf tr y = -1) := fun h => levelOf_none h
  have hwy : IntKind.i64.wrap (-y) = -y := IntWalk.i64_in _ (by omega)
  have hs0 := hs
  obtain ⟨a, cap, rfl, h1, h2, h3⟩ := hs
  unfold maxLen at h2
  clear h3
  generalize levelOf tr y = B at *
  go_enter Try.func26, Try.ntmps26
  go_wp2
  go_loopw [9] (fun v wr => ∃ k : Nat, k ≤ tr.length ∧ v = .int .i64 k ∧ Ex w wr ∧ Hid (∀ j, j < k → ¬ (tr.getD j default).lit = -y)) (fun v _ => tr.length - (intOf v).toNat)
  case atStart => exact ⟨0, Nat.zero_le _, rfl, Ex.refl _, fun j hj => (by omega)⟩
  case round =>
    obtain ⟨k, hk, rfl, hxr, hd⟩ := hrel
    by_cases hlt : k < tr.length
    · obtain ⟨_, _, ev, _, _, s3⟩ := hs0.ex hxr
      cases ev
      obtain ⟨b, off, rfl, hb, g0, g1, g2⟩ := s3 k hlt
      have oB := OwnB.new wr [.int .i64 (tr.getD k default).lit, .int .i64 (tr.getD k default).why, .int .i64 (tr.getD k default).lev] 55
      have hxB := Ex.alloc wr (.cells #[.int .i64 (tr.getD k default).lit, .int .i64 (tr.getD k default).why, .int .i64 (tr.getD k default).lev] 55)
      have b0 := oB.cell 0
      have b2 := oB.cell 2
      have zB := oB.lt
      have hx2 := hxr.trans hxB
      have hkk : (k : Int) < tr.length := by omega
      clear s3
      by_cases he : (tr.getD k default).lit = -y
      · have hB : Hid (B = (tr.getD k default).lev) := HY.out k hlt hd.out he
        have he' : ((tr.getD k default).lit == -y) = true := by simp only [beq_iff_eq]; exact he
        clear hd he HY HN hs0 oB hxB
        generalize (tr.getD k default).lit = sx at *
        generalize (tr.getD k default).why = sw at *
        generalize (tr.getD k default).lev = sl at *
        go_wp2
        go_ret
        exact ⟨ret_int hB.out.symm, hx2⟩
      · have hd2 : Hid (∀ j, j < k + 1 → ¬ (tr.getD j default).lit = -y) := fun j hj => by
          by_cases hjk : j = k
          · subst hjk; exact he
          · exact hd.out j (by omega)
        have he' : ((tr.getD k default).lit == -y) = false := by simp only [beq_eq_false_iff_ne]; exact he
        clear hd he HY HN hs0 oB hxB
        generalize (tr.getD k default).lit = sx at *
        generalize (tr.getD k default).why = sw at *
        generalize (tr.getD k default).lev = sl at *
        go_wp2
        go_roundw
        case rel => exact ⟨k + 1, by omega, by go_num, hx2, hd2⟩
        case measure => simp [intOf]; omega
    · have hB : Hid (B = -1) := HN.out fun j hj => hd.out j (by omega)
      clear hd HY HN
      go_wp2
      go_ret
      exact ⟨ret_int hB.out.symm, hxr⟩
/-- Is a clause true in all models? -/
def modB (n : Nat) (ll : List (List Int)) (c : List Int) : Bool := (List.range (2 ^ n)).all fun k => c.any (holdsB k 0) || !evalB n ll k 0
theorem modB_iff {n : Nat} {ll : List (List Int)} {c : List Int} : modB n ll c = true ↔ ∀ k, k < 2 ^ n → evalB n ll k 0 = true → ∃ l ∈ c, holdsB k 0 l = true := by
  unfold modB
  rw [List.all_eq_true]
  constructor
  · intro h k hk he
    have := h k (List.mem_range.2 hk)
    rw [he, Bool.not_true, Bool.or_false, List.any_eq_true] at this
    exact this
  · intro h k hk
    cases he : evalB n ll k 0 with
    | false => simp
    | true =>
      obtain ⟨l, hl, hh⟩ := h k (List.mem_range.1 hk) he
      rw [List.any_eq_true.2 ⟨l, hl, hh⟩]; rfl
theorem modB_no {n : Nat} {ll : List (List Int)} {c : List Int} {k : Nat} (hk : k < 2 ^ n) (h1 : c.any (holdsB k 0) = false) (h2 : evalB n ll k 0 = true) : modB n ll c = false := by
  unfold modB
  rw [List.all_eq_false]
  exact ⟨k, List.mem_range.2 hk, by rw [h1, h2]; simp⟩
theorem modB_yes {n : Nat} {ll : List (List Int)} {c : List Int} (h : ∀ k, k < 2 ^ n → (c.any (holdsB k 0) || !evalB n ll k 0) = true) : modB n ll c = true := List.all_eq_true.2 fun k hk => h k (List.mem_range.1 hk)
theorem pow_le_1024 {n : Nat} (hn : n ≤ 10) : 2 ^ n ≤ 1024 := by
  have : 2 ^ n ≤ 2 ^ 10 := Nat.pow_le_pow_right (by decide) hn
  simpa using this
theorem bit_at (k r : Nat) (hk : k ≤ 1024) : (bits BinOp.and IntKind.u64 ((k : Int) / 2 ^ r) 1 == 1) = k.testBit r := by
  have h0 : (0 : Int) ≤ (k : Int) / 2 ^ r := Int.ediv_nonneg (by omega) (Int.le_of_lt (Int.pow_pos (by omega)))
  have h1 : (k : Int) / 2 ^ r ≤ k := Int.ediv_le_self _ (by omega)
  rw [and_one_u64 _ h0 (by omega), bit_form']
theorem holds_pos {k : Nat} {y : Int} (h0 : 0 < y) (h1 : y ≤ 64) : holdsB k 0 y = k.testBit (y.toNat - 1) := by
  have e : litVar y = y := by unfold litVar; (repeat' split) <;> omega
  unfold holdsB
  rw [e, hasB_fst k 0 (by omega) h1, decide_eq_true h0, show (y != 0) = true by simp; omega, show ((y - 1) % 64).toNat = y.toNat - 1 by omega]
  simp
theorem holds_neg {k : Nat} {y : Int} (h0 : y < 0) (h1 : -64 ≤ y) : holdsB k 0 y = !k.testBit ((-y).toNat - 1) := by
  have e : litVar y = -y := by unfold litVar; (repeat' split) <;> omega
  unfold holdsB
  rw [e, hasB_fst k 0 (by omega) (by omega), decide_eq_false (by omega), show (-y != 0) = true by simp; omega, show ((-y - 1) % 64).toNat = (-y).toNat - 1 by omega]
  simp
set_option maxRecDepth 100000 in
set_option maxHeartbeats 4000000 in
theorem models13_any (n : Nat) (lv cv : Value) (ll : List (List Int)) (c : List Int) (w : World) (hR : RowsAt w lv ll) (hc : IntsAt w cv c) (hn : n ≤ 10) (hv : ∀ x ∈ c, litValid x n = true) :
    Calls Try.prog 29 #[.agg #[.int .i64 n, lv], cv] w fun e w' => e = .returned (.bool (modB n ll c)) ∧ Ex w w' := by
  have HEv : Hid (∀ wa k, Ex w wa → k < 2 ^ n → Calls Try.prog 53 #[.agg #[.int .i64 n, lv], .agg #[.int .u64 (k : Nat), .int .u64 0]] wa fun e w' => e = .returned (.bool (evalB n ll k 0)) ∧ Ex wa w') := fun wa k hx hk => by
    have h10 := pow_le_1024 hn
    have := theoryEval_any n lv ll k 0 (by omega) (by decide) wa (hR.ex hx)
    rw [evalT_eq (by omega) (by decide)] at this
    exact this
  have HVa : Hid (∀ k, k < c.length → litValid (c.getD k 0) n = true) := fun k hk => hv _ (by rw [getD_getElem hk]; exact List.getElem_mem hk)
  have HNo : Hid (∀ k, k < 2 ^ n → c.any (holdsB k 0) = false → evalB n ll k 0 = true → modB n ll c = false) := fun k hk h1 h2 => modB_no hk h1 h2
  have HYe : Hid ((∀ k, k < 2 ^ n → (c.any (holdsB k 0) || !evalB n ll k 0) = true) → modB n ll c = true) := modB_yes
  have hp : 2 ^ n ≤ 1024 := pow_le_1024 hn
  have hc0 := hc
  obtain ⟨ra, rcap, rfl, _, _, r3⟩ := hR
  obtain ⟨pa, pcap, rfl, p1, p2, p3⟩ := hc
  unfold maxLen at p2
  clear r3 p3 hv
  have oT := OwnB.new w [.int .i64 n, .slice ra ll.length rcap] 24
  have hxa := Ex.alloc w (.cells #[.int .i64 n, .slice ra ll.length rcap] 24)
  have c0 := oT.cell 0
  have z0 := oT.lt
  generalize modB n ll c = MB at *
  obtain ⟨Pn, hPn⟩ : ∃ Pn : Nat, Pn = 2 ^ n := ⟨_, rfl⟩
  have hwp : IntKind.u64.wrap ((2 : Int) ^ n) = (Pn : Int) := by
    have e : ((2 : Int) ^ n) = (Pn : Int) := by rw [hPn]; push_cast; rfl
    rw [e]; exact IntWalk.u64_in _ (by omega)
  rw [← hPn] at HEv HNo HYe hp
  clear hPn
  go_enter Try.func29, Try.ntmps29
  go_wp2
  go_loopw [13] (fun kv wr => ∃ k : Nat, k ≤ Pn ∧ kv = .int .u64 k ∧ Ex w wr ∧ OwnB wr w.heap.size [.int .i64 n, .slice ra ll.length rcap] 24 ∧ Hid (∀ j, j < k → (c.any (holdsB j 0) || !evalB n ll j 0) = true)) (fun kv _ => Pn - (intOf kv).toNat)
  case atStart => exact ⟨0, Nat.zero_le _, rfl, hxa, oT, fun j hj => by omega⟩
  case round =>
    obtain ⟨k, hk, rfl, hxr, oTr, HD⟩ := hrel
    by_cases hlt : k < Pn
    · have hkk : ((k : Nat) : Int) < Pn := by omega
      have HNk : Hid _ := HNo.out k hlt
      have HEk : Hid _ := fun wa hx => HEv.out wa k hx hlt
      have HDn : Hid ((c.any (holdsB k 0) || !evalB n ll k 0) = true → ∀ j, j < k + 1 → (c.any (holdsB j 0) || !evalB n ll j 0) = true) := fun h j hj => by
        by_cases e : j = k
        · subst e; exact h
        · exact HD.out j (by omega)
      have HTk : Hid (∀ j, j < c.length → (c.take (j + 1)).any (holdsB k 0) = ((c.take j).any (holdsB k 0) || holdsB k 0 (c.getD j 0))) := fun j hj => by
        rw [List.take_succ_eq_append_getElem hj, List.any_append, getD_getElem hj]; simp
      clear HD HNo HYe HEv
      go_wp2
      go_loopw [6, 18] (fun iv jv ws => ∃ (j : Nat) (b : Bool), j ≤ c.length ∧ jv = .int .i64 j ∧ iv = .bool b ∧ Hid (b = (c.take j).any (holdsB k 0)) ∧ ws = wr) (fun _ jv _ => c.length - (intOf jv).toNat)
      case atStart => exact ⟨0, false, Nat.zero_le _, rfl, rfl, (by show _ = _; simp), rfl⟩
      case round =>
        obtain ⟨j, b, hj, rfl, rfl, hb, rfl⟩ := hrel
        by_cases hjl : j < c.length
        · obtain ⟨_, _, ev, _, _, e3⟩ := hc0.ex hxr
          cases ev
          obtain ⟨cb, coff, rfl, hcb, hcell⟩ := e3 j hjl
          have hva := (litValid_iff _ _).1 (HVa.out j hjl)
          have hT := HTk.out j hjl
          rw [← hb.out] at hT
          have HT : Hid _ := hT
          have hjj : ((j : Nat) : Int) < c.length := by omega
          clear hT hb e3 HTk HVa
          generalize c.getD j 0 = y at *
          cases b with
          | true =>
            have HT2 : Hid ((c.take (j + 1)).any (holdsB k 0) = true) := by show _ = _; rw [HT.out, Bool.true_or]
            clear HT
            go_wp2
            go_roundw
            case rel => exact ⟨j + 1, true, by omega, by go_num, rfl, HT2.out.symm, trivial⟩
            case measure => simp [intOf]; omega
          | false =>
            have hwn : IntKind.i64.wrap (-y) = -y := IntWalk.i64_in _ (by omega)
            by_cases h0 : 0 < y
            · have hmx : max y (-y) = y := by omega
              have hw1 : IntKind.i64.wrap (y - 1) = y - 1 := IntWalk.i64_in _ (by omega)
              have hw2 : IntKind.u64.wrap (y - 1) = y - 1 := IntWalk.u64_in _ (by omega)
              have HB2 : Hid ((bits BinOp.and IntKind.u64 ((k : Int) / 2 ^ (y.toNat - 1)) 1 == 1) = (c.take (j + 1)).any (holdsB k 0)) := by show _ = _; rw [HT.out, Bool.false_or, holds_pos h0 (by omega), bit_at _ _ (by omega)]
              clear HT
              go_wp2
              go_roundw
              case rel => exact ⟨j + 1, _, by omega, by go_num, rfl, HB2.out, trivial⟩
              case measure => simp [intOf]; omega
            · have hmx : max y (-y) = -y := by omega
              have hw1 : IntKind.i64.wrap (-y - 1) = -y - 1 := IntWalk.i64_in _ (by omega)
              have hw2 : IntKind.u64.wrap (-y - 1) = -y - 1 := IntWalk.u64_in _ (by omega)
              have HB2 : Hid ((!(bits BinOp.and IntKind.u64 ((k : Int) / 2 ^ ((-y).toNat - 1)) 1 == 1)) = (c.take (j + 1)).any (holdsB k 0)) := by show _ = _; rw [HT.out, Bool.false_or, holds_neg (by omega) (by omega), bit_at _ _ (by omega)]
              clear HT
              go_wp2
              go_roundw
              case rel => exact ⟨j + 1, _, by omega, by go_num, rfl, HB2.out, trivial⟩
              case measure => simp [intOf]; omega
        · obtain rfl : j = c.length := by omega
          have HB3 : Hid (b = c.any (holdsB k 0)) := by show _ = _; rw [hb.out, List.take_length]
          have c0 := oTr.cell 0
          have c1 := oTr.cell 1
          have z0 := oTr.lt
          clear hb HTk HVa
          generalize hAn : c.any (holdsB k 0) = an at *
          generalize hEv : evalB n ll k 0 = ev at *
          cases b with
          | true =>
            have hD2 := HDn.out (by rw [← HB3.out, Bool.true_or])
            have HD2 : Hid _ := hD2
            clear hD2 HDn HB3 HEk HNk hAn hEv
            go_wp2
            go_roundw
            case rel => exact ⟨k + 1, by omega, by go_num, hxr, oTr, HD2⟩
            case measure => simp [intOf]; omega
          | false =>
            have HE1 : Hid _ := HEk.out _ hxr
            cases ev with
            | true =>
              have HB4 : Hid (MB = false) := HNk.out HB3.out.symm rfl
              clear HDn HB3 HNk HEk hAn hEv
              go_wp2_with fail
              refine Calls.mono HE1.out ?_
              rintro e w5 ⟨rfl, hx5⟩
              go_wp2
              go_ret
              exact ⟨ret_bool HB4.out.symm, hxr.trans hx5⟩
            | false =>
              have hD2 := HDn.out (by rw [Bool.not_false, Bool.or_true])
              have HD2 : Hid _ := hD2
              clear hD2 HDn HB3 HNk HEk hAn hEv
              go_wp2_with fail
              refine Calls.mono HE1.out ?_
              rintro e w5 ⟨rfl, hx5⟩
              go_wp2
              go_roundw
              case rel => exact ⟨k + 1, by omega, by go_num, hxr.trans hx5, oTr.ex hx5, HD2⟩
              case measure => simp [intOf]; omega
    · obtain rfl : k = Pn := by omega
      have HB : Hid (MB = true) := HYe.out HD.out
      clear HD HNo HYe HEv
      go_wp2
      go_ret
      exact ⟨ret_bool HB.out.symm, hxr⟩
end Go.Proofs.Yteagoaiiacideaa
