/- The reference of learning: Implied. No condition but that the clause is short. -/
import Derived.Test.YteagoaiiacideaaLrnD
namespace Go.Proofs.Yteagoaiiacideaa
set_option linter.unusedSimpArgs false
set_option linter.unusedVariables false
open Go.RowKit
set_option maxRecDepth 20000
theorem imp_term {n : Int} {ll : List (List Int)} {c : List Int} (ht : theoryErr n ll = 0) (hv : ∀ x ∈ c, litValid x n = true) (h : termB (negL c) n = false) : impB n ll c = true := by
  rw [impB_iff]
  refine ⟨ht, hv, fun S hS => ?_⟩
  rw [← Bool.not_eq_true, termB_eq, List.all_eq_true] at h
  apply h
  intro x hx
  have hv' : litValid x n = true := by have := lit_valid_neg (hv _ (negL_mem.1 hx)); rwa [Int.neg_neg] at this
  rw [Bool.and_eq_true, Bool.not_eq_true', ← Bool.not_eq_true, List.contains_iff_mem]
  exact ⟨hv', fun hn => hS.con x (hS.has x hx) (hS.has _ hn)⟩
theorem imp_conf {n : Int} {ll : List (List Int)} {c : List Int} (ht : theoryErr n ll = 0) (hv : ∀ x ∈ c, litValid x n = true) : impB n ll c = !closB n ll (negL c) := by
  refine onconf_end (is := []) ht hv (fun x => Iff.rfl) ?_
  rw [Bool.not_eq_true']
  constructor
  · intro h S hS
    have := clos_of_fits (askB_iff.2 ⟨ht, fun d hd => by have := lit_valid_neg (hv _ (negL_mem.1 hd)); rwa [Int.neg_neg] at this⟩) hS
    rw [h] at this; cases this
  · intro h
    cases hb : closB n ll (negL c) with
    | false => rfl
    | true => exact absurd (clos_member hb) (h _)
theorem negL_take {c : List Int} {k : Nat} (hk : k < c.length) : negL (c.take (k + 1)) = negL (c.take k) ++ [-(c.getD k 0)] := by
  unfold negL
  rw [List.take_succ_eq_append_getElem hk, List.map_append, getD_getElem hk]; rfl
theorem negL_len (c : List Int) : (negL c).length = c.length := by unfold negL; simp
theorem impB_bad {n : Int} {ll : List (List Int)} {c : List Int} (h : theoryErr n ll ≠ 0) : impB n ll c = false := by unfold impB; rw [decide_eq_false h]; rfl
theorem impB_inv {n : Int} {ll : List (List Int)} {c : List Int} {k : Nat} (hk : k < c.length) (h : litValid (c.getD k 0) n = false) : impB n ll c = false := by unfold impB; rw [not_all_of_getD (d := 0) hk h]; simp
set_option maxRecDepth 100000 in
set_option maxHeartbeats 4000000 in
theorem r13Implied_any (n : Int) (lv cv : Value) (ll : List (List Int)) (c : List Int) (w : World) (hR : RowsAt w lv ll) (hc : IntsAt w cv c) (hb : c.length ≤ 1000) :
    Calls Try.prog 23 #[.agg #[.int .i64 n, lv], cv] w fun e w' => e = .returned (.bool (impB n ll c)) ∧ Ex w w' := by
  have HCk : Hid (∀ wa, Ex w wa → Calls Try.prog 36 #[.agg #[.int .i64 n, lv]] wa fun e w' => e = .returned (.int .i64 (theoryErr n ll)) ∧ Ex wa w') := fun wa hx => r05Check_any n lv ll wa (hR.ex hx)
  have HCf : Hid (∀ wa u m, Ex w wa → IntsAt wa u m → theoryErr n ll = 0 → termB m n = true → m.length ≤ 1000 → Calls Try.prog 52 #[.agg #[.int .i64 n, lv], u] wa fun e w' => e = .returned (.bool (!closB n ll m)) ∧ Ex wa w') := fun wa u m hx hm ht htm hl => r13Conflicts_any n lv u ll m wa (hR.ex hx) hm ht htm hl
  have hc0 := hc
  obtain ⟨ra, rcap, rfl, _, _, r3⟩ := hR
  obtain ⟨pa, pcap, rfl, p1, p2, p3⟩ := hc
  unfold maxLen at p2
  clear r3 p3
  have oT := OwnB.new w [.int .i64 n, .slice ra ll.length rcap] 24
  have hxa := Ex.alloc w (.cells #[.int .i64 n, .slice ra ll.length rcap] 24)
  by_cases ht : theoryErr n ll = 0
  rotate_left
  · have he' : (theoryErr n ll != 0) = true := by simp [ht]
    rw [impB_bad ht]
    clear HCf ht
    generalize theoryErr n ll = ER at *
    go_enter Try.func23, Try.ntmps23
    go_wp2_with fail
    refine (HCk.out _ hxa).mono ?_
    rintro e w2 ⟨rfl, hx2⟩
    go_wp2
    go_ret
    exact ⟨rfl, hxa.trans hx2⟩
  have hn := theoryErr_zero ht
  have HTe : Hid (∀ wa u (m : List Int), IntsAt wa u m → Calls Try.prog 51 #[u, .int .i64 n] wa fun e w' => e = .returned (.bool (termB m n)) ∧ wa = w') := fun wa u m h => r05Term_any u m n hn.1 hn.2.1 wa h
  have HVa : Hid (∀ x wa, Calls Try.prog 47 #[.int .i64 x, .int .i64 n] wa fun e w' => e = .returned (.bool (litValid x n)) ∧ wa = w') := fun x wb => r05Valid_any x n hn.1 hn.2.1 wb
  have HIn : Hid (∀ k, k < c.length → litValid (c.getD k 0) n = false → impB n ll c = false) := fun k hk h => impB_inv hk h
  have HIt : Hid ((∀ k, k < c.length → litValid (c.getD k 0) n = true) → termB (negL c) n = false → impB n ll c = true) := fun h h' => imp_term ht (fun x hx => by
    obtain ⟨k, hk, rfl⟩ := List.getElem_of_mem hx
    have := h k hk; rwa [getD_getElem hk] at this) h'
  have HIc : Hid ((∀ k, k < c.length → litValid (c.getD k 0) n = true) → impB n ll c = !closB n ll (negL c)) := fun h => imp_conf ht (fun x hx => by
    obtain ⟨k, hk, rfl⟩ := List.getElem_of_mem hx
    have := h k hk; rwa [getD_getElem hk] at this)
  have HT : Hid (theoryErr n ll = 0) := ht
  have HNt : Hid (∀ k, k < c.length → negL (c.take (k + 1)) = negL (c.take k) ++ [-(c.getD k 0)]) := fun k hk => negL_take hk
  have HNl : Hid (∀ k, k ≤ c.length → (negL (c.take k)).length = k) := fun k hk => by rw [negL_len, List.length_take]; omega
  have HLt : Hid (∀ k, litValid (c.getD k 0) n = true → -1000 ≤ c.getD k 0 ∧ c.getD k 0 ≤ 1000) := fun k h => by have := (litValid_iff _ _).1 h; omega
  rw [ht] at HCk
  clear ht hn
  generalize impB n ll c = IB at *
  go_enter Try.func23, Try.ntmps23
  go_wp2_with fail
  refine (HCk.out _ hxa).mono ?_
  rintro e w2 ⟨rfl, hx2⟩
  replace oT := oT.ex hx2
  replace hxa := hxa.trans hx2
  clear HCk hx2
  have hsz := hxa.size
  go_wp2
  go_loopw [5, 6] (fun tv iv wr => ∃ (k : Nat) (m : List Int), k ≤ c.length ∧ iv = .int .i64 k ∧ OwnI wr w2.heap.size tv m ∧ Hid (m = negL (c.take k)) ∧ Ex w2 wr ∧ Hid (∀ j, j < k → litValid (c.getD j 0) n = true)) (fun _ iv _ => c.length - (intOf iv).toNat)
  case atStart => exact ⟨0, [], Nat.zero_le _, rfl, OwnI.nil _ _, rfl, Ex.refl _, fun j hj => by omega⟩
  case round =>
    obtain ⟨k, m, hk, rfl, hO, HM, hxr, HV⟩ := hrel
    have oTr := oT.ex hxr
    have c0 := oTr.cell 0
    have c1 := oTr.cell 1
    have z0 := oTr.lt
    have hxw := hxa.trans hxr
    have hml : Hid (m.length = k) := by show _ = _; rw [HM.out]; exact HNl.out k hk
    have hml2 : m.length ≤ 1000 := by have := hml.out; omega
    by_cases hlt : k < c.length
    · obtain ⟨_, _, ev, _, _, c3⟩ := hc0.ex hxw
      cases ev
      obtain ⟨b, off, rfl, hb, hcell⟩ := c3 k hlt
      have c0x := ext_cell c0
      have hcx := ext_cell hcell
      cases hva : litValid (c.getD k 0) n with
      | false =>
        have hib : Hid (IB = false) := HIn.out k hlt hva
        have HV1 : Hid (∀ wa, Calls Try.prog 47 #[.int .i64 (c.getD k 0), .int .i64 n] wa fun e w' => e = .returned (.bool false) ∧ wa = w') := fun wa => by rw [← hva]; exact HVa.out _ wa
        clear c3 HCf HTe HVa HIn HIt HIc HNt HNl HLt HV hva hO HM
        generalize c.getD k 0 = y at *
        go_wp2
        refine wp_region_quiet_ext (by kernel_rfl) (by kernel_rfl) ?_
        repeat (go_big_quiet_step ((first | (go_at_call 47; exact Calls.quiet_ext_same (HV1.out _)) | fail)))
        refine wpQuiet_nil ?_
        intro w6 hx6
        go_wp2
        go_ret
        exact ⟨ret_bool hib.out.symm, hxw.trans hx6⟩
      | true =>
        have HV1 : Hid (∀ wa, Calls Try.prog 47 #[.int .i64 (c.getD k 0), .int .i64 n] wa fun e w' => e = .returned (.bool true) ∧ wa = w') := fun wa => by rw [← hva]; exact HVa.out _ wa
        have HV' : Hid (∀ j, j < k + 1 → litValid (c.getD j 0) n = true) := fun j hj => by
          by_cases e : j = k
          · subst e; exact hva
          · exact HV.out j (by omega)
        have HM2 : Hid (m ++ [-(c.getD k 0)] = negL (c.take (k + 1))) := by show _ = _; rw [HNt.out k hlt, HM.out]
        obtain ⟨y1, y2⟩ := HLt.out k hva
        have hwy : IntKind.i64.wrap (-(c.getD k 0)) = -(c.getD k 0) := IntWalk.i64_in _ (by omega)
        clear c3 HCf HTe HVa HIn HIt HIc HNt HNl HLt HV hva HM
        generalize c.getD k 0 = y at *
        go_wp2
        refine wp_region_quiet_ext (by kernel_rfl) (by kernel_rfl) ?_
        repeat (go_big_quiet_step ((first | (go_at_call 47; exact Calls.quiet_ext_same (HV1.out _)) | fail)))
        refine wpQuiet_nil ?_
        intro w6 hx6
        have g0 := ex_cell hcell hx6
        have g1 := Nat.lt_of_lt_of_le hb hx6.size
        have hI := intsAt_fresh w6 (-y) 3
        have hs6 := (hxr.trans hx6).size
        obtain ⟨ma, mcap, rfl, _, _, _⟩ := hO.ints
        go_wp2_with (at_builtin; refine wpList_append_ints rfl (.tmp 24) (.tmp 30) rfl rfl rfl ((hO.ex hx6).ex (Ex.alloc _ _)) hI ?c1 ?c2 ?_)
        case c1 => simp only [List.length_cons, List.length_nil]; omega
        case c2 => rw [alloc_size]; omega
        intro v7 w7 hown7 hg7
        have hx7 : Ex w2 w7 := grown_ex ((hxr.trans hx6).alloc' _) hg7 (ownsRow_block hO)
        clear hg7 hI hO
        go_wp2
        go_roundw
        case rel => exact ⟨k + 1, m ++ [-y], by omega, by go_num, hown7, HM2, hx7, HV'⟩
        case measure => simp [intOf]; omega
    · obtain rfl : k = c.length := by omega
      have hm2 : m = negL c := by rw [HM.out, List.take_length]
      subst hm2
      have HTe1 : Hid _ := HTe.out wr _ _ hO.ints
      obtain ⟨ma, mcap, rfl, _, _, _⟩ := hO.ints
      cases htb : termB (negL c) n with
      | false =>
        have hib : Hid (IB = true) := HIt.out HV.out htb
        have HT2 := HTe1.out
        rw [htb] at HT2
        have HT3 : Hid _ := HT2
        clear HCf HTe HTe1 HT2 HVa HIn HIt HIc HNt HNl HLt HV HM hO htb
        generalize negL c = m at *
        go_wp2_with fail
        refine Calls.mono HT3.out ?_
        rintro e w6 ⟨rfl, rfl⟩
        go_wp2
        go_ret
        exact ⟨ret_bool hib.out.symm, hxw⟩
      | true =>
        have hib : Hid (IB = !closB n ll (negL c)) := HIc.out HV.out
        have HT2 := HTe1.out
        rw [htb] at HT2
        have HT3 : Hid _ := HT2
        have HC3 : Hid _ := HCf.out wr _ _ hxw hO.ints HT.out htb hml2
        clear HCf HTe HTe1 HT2 HVa HIn HIt HIc HNt HNl HLt HV HM hO htb
        generalize closB n ll (negL c) = CB at *
        generalize negL c = m at *
        go_wp2_with fail
        refine Calls.mono HT3.out ?_
        rintro e w6 ⟨rfl, rfl⟩
        go_wp2_with fail
        refine Calls.mono HC3.out ?_
        rintro e w6 ⟨rfl, hx6⟩
        go_wp2
        go_ret
        exact ⟨ret_bool hib.out.symm, hxw.trans hx6⟩
end Go.Proofs.Yteagoaiiacideaa
