/- Chapter 12: UnitTurned: the walk. No condition. -/
import Derived.Test.YtlaejhmpnlcceaaLaw12b
import Derived.Test.YtlaejhmpnlcceaaUnitR
import Derived.Test.YtlaejhmpnlcceaaSubs04
import Derived.Deep.RegionHeld3
import Derived.OpenShut
namespace Go.Proofs.Ytlaejhmpnlcceaa
set_option linter.unusedSimpArgs false
set_option linter.unusedVariables false
open Go.RowKit
theorem intsAt_none (w : World) (a : Option Addr) {c : Nat} (h : c ≤ maxLen) : IntsAt w (.slice a 0 c) [] := ⟨a, c, rfl, Nat.zero_le _, h, fun k hk => by cases hk⟩
theorem clos_ask {n : Int} {ll : List (List Int)} {ds : List Int} (h : closB n ll ds = true) : askB n ll (closL n ll ds) = true := askB_iff.2 ⟨(askB_iff.1 (closB_ask h)).1, fun d hd => by
  obtain ⟨s, hs, e⟩ := trueT_iff.1 ((closL_mem h d).1 hd)
  rw [← e]; exact (clos_fits h).2.1.val s hs⟩
/-- What UnitTurned asks. -/
theorem turned {n : Int} {ll : List (List Int)} {ds : List Int} (h : closB n ll ds = true) (k : Nat) :
    (closB n ll (ds.drop k ++ ds.take k) = true ∧ closL n ll (ds.drop k ++ ds.take k) = closL n ll ds) ∧ (closB n ll (closL n ll ds) = true ∧ closL n ll (closL n ll ds) = closL n ll ds) ∧
    (closB n ll (ds.take k) = true ∧ (closL n ll (ds.take k)).all ((closL n ll ds).contains ·) = true) ∧ ds.all ((closL n ll ds).contains ·) = true := by
  have hm : ∀ d, d ∈ ds.drop k ++ ds.take k ↔ d ∈ ds := fun d => by
    rw [List.mem_append]
    conv => rhs; rw [← List.take_append_drop k ds, List.mem_append]
    exact Or.comm
  have ha := askB_iff.1 (closB_ask h)
  obtain ⟨l1, l2⟩ := clos_less (ds' := ds.take k) h (fun d hd => clos_has h d (List.mem_of_mem_take hd))
  refine ⟨clos_same h (askB_iff.2 ⟨ha.1, fun d hd => ha.2 d ((hm d).1 hd)⟩) (fun d hd => clos_has h d ((hm d).1 hd)) (fun d hd => .inl ((hm d).2 hd)),
    clos_same h (clos_ask h) (fun d hd => hd) (fun d hd => .inl (clos_has h d hd)), ⟨l1, List.all_eq_true.2 fun x hx => List.contains_iff_mem.2 (l2 x hx)⟩, List.all_eq_true.2 fun x hx => List.contains_iff_mem.2 (clos_has h x hx)⟩
set_option maxHeartbeats 1000000 in
theorem contains12_any (cv dv : Value) (l d : List Int) (w : World) (hl : IntsAt w cv l) (hd : IntsAt w dv d) :
    Calls Try.prog 25 #[dv, cv] w fun e w' => e = .returned (.bool (l.all (d.contains ·))) ∧ w = w' := by
  have H : Hid _ := r04Subsumes_any cv dv l d w hl hd
  obtain ⟨a, cap, rfl, _, _, _⟩ := hl
  obtain ⟨a', cap', rfl, _, _, _⟩ := hd
  generalize l.all (d.contains ·) = R at *
  go_enter Try.func25, Try.ntmps25
  go_wp2_with fail
  refine Calls.mono H.out ?_
  rintro e w' ⟨rfl, rfl⟩
  go_wp2
  go_ret
  exact ⟨rfl, rfl⟩
set_option maxRecDepth 100000 in
set_option maxHeartbeats 4000000 in
theorem UnitTurned_any (n : Int) (lv av : Value) (q : Int) (ll : List (List Int)) (ds : List Int) (w : World) (hR : RowsAt w lv ll) (hl : IntsAt w av ds) (hq : (Lit.int .u8 q).wf = true) :
    Calls Try.prog 8 #[.agg #[.int .i64 n, lv], av, .int .u8 q] w fun e w' => e = .returned (.bool true) ∧ Ex w w' := by
  obtain ⟨hq0, hq1⟩ := bounds_u8 hq
  clear hq
  have HL : Hid (∀ wa, Ex w wa → Calls Try.prog 10 #[.agg #[.int .i64 n, lv]] wa (AnyB wa)) := fun wa hx => few12_any n lv ll wa (hR.ex hx)
  have HC : Hid (∀ wa u m, Ex w wa → IntsAt wa u m → Calls Try.prog 16 #[.agg #[.int .i64 n, lv], u] wa (TermRet wa (closL n ll m) (closB n ll m))) := fun wa u m hx h => unitClosure_any n lv u ll m wa (hR.ex hx) h
  have HTu : Hid (closB n ll ds = true → ∀ k, (closB n ll (ds.drop k ++ ds.take k) = true ∧ closL n ll (ds.drop k ++ ds.take k) = closL n ll ds) ∧ (closB n ll (closL n ll ds) = true ∧ closL n ll (closL n ll ds) = closL n ll ds) ∧
    (closB n ll (ds.take k) = true ∧ (closL n ll (ds.take k)).all ((closL n ll ds).contains ·) = true) ∧ ds.all ((closL n ll ds).contains ·) = true) := fun h k => turned h k
  have HNo : Hid (closB n ll ds = false → closL n ll ds = []) := fun h => by unfold closL; rw [h]; rfl
  have HS : Hid (∀ (wa : World) (u v : Value) (l : List Int), IntsAt wa u l → IntsAt wa v l → Calls Try.prog 18 #[u, v] wa fun e w' => e = .returned (.bool true) ∧ Ex wa w') := fun wa u v l h k => by
    have := r04Same_any u v l l wa h k
    rwa [decide_eq_true rfl] at this
  have HK : Hid (∀ (wa : World) (u v : Value) (l m : List Int), IntsAt wa u l → IntsAt wa v m → m.all (l.contains ·) = true → Calls Try.prog 25 #[u, v] wa fun e w' => e = .returned (.bool true) ∧ wa = w') := fun wa u v l m h k e => by
    have := contains12_any v u m l wa k h
    rwa [e] at this
  have hR0 := hR
  have hl0 := hl
  obtain ⟨ra, rcap, rfl, r1, r2, r3⟩ := hR
  obtain ⟨a, cap, rfl, h1, h2, h3⟩ := hl
  unfold maxLen at r2 h2
  clear r3 h3
  go_enter Try.func8, Try.ntmps8
  go_wp2_with fail
  generalize hwa : w.alloc (.cells #[.int .i64 n, .slice ra ll.length rcap] 24) = wa
  have hxa : Ex w wa := hwa ▸ Ex.alloc _ _
  have hT : OwnB wa w.heap.size [.int .i64 n, .slice ra ll.length rcap] 24 := hwa ▸ OwnB.new w [.int .i64 n, .slice ra ll.length rcap] 24
  clear hwa
  refine (HL.out _ hxa).mono ?_
  rintro e w2 ⟨b, rfl, hx2⟩
  replace hxa := hxa.trans hx2
  replace hT := hT.ex hx2
  clear hx2 HL
  have c0 := hT.cell 0
  have c1 := hT.cell 1
  have zB := hT.lt
  cases b
  · go_wp2_with (refine (works12_any _).mono ?_; rintro e w' ⟨rfl, hx⟩)
    go_ret
    exact ⟨rfl, hxa.trans hx⟩
  by_cases hlen : 100 < ds.length
  · go_wp2_with (refine (works12_any _).mono ?_; rintro e w' ⟨rfl, hx⟩)
    go_ret
    exact ⟨rfl, hxa.trans hx⟩
  have hlw : IntsAt w2 (.slice a ds.length cap) ds := hl0.ex hxa
  have HC2 : Hid (∀ wa u m, Ex w2 wa → IntsAt wa u m → Calls Try.prog 16 #[.agg #[.int .i64 n, .slice ra ll.length rcap], u] wa (TermRet wa (closL n ll m) (closB n ll m))) := fun wa u m hx h => HC.out wa u m (hxa.trans hx) h
  clear HC
  generalize hcb : closB n ll ds = cb at *
  have HCB : Hid (closB n ll ds = cb) := hcb
  have H1 := HC2.out w2 _ ds (Ex.refl _) hlw
  rw [hcb] at H1
  clear hcb
  generalize hcl : closL n ll ds = cl at *
  have H1' : Hid _ := H1
  clear H1
  cases cb
  · obtain rfl : cl = [] := HNo.out rfl
    clear HNo HTu HS HK HC2 HCB hcl
    go_wp2_with fail
    refine Calls.mono H1'.out ?_
    rintro e w3 ⟨v1, rfl, ho1, hx2⟩
    obtain ⟨p1, q1, rfl, _, _, _⟩ := ho1.ints
    go_wp2_with (refine (works12_any _).mono ?_; rintro e w' ⟨rfl, hx⟩)
    go_ret
    exact ⟨rfl, (hxa.trans hx2).trans hx⟩
  go_wp2_with fail
  refine Calls.mono H1'.out ?_
  rintro e w3 ⟨v1, rfl, ho1, hx2⟩
  have hI1 := ho1.ints
  obtain ⟨p1, q1, rfl, _, _, _⟩ := hI1
  have hI1 := ho1.ints
  clear ho1
  clear H1' HNo HCB
  have hT3 := hT.ex hx2
  have hx23 : Ex w2 w3 := hx2
  replace hxa := hxa.trans hx2
  clear c0 c1 zB hx2
  have c0 := hT3.cell 0
  have c1 := hT3.cell 1
  have zB := hT3.lt
  obtain ⟨k, hkq⟩ : ∃ k : Nat, (k : Int) = q % ((ds.length : Int) + 1) := ⟨(q % ((ds.length : Int) + 1)).toNat, Int.toNat_of_nonneg (Int.emod_nonneg q (show (ds.length : Int) + 1 ≠ 0 by omega))⟩
  have hk : k ≤ ds.length := by have := Int.emod_lt_of_pos q (show (0 : Int) < (ds.length : Int) + 1 by omega); omega
  have et : q.tmod ((ds.length : Int) + 1) = (k : Int) := by rw [Int.tmod_eq_emod_of_nonneg hq0]; exact hkq.symm
  have ee : q % ((ds.length : Int) + 1) = (k : Int) := hkq.symm
  obtain ⟨⟨t1, t2⟩, ⟨t3, t4⟩, ⟨t5, t6⟩, t7⟩ := HTu.out (by trivial) k
  have hl3 := hlw.ex hx23
  have htk := hl3.take (i := k) hk
  have HRot : Hid (∀ wa u, Ex w2 wa → IntsAt wa u (ds.drop k ++ ds.take k) → Calls Try.prog 16 #[.agg #[.int .i64 n, .slice ra ll.length rcap], u] wa (TermRet wa cl true)) := fun wa u hx h => by
    have := HC2.out wa u _ hx h
    rwa [t1, t2] at this
  have HAg : Hid (∀ wa u, Ex w2 wa → IntsAt wa u cl → Calls Try.prog 16 #[.agg #[.int .i64 n, .slice ra ll.length rcap], u] wa (TermRet wa cl true)) := fun wa u hx h => by
    have := HC2.out wa u _ hx h
    rwa [t3, t4] at this
  have HPt : Hid (∀ wa u, Ex w2 wa → IntsAt wa u (ds.take k) → Calls Try.prog 16 #[.agg #[.int .i64 n, .slice ra ll.length rcap], u] wa (TermRet wa (closL n ll (ds.take k)) true)) := fun wa u hx h => by
    have := HC2.out wa u _ hx h
    rwa [t5] at this
  have T6 : Hid _ := t6
  have T7 : Hid _ := t7
  have L1 : Hid ((ds.drop k).length = ds.length - k) := List.length_drop
  have L2 : Hid ((ds.take k).length = k) := List.length_take_of_le hk
  clear HC2 HTu t1 t2 t3 t4 t5 t6 t7 hcl hkq
  generalize closL n ll (ds.take k) = pl at *
  have y0 : (0 : Int) ≤ (k : Int) := by omega
  have y1 : (k : Int) ≤ (ds.length : Int) := by omega
  have y2 : (k : Int) ≤ (cap : Int) := by omega
  have y3 : (ds.length : Int) ≤ (cap : Int) := by omega
  have hcm : cap - k ≤ maxLen := by unfold maxLen; omega
  have hcm2 : cap ≤ maxLen := by unfold maxLen; omega
  obtain ⟨D, hD⟩ : ∃ D, D = ds.drop k := ⟨_, rfl⟩
  rw [← hD] at L1
  have hDT : Hid (D ++ ds.take k = ds.drop k ++ ds.take k) := by show _ = _; rw [hD]
  by_cases hlt : k < ds.length
  · have hck : ¬ cap = k := by omega
    obtain ⟨_, _, hv, _, _, h3⟩ := hlw
    cases hv
    obtain ⟨b, off, rfl, _, _⟩ := h3 k hlt
    clear h3
    have hd0 : IntsAt w3 (.slice (some ⟨b, off + k, none⟩) (ds.length - k) (cap - k)) D := by
      have := hl3.drop (i := k) hk
      rw [if_neg hck] at this
      rw [hD]; exact this
    clear hD
    go_wp2_with fail
    go_region_held3 (fun w' => w'.cell? ⟨w.heap.size, 0, none⟩ = some (.int .i64 n) ∧ w'.cell? ⟨w.heap.size, 1, none⟩ = some (.slice ra ll.length rcap)) (first | go_keep | (go_split_ands; refine ⟨?_, ?_⟩ <;> first | exact ex_cell c0 hx36 | exact ex_cell c1 hx36 | exact ex_cell c0 hx2 | exact ex_cell c1 hx2 | exact ex_cell c0 hx1 | exact ex_cell c1 hx1 | fail) | fail) (first | (refine step_append_ints (by rfl) (.tmp 47) (.tmp 50) (by rfl) (by rfl) (by rfl) ((OwnI.empty (Nat.le_refl _)).ex (Ex.refl _).drew) (ys := D) (hd0.ex ((Ex.alloc _ _).drew)) (by simp only [List.length_nil]; rw [L1.out]; omega) (by simp) ?_; intro v9 w4 hown1 hg1; have hx1 : Ex w3 w4 := grown_ex ((Ex.alloc _ _).drew) hg1 (by intro k hk; cases hk; exact Nat.le_refl _); rw [List.nil_append] at hown1) | (refine step_append_ints (by rfl) (.tmp 51) (.tmp 54) (by rfl) (by rfl) (by rfl) hown1 (ys := ds.take k) (htk.ex hx1) (by rw [L1.out, L2.out]; omega) hx1.size ?_; intro v8 w5 hown2 hg2; have hx2 : Ex w3 w5 := grown_ex hx1 hg2 (ownsRow_block hown1)) | (go_at_call 16; have hI2 := hown2.ints; rw [hDT.out] at hI2; refine (HRot.out _ _ (hx23.trans hx2) hI2).mono ?_; rintro e w6 ⟨v3, rfl, ho3, hx6⟩; have hx36 : Ex w3 w6 := hx2.trans hx6; have hI3 := ho3.ints; obtain ⟨p3, q3, rfl, _, _, _⟩ := hI3; have hI3 := ho3.ints) | fail)
    have c0' := ex_cell c0 hx36
    have c1' := ex_cell c1 hx36
    clear c0 c1 zB
    have c0 := c0'
    have c1 := c1'
    have zB := cell_lt c0
    clear c0' c1' ho3 hI2 hown2 hown1 hx6 HRot
    go_wp2_with fail
    refine (HAg.out _ _ (hx23.trans hx36) (hI1.ex hx36)).mono ?_
    rintro e w7 ⟨v4, rfl, ho4, hx7⟩
    have hI4 := ho4.ints
    obtain ⟨p4, q4, rfl, _, _, _⟩ := hI4
    have hI4 := ho4.ints
    have c0 := ex_cell c0 hx7
    have c1 := ex_cell c1 hx7
    have zB := cell_lt c0
    have hI3 := hI3.ex hx7
    have hx37 := hx36.trans hx7
    clear ho4 HAg hx7
    have c0x := ext_cell c0
    have c1x := ext_cell c1
    go_wp2_with fail
    go_region_held3 (fun w' => w'.cell? ⟨w.heap.size, 0, none⟩ = some (.int .i64 n) ∧ w'.cell? ⟨w.heap.size, 1, none⟩ = some (.slice ra ll.length rcap)) (first | go_keep | (go_split_ands; refine ⟨?_, ?_⟩ <;> first | exact ex_cell c0 hx8 | exact ex_cell c1 hx8 | fail) | fail) ((go_at_call 16; refine (HPt.out _ _ ((hx23.trans hx37).drew) ((htk.ex hx37).ex (Ex.refl _).drew)).mono ?_; rintro e w8 ⟨v5, rfl, ho5, hx8'⟩; have hx8 := (Ex.refl w7).drew.trans hx8'; have hI5 := ho5.ints; obtain ⟨p5, q5, rfl, _, _, _⟩ := hI5; have hI5 := ho5.ints))
    clear ho5 HPt
    have hx38 := hx37.trans hx8
    go_wp2_with fail
    refine (HS.out _ _ _ _ (hI1.ex hx38) (hI3.ex hx8)).mono ?_
    rintro e w9 ⟨rfl, hx9⟩
    go_wp2_with fail
    refine (HS.out _ _ _ _ ((hI1.ex hx38).ex hx9) ((hI4.ex hx8).ex hx9)).mono ?_
    rintro e w10 ⟨rfl, hx10⟩
    have hx3a := (hx38.trans hx9).trans hx10
    go_wp2_with fail
    refine (HK.out _ _ _ _ _ (hI1.ex hx3a) ((hI5.ex hx9).ex hx10) T6.out).mono ?_
    rintro e w' ⟨rfl, rfl⟩
    go_wp2_with fail
    refine (HK.out _ _ _ _ _ (hI1.ex hx3a) (hl3.ex hx3a) T7.out).mono ?_
    rintro e w' ⟨rfl, rfl⟩
    go_wp2_with (refine (works12_any _).mono ?_; rintro e w' ⟨rfl, hx⟩)
    go_ret
    exact ⟨rfl, (hxa.trans hx3a).trans hx⟩
  · obtain rfl : k = ds.length := by omega
    have hD' : D = [] := by rw [hD]; exact List.drop_length
    subst hD'
    clear hD hlt
    by_cases h0 : ds.length = 0
    · obtain rfl : ds = [] := List.length_eq_zero_iff.1 h0
      have hd0 : IntsAt w3 (.slice a 0 cap) [] := intsAt_none _ _ hcm2
      have htk0 : IntsAt w3 (.slice a 0 cap) [] := intsAt_none _ _ hcm2
      have hDT0 : Hid (([] : List Int) ++ [] = ([] : List Int).drop 0 ++ ([] : List Int).take 0) := rfl
      clear h0
      go_wp2_with fail
      go_region_held3 (fun w' => w'.cell? ⟨w.heap.size, 0, none⟩ = some (.int .i64 n) ∧ w'.cell? ⟨w.heap.size, 1, none⟩ = some (.slice ra ll.length rcap)) (first | go_keep | (go_split_ands; refine ⟨?_, ?_⟩ <;> first | exact ex_cell c0 hx36 | exact ex_cell c1 hx36 | exact ex_cell c0 hx2 | exact ex_cell c1 hx2 | exact ex_cell c0 hx1 | exact ex_cell c1 hx1 | fail) | fail) (first | (refine step_append_ints (by rfl) (.tmp 47) (.tmp 50) (by rfl) (by rfl) (by rfl) ((OwnI.empty (Nat.le_refl _)).ex (Ex.refl _).drew) (ys := []) (hd0.ex ((Ex.alloc _ _).drew)) (by simp only [List.length_nil]; decide) (by simp) ?_; intro v9 w4 hown1 hg1; have hx1 : Ex w3 w4 := grown_ex ((Ex.alloc _ _).drew) hg1 (by intro k hk; cases hk; exact Nat.le_refl _); rw [List.nil_append] at hown1) | (refine step_append_ints (by rfl) (.tmp 51) (.tmp 54) (by rfl) (by rfl) (by rfl) hown1 (ys := []) (htk0.ex hx1) (by decide) hx1.size ?_; intro v8 w5 hown2 hg2; have hx2 : Ex w3 w5 := grown_ex hx1 hg2 (ownsRow_block hown1)) | (go_at_call 16; have hI2 := hown2.ints; rw [hDT0.out] at hI2; refine (HRot.out _ _ (hx23.trans hx2) hI2).mono ?_; rintro e w6 ⟨v3, rfl, ho3, hx6⟩; have hx36 : Ex w3 w6 := hx2.trans hx6; have hI3 := ho3.ints; obtain ⟨p3, q3, rfl, _, _, _⟩ := hI3; have hI3 := ho3.ints) | fail)
      have c0' := ex_cell c0 hx36
      have c1' := ex_cell c1 hx36
      clear c0 c1 zB
      have c0 := c0'
      have c1 := c1'
      have zB := cell_lt c0
      clear c0' c1' ho3 hI2 hown2 hown1 hx6 HRot
      go_wp2_with fail
      refine (HAg.out _ _ (hx23.trans hx36) (hI1.ex hx36)).mono ?_
      rintro e w7 ⟨v4, rfl, ho4, hx7⟩
      have hI4 := ho4.ints
      obtain ⟨p4, q4, rfl, _, _, _⟩ := hI4
      have hI4 := ho4.ints
      have c0 := ex_cell c0 hx7
      have c1 := ex_cell c1 hx7
      have zB := cell_lt c0
      have hI3 := hI3.ex hx7
      have hx37 := hx36.trans hx7
      clear ho4 HAg hx7
      have c0x := ext_cell c0
      have c1x := ext_cell c1
      go_wp2_with fail
      go_region_held3 (fun w' => w'.cell? ⟨w.heap.size, 0, none⟩ = some (.int .i64 n) ∧ w'.cell? ⟨w.heap.size, 1, none⟩ = some (.slice ra ll.length rcap)) (first | go_keep | (go_split_ands; refine ⟨?_, ?_⟩ <;> first | exact ex_cell c0 hx8 | exact ex_cell c1 hx8 | fail) | fail) ((go_at_call 16; refine (HPt.out _ _ ((hx23.trans hx37).drew) ((htk0.ex hx37).ex (Ex.refl _).drew)).mono ?_; rintro e w8 ⟨v5, rfl, ho5, hx8'⟩; have hx8 := (Ex.refl w7).drew.trans hx8'; have hI5 := ho5.ints; obtain ⟨p5, q5, rfl, _, _, _⟩ := hI5; have hI5 := ho5.ints))
      clear ho5 HPt
      have hx38 := hx37.trans hx8
      go_wp2_with fail
      refine (HS.out _ _ _ _ (hI1.ex hx38) (hI3.ex hx8)).mono ?_
      rintro e w9 ⟨rfl, hx9⟩
      go_wp2_with fail
      refine (HS.out _ _ _ _ ((hI1.ex hx38).ex hx9) ((hI4.ex hx8).ex hx9)).mono ?_
      rintro e w10 ⟨rfl, hx10⟩
      have hx3a := (hx38.trans hx9).trans hx10
      go_wp2_with fail
      refine (HK.out _ _ _ _ _ (hI1.ex hx3a) ((hI5.ex hx9).ex hx10) T6.out).mono ?_
      rintro e w' ⟨rfl, rfl⟩
      go_wp2_with fail
      refine (HK.out _ _ _ _ _ (hI1.ex hx3a) (hl3.ex hx3a) T7.out).mono ?_
      rintro e w' ⟨rfl, rfl⟩
      go_wp2_with (refine (works12_any _).mono ?_; rintro e w' ⟨rfl, hx⟩)
      go_ret
      exact ⟨rfl, (hxa.trans hx3a).trans hx⟩
    obtain ⟨_, _, hv, _, _, h3⟩ := hlw
    cases hv
    obtain ⟨b, off, rfl, _, _⟩ := h3 0 (by omega)
    clear h3
    by_cases hc0 : cap = ds.length
    · subst hc0
      have hd0 : IntsAt w3 (.slice (some ⟨b, off, none⟩) 0 0) [] := intsAt_none _ _ (Nat.zero_le _)
      go_wp2_with fail
      go_region_held3 (fun w' => w'.cell? ⟨w.heap.size, 0, none⟩ = some (.int .i64 n) ∧ w'.cell? ⟨w.heap.size, 1, none⟩ = some (.slice ra ll.length rcap)) (first | go_keep | (go_split_ands; refine ⟨?_, ?_⟩ <;> first | exact ex_cell c0 hx36 | exact ex_cell c1 hx36 | exact ex_cell c0 hx2 | exact ex_cell c1 hx2 | exact ex_cell c0 hx1 | exact ex_cell c1 hx1 | fail) | fail) (first | (refine step_append_ints (by rfl) (.tmp 47) (.tmp 50) (by rfl) (by rfl) (by rfl) ((OwnI.empty (Nat.le_refl _)).ex (Ex.refl _).drew) (ys := []) (hd0.ex ((Ex.alloc _ _).drew)) (by simp only [List.length_nil]; omega) (by simp) ?_; intro v9 w4 hown1 hg1; have hx1 : Ex w3 w4 := grown_ex ((Ex.alloc _ _).drew) hg1 (by intro k hk; cases hk; exact Nat.le_refl _); rw [List.nil_append] at hown1) | (refine step_append_ints (by rfl) (.tmp 51) (.tmp 54) (by rfl) (by rfl) (by rfl) hown1 (ys := ds.take ds.length) (htk.ex hx1) (by rw [L1.out, L2.out]; omega) hx1.size ?_; intro v8 w5 hown2 hg2; have hx2 : Ex w3 w5 := grown_ex hx1 hg2 (ownsRow_block hown1)) | (go_at_call 16; have hI2 := hown2.ints; rw [hDT.out] at hI2; refine (HRot.out _ _ (hx23.trans hx2) hI2).mono ?_; rintro e w6 ⟨v3, rfl, ho3, hx6⟩; have hx36 : Ex w3 w6 := hx2.trans hx6; have hI3 := ho3.ints; obtain ⟨p3, q3, rfl, _, _, _⟩ := hI3; have hI3 := ho3.ints) | fail)
      have c0' := ex_cell c0 hx36
      have c1' := ex_cell c1 hx36
      clear c0 c1 zB
      have c0 := c0'
      have c1 := c1'
      have zB := cell_lt c0
      clear c0' c1' ho3 hI2 hown2 hown1 hx6 HRot
      go_wp2_with fail
      refine (HAg.out _ _ (hx23.trans hx36) (hI1.ex hx36)).mono ?_
      rintro e w7 ⟨v4, rfl, ho4, hx7⟩
      have hI4 := ho4.ints
      obtain ⟨p4, q4, rfl, _, _, _⟩ := hI4
      have hI4 := ho4.ints
      have c0 := ex_cell c0 hx7
      have c1 := ex_cell c1 hx7
      have zB := cell_lt c0
      have hI3 := hI3.ex hx7
      have hx37 := hx36.trans hx7
      clear ho4 HAg hx7
      have c0x := ext_cell c0
      have c1x := ext_cell c1
      go_wp2_with fail
      go_region_held3 (fun w' => w'.cell? ⟨w.heap.size, 0, none⟩ = some (.int .i64 n) ∧ w'.cell? ⟨w.heap.size, 1, none⟩ = some (.slice ra ll.length rcap)) (first | go_keep | (go_split_ands; refine ⟨?_, ?_⟩ <;> first | exact ex_cell c0 hx8 | exact ex_cell c1 hx8 | fail) | fail) ((go_at_call 16; refine (HPt.out _ _ ((hx23.trans hx37).drew) ((htk.ex hx37).ex (Ex.refl _).drew)).mono ?_; rintro e w8 ⟨v5, rfl, ho5, hx8'⟩; have hx8 := (Ex.refl w7).drew.trans hx8'; have hI5 := ho5.ints; obtain ⟨p5, q5, rfl, _, _, _⟩ := hI5; have hI5 := ho5.ints))
      clear ho5 HPt
      have hx38 := hx37.trans hx8
      go_wp2_with fail
      refine (HS.out _ _ _ _ (hI1.ex hx38) (hI3.ex hx8)).mono ?_
      rintro e w9 ⟨rfl, hx9⟩
      go_wp2_with fail
      refine (HS.out _ _ _ _ ((hI1.ex hx38).ex hx9) ((hI4.ex hx8).ex hx9)).mono ?_
      rintro e w10 ⟨rfl, hx10⟩
      have hx3a := (hx38.trans hx9).trans hx10
      go_wp2_with fail
      refine (HK.out _ _ _ _ _ (hI1.ex hx3a) ((hI5.ex hx9).ex hx10) T6.out).mono ?_
      rintro e w' ⟨rfl, rfl⟩
      go_wp2_with fail
      refine (HK.out _ _ _ _ _ (hI1.ex hx3a) (hl3.ex hx3a) T7.out).mono ?_
      rintro e w' ⟨rfl, rfl⟩
      go_wp2_with (refine (works12_any _).mono ?_; rintro e w' ⟨rfl, hx⟩)
      go_ret
      exact ⟨rfl, (hxa.trans hx3a).trans hx⟩
    · have hd0 : IntsAt w3 (.slice (some ⟨b, off + ds.length, none⟩) 0 (cap - ds.length)) [] := intsAt_none _ _ hcm
      go_wp2_with fail
      go_region_held3 (fun w' => w'.cell? ⟨w.heap.size, 0, none⟩ = some (.int .i64 n) ∧ w'.cell? ⟨w.heap.size, 1, none⟩ = some (.slice ra ll.length rcap)) (first | go_keep | (go_split_ands; refine ⟨?_, ?_⟩ <;> first | exact ex_cell c0 hx36 | exact ex_cell c1 hx36 | exact ex_cell c0 hx2 | exact ex_cell c1 hx2 | exact ex_cell c0 hx1 | exact ex_cell c1 hx1 | fail) | fail) (first | (refine step_append_ints (by rfl) (.tmp 47) (.tmp 50) (by rfl) (by rfl) (by rfl) ((OwnI.empty (Nat.le_refl _)).ex (Ex.refl _).drew) (ys := []) (hd0.ex ((Ex.alloc _ _).drew)) (by simp only [List.length_nil]; omega) (by simp) ?_; intro v9 w4 hown1 hg1; have hx1 : Ex w3 w4 := grown_ex ((Ex.alloc _ _).drew) hg1 (by intro k hk; cases hk; exact Nat.le_refl _); rw [List.nil_append] at hown1) | (refine step_append_ints (by rfl) (.tmp 51) (.tmp 54) (by rfl) (by rfl) (by rfl) hown1 (ys := ds.take ds.length) (htk.ex hx1) (by rw [L1.out, L2.out]; omega) hx1.size ?_; intro v8 w5 hown2 hg2; have hx2 : Ex w3 w5 := grown_ex hx1 hg2 (ownsRow_block hown1)) | (go_at_call 16; have hI2 := hown2.ints; rw [hDT.out] at hI2; refine (HRot.out _ _ (hx23.trans hx2) hI2).mono ?_; rintro e w6 ⟨v3, rfl, ho3, hx6⟩; have hx36 : Ex w3 w6 := hx2.trans hx6; have hI3 := ho3.ints; obtain ⟨p3, q3, rfl, _, _, _⟩ := hI3; have hI3 := ho3.ints) | fail)
      have c0' := ex_cell c0 hx36
      have c1' := ex_cell c1 hx36
      clear c0 c1 zB
      have c0 := c0'
      have c1 := c1'
      have zB := cell_lt c0
      clear c0' c1' ho3 hI2 hown2 hown1 hx6 HRot
      go_wp2_with fail
      refine (HAg.out _ _ (hx23.trans hx36) (hI1.ex hx36)).mono ?_
      rintro e w7 ⟨v4, rfl, ho4, hx7⟩
      have hI4 := ho4.ints
      obtain ⟨p4, q4, rfl, _, _, _⟩ := hI4
      have hI4 := ho4.ints
      have c0 := ex_cell c0 hx7
      have c1 := ex_cell c1 hx7
      have zB := cell_lt c0
      have hI3 := hI3.ex hx7
      have hx37 := hx36.trans hx7
      clear ho4 HAg hx7
      have c0x := ext_cell c0
      have c1x := ext_cell c1
      go_wp2_with fail
      go_region_held3 (fun w' => w'.cell? ⟨w.heap.size, 0, none⟩ = some (.int .i64 n) ∧ w'.cell? ⟨w.heap.size, 1, none⟩ = some (.slice ra ll.length rcap)) (first | go_keep | (go_split_ands; refine ⟨?_, ?_⟩ <;> first | exact ex_cell c0 hx8 | exact ex_cell c1 hx8 | fail) | fail) ((go_at_call 16; refine (HPt.out _ _ ((hx23.trans hx37).drew) ((htk.ex hx37).ex (Ex.refl _).drew)).mono ?_; rintro e w8 ⟨v5, rfl, ho5, hx8'⟩; have hx8 := (Ex.refl w7).drew.trans hx8'; have hI5 := ho5.ints; obtain ⟨p5, q5, rfl, _, _, _⟩ := hI5; have hI5 := ho5.ints))
      clear ho5 HPt
      have hx38 := hx37.trans hx8
      go_wp2_with fail
      refine (HS.out _ _ _ _ (hI1.ex hx38) (hI3.ex hx8)).mono ?_
      rintro e w9 ⟨rfl, hx9⟩
      go_wp2_with fail
      refine (HS.out _ _ _ _ ((hI1.ex hx38).ex hx9) ((hI4.ex hx8).ex hx9)).mono ?_
      rintro e w10 ⟨rfl, hx10⟩
      have hx3a := (hx38.trans hx9).trans hx10
      go_wp2_with fail
      refine (HK.out _ _ _ _ _ (hI1.ex hx3a) ((hI5.ex hx9).ex hx10) T6.out).mono ?_
      rintro e w' ⟨rfl, rfl⟩
      go_wp2_with fail
      refine (HK.out _ _ _ _ _ (hI1.ex hx3a) (hl3.ex hx3a) T7.out).mono ?_
      rintro e w' ⟨rfl, rfl⟩
      go_wp2_with (refine (works12_any _).mono ?_; rintro e w' ⟨rfl, hx⟩)
      go_ret
      exact ⟨rfl, (hxa.trans hx3a).trans hx⟩
end Go.Proofs.Ytlaejhmpnlcceaa
