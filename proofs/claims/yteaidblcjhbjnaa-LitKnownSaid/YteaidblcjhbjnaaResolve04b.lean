/- lit.Resolve: the resolvent of two clauses, in new memory. -/
import Derived.Test.YteaidblcjhbjnaaResolve04
namespace Go.Proofs.Yteaidblcjhbjnaa
set_option linter.unusedSimpArgs false
set_option linter.unusedVariables false
open Go.RowKit
/-- Can two clauses be resolved on v? -/
def resOk (c d : List Int) (v : Int) : Bool := litValid v 128 && !decide (v < 0) && c.all (litValid · 128) && d.all (litValid · 128) && c.contains v && d.contains (-v)
def resRaw (c d : List Int) (v : Int) : List Int := c.filter (· != v) ++ d.filter (· != -v)
def resL (c d : List Int) (v : Int) : List Int := if resOk c d v then orderL (resRaw c d v) else []
theorem resRaw_vars {c d : List Int} {v : Int} (hc : c.all (litValid · 128) = true) (hd : d.all (litValid · 128) = true) : ∀ x ∈ resRaw c d v, litVar x ≠ 0 := fun x hx => by
  unfold resRaw at hx
  rw [List.mem_append, List.mem_filter, List.mem_filter] at hx
  rcases hx with hx | hx
  · exact valid_vars hc x hx.1
  · exact valid_vars hd x hx.1
set_option maxHeartbeats 2000000 in
theorem litResolve_any (cv dv : Value) (c d : List Int) (v : Int) (w : World) (hc : IntsAt w cv c) (hd : IntsAt w dv d) (hvw : (Lit.int .i64 v).wf = true) (hb : (c.length + d.length) * 8 ≤ 140737488355328) :
    Calls Try.prog 23 #[cv, dv, .int .i64 v] w (TermRet w (resL c d v) (resOk c d v)) := by
  have HV : Hid (∀ wa, Calls Try.prog 14 #[.int .i64 v, .int .i64 128] wa fun e w' => e = .returned (.bool (litValid v 128)) ∧ wa = w') := fun wa => litValid_any v 128 wa
  have HC : Hid (∀ wa, Ex w wa → Calls Try.prog 34 #[cv, .int .i64 128] wa fun e w' => e = .returned (.bool (c.all (litValid · 128))) ∧ Ex wa w') := fun wa hx => litValidAll_any cv c 128 wa (hc.ex hx)
  have HD : Hid (∀ wa, Ex w wa → Calls Try.prog 34 #[dv, .int .i64 128] wa fun e w' => e = .returned (.bool (d.all (litValid · 128))) ∧ Ex wa w') := fun wa hx => litValidAll_any dv d 128 wa (hd.ex hx)
  have HK1 : Hid (∀ wa, Ex w wa → Calls Try.prog 40 #[cv, .int .i64 v] wa fun e w' => e = .returned (.bool (c.contains v)) ∧ wa = w') := fun wa hx => slicesContains_any cv c v wa (hc.ex hx)
  have HK2 : Hid (∀ wa, Ex w wa → Calls Try.prog 40 #[dv, .int .i64 (-v)] wa fun e w' => e = .returned (.bool (d.contains (-v))) ∧ wa = w') := fun wa hx => slicesContains_any dv d (-v) wa (hd.ex hx)
  have HO : Hid (c.all (litValid · 128) = true → d.all (litValid · 128) = true → ∀ wa sv, IntsAt wa sv (resRaw c d v) → Calls Try.prog 35 #[sv] wa (OrdRet wa (orderL (resRaw c d v)))) := fun h1 h2 wa sv hs =>
    litOrder_any sv _ wa hs (resRaw_vars h1 h2) (by
      have e1 := List.length_filter_le (fun x => x != v) c
      have e2 := List.length_filter_le (fun x => x != -v) d
      unfold resRaw; rw [List.length_append]; omega)
  have HR : Hid (litValid v 128 = true → 1 ≤ v ∨ v < 0) := fun h => by rw [litValid_iff] at h; omega
  have HR2 : Hid (litValid v 128 = true → -128 ≤ v ∧ v ≤ 128) := fun h => by rw [litValid_iff] at h; omega
  have H1 : Hid (∀ (B base : Nat) (w0 wa : World) (xv : Value) (xs : List Int), IntsAt w0 cv c → Ex w0 wa → w0.heap.size ≤ B → B < base → base ≤ wa.heap.size → OwnB wa B [xv] 25 → OwnI wa base xv xs → (xs.length + c.length) * 8 ≤ 140737488355328 → Calls Try.prog 41 #[cv, .int .i64 v, .pointer (some ⟨B, 0, none⟩)] wa (Collected w0 B base (xs ++ c.filter (· != v)))) := fun B base w0 wa xv xs q1 q2 q3 q4 q5 q6 q7 q8 => resolve1_any w0 B base cv xv c xs v wa q1 q2 q3 q4 q5 q6 q7 q8
  have H2 : Hid (∀ (B base : Nat) (w0 wa : World) (xv : Value) (xs : List Int), IntsAt w0 dv d → Ex w0 wa → w0.heap.size ≤ B → B < base → base ≤ wa.heap.size → OwnB wa B [xv] 25 → OwnI wa base xv xs → (xs.length + d.length) * 8 ≤ 140737488355328 → Calls Try.prog 41 #[dv, .int .i64 (-v), .pointer (some ⟨B, 0, none⟩)] wa (Collected w0 B base (xs ++ d.filter (· != -v)))) := fun B base w0 wa xv xs q1 q2 q3 q4 q5 q6 q7 q8 => resolve1_any w0 B base dv xv d xs (-v) wa q1 q2 q3 q4 q5 q6 q7 q8
  have hFl : Hid ((c.filter (· != v)).length ≤ c.length) := List.length_filter_le _ _
  have hE : Hid (c.filter (· != v) ++ d.filter (· != -v) = resRaw c d v) := rfl
  have hc0 := hc
  have hd0 := hd
  obtain ⟨a, cap, rfl, _, _, h3⟩ := hc
  obtain ⟨a', cap', rfl, _, _, h4⟩ := hd
  clear h3 h4
  have HO2 : Hid (resOk c d v = (litValid v 128 && !decide (v < 0) && c.all (litValid · 128) && d.all (litValid · 128) && c.contains v && d.contains (-v))) := rfl
  unfold resL
  generalize resOk c d v = ok at *
  generalize orderL (resRaw c d v) = L at *
  generalize resRaw c d v = Q at *
  generalize c.filter (· != v) = F1 at *
  generalize d.filter (· != -v) = F2 at *
  generalize litValid v 128 = V0 at *
  generalize c.all (litValid · 128) = V1 at *
  generalize d.all (litValid · 128) = V2 at *
  generalize c.contains v = K1 at *
  generalize d.contains (-v) = K2 at *
  cases V0
  · skip
    have e1 := HO2.out
    simp only [Bool.false_and, Bool.and_false, Bool.true_and] at e1
    subst e1
    show Calls _ _ _ _ (TermRet w [] false)
    clear HO H1 H2 hE hFl HO2 HR HR2
    have hx : Ex w w := Ex.refl w
    go_enter Try.func23, Try.ntmps23
    go_wp2_with fail
    refine (HV.out _).mono ?_
    rintro e w' ⟨rfl, rfl⟩
    go_wp2
    go_ret2
    exact ⟨_, rfl, OwnI.nil _ _, hx⟩
  have hr := HR2.out rfl
  obtain ⟨hr1, hr2⟩ := hr
  by_cases h0 : v < 0
  · skip
    have e1 := HO2.out
    simp only [Bool.false_and, Bool.and_false, Bool.not_true, Bool.true_and, decide_true, h0] at e1
    subst e1
    show Calls _ _ _ _ (TermRet w [] false)
    clear HO H1 H2 hE hFl HO2 HR HR2
    have hx : Ex w w := Ex.refl w
    go_enter Try.func23, Try.ntmps23
    go_wp2_with fail
    refine (HV.out _).mono ?_
    rintro e w' ⟨rfl, rfl⟩
    go_wp2
    go_ret2
    exact ⟨_, rfl, OwnI.nil _ _, hx⟩
  have h0f : decide (v < 0) = false := by simp; omega
  cases V1
  · skip
    have e1 := HO2.out
    simp only [Bool.false_and, Bool.and_false, Bool.true_and] at e1
    subst e1
    show Calls _ _ _ _ (TermRet w [] false)
    clear HO H1 H2 hE hFl HO2 HR HR2
    have hx : Ex w w := Ex.refl w
    go_enter Try.func23, Try.ntmps23
    go_wp2_with fail
    refine (HV.out _).mono ?_
    rintro e w' ⟨rfl, rfl⟩
    go_wp2_with fail
    refine (HC.out _ hx).mono ?_
    rintro e w2 ⟨rfl, hy⟩
    replace hx := hx.trans hy
    clear hy
    go_wp2
    go_ret2
    exact ⟨_, rfl, OwnI.nil _ _, hx⟩
  cases V2
  · skip
    have e1 := HO2.out
    simp only [Bool.false_and, Bool.and_false, Bool.true_and] at e1
    subst e1
    show Calls _ _ _ _ (TermRet w [] false)
    clear HO H1 H2 hE hFl HO2 HR HR2
    have hx : Ex w w := Ex.refl w
    go_enter Try.func23, Try.ntmps23
    go_wp2_with fail
    refine (HV.out _).mono ?_
    rintro e w' ⟨rfl, rfl⟩
    go_wp2_with fail
    refine (HC.out _ hx).mono ?_
    rintro e w2 ⟨rfl, hy⟩
    replace hx := hx.trans hy
    clear hy
    go_wp2_with fail
    refine (HD.out _ hx).mono ?_
    rintro e w3 ⟨rfl, hy⟩
    replace hx := hx.trans hy
    clear hy
    go_wp2
    go_ret2
    exact ⟨_, rfl, OwnI.nil _ _, hx⟩
  cases K1
  · skip
    have e1 := HO2.out
    simp only [Bool.false_and, Bool.and_false, Bool.true_and] at e1
    subst e1
    show Calls _ _ _ _ (TermRet w [] false)
    clear HO H1 H2 hE hFl HO2 HR HR2
    have hx : Ex w w := Ex.refl w
    go_enter Try.func23, Try.ntmps23
    go_wp2_with fail
    refine (HV.out _).mono ?_
    rintro e w' ⟨rfl, rfl⟩
    go_wp2_with fail
    refine (HC.out _ hx).mono ?_
    rintro e w2 ⟨rfl, hy⟩
    replace hx := hx.trans hy
    clear hy
    go_wp2_with fail
    refine (HD.out _ hx).mono ?_
    rintro e w3 ⟨rfl, hy⟩
    replace hx := hx.trans hy
    clear hy
    go_wp2_with fail
    refine (HK1.out _ hx).mono ?_
    rintro e w' ⟨rfl, rfl⟩
    go_wp2
    go_ret2
    exact ⟨_, rfl, OwnI.nil _ _, hx⟩
  cases K2
  · skip
    have e1 := HO2.out
    simp only [Bool.false_and, Bool.and_false, Bool.true_and] at e1
    subst e1
    show Calls _ _ _ _ (TermRet w [] false)
    clear HO H1 H2 hE hFl HO2 HR HR2
    have hx : Ex w w := Ex.refl w
    go_enter Try.func23, Try.ntmps23
    go_wp2_with fail
    refine (HV.out _).mono ?_
    rintro e w' ⟨rfl, rfl⟩
    go_wp2_with fail
    refine (HC.out _ hx).mono ?_
    rintro e w2 ⟨rfl, hy⟩
    replace hx := hx.trans hy
    clear hy
    go_wp2_with fail
    refine (HD.out _ hx).mono ?_
    rintro e w3 ⟨rfl, hy⟩
    replace hx := hx.trans hy
    clear hy
    go_wp2_with fail
    refine (HK1.out _ hx).mono ?_
    rintro e w' ⟨rfl, rfl⟩
    go_wp2_with fail
    refine (HK2.out _ hx).mono ?_
    rintro e w' ⟨rfl, rfl⟩
    go_wp2
    go_ret2
    exact ⟨_, rfl, OwnI.nil _ _, hx⟩
  have e1 := HO2.out
  simp only [h0f, Bool.not_false, Bool.and_self] at e1
  subst e1
  have HOr := HO.out rfl rfl
  have HO3 : Hid _ := HOr
  show Calls _ _ _ _ (TermRet w L true)
  clear HO HOr HO2 HR HR2
  have hx : Ex w w := Ex.refl w
  go_enter Try.func23, Try.ntmps23
  go_wp2_with fail
  refine (HV.out _).mono ?_
  rintro e w' ⟨rfl, rfl⟩
  go_wp2_with fail
  refine (HC.out _ hx).mono ?_
  rintro e w2 ⟨rfl, hy⟩
  replace hx := hx.trans hy
  clear hy
  go_wp2_with fail
  refine (HD.out _ hx).mono ?_
  rintro e w3 ⟨rfl, hy⟩
  replace hx := hx.trans hy
  clear hy
  go_wp2_with fail
  refine (HK1.out _ hx).mono ?_
  rintro e w' ⟨rfl, rfl⟩
  go_wp2_with fail
  refine (HK2.out _ hx).mono ?_
  rintro e w' ⟨rfl, rfl⟩
  go_wp2_with fail
  have oB := OwnB.new w3 [.slice none 0 0] 25
  refine (H1.out w3.heap.size (w3.heap.size + 1) w3 _ (.slice none 0 0) [] (hc0.ex hx) (Ex.alloc _ _) (Nat.le_refl _) (Nat.lt_succ_self _) (by show _ ≤ (w3.heap.push _).size; simp) oB (OwnI.nil _ _) (by simp only [List.length_nil]; omega)).mono ?_
  rintro e w5 ⟨rfl, v5, hb5, ho5, hx5, hs5⟩
  rw [List.nil_append] at ho5
  have hl5 := hFl.out
  go_wp2_with fail
  refine (H2.out w3.heap.size (w3.heap.size + 1) w3 _ v5 F1 (hd0.ex hx) hx5 (Nat.le_refl _) (Nat.lt_succ_self _) hs5 hb5 ho5 (by omega)).mono ?_
  rintro e w6 ⟨rfl, v6, hb6, ho6, hx6, hs6⟩
  rw [hE.out] at ho6
  have hI6 := ho6.ints
  obtain ⟨p6, q6, rfl, _, _, _⟩ := hI6
  have hI6 := ho6.ints
  have c6 := hb6.cell 0
  clear hb5 ho5 hx5 hs5 oB H1 H2
  go_wp2_with fail
  refine (HO3.out _ _ hI6).mono ?_
  rintro e w7 ⟨v7, rfl, hO7, hx7⟩
  have hx67 := hx.trans hx6
  have hO := hO7.base hx67.size
  go_wp2
  go_ret2
  exact ⟨_, rfl, hO, hx67.trans hx7⟩
end Go.Proofs.Yteaidblcjhbjnaa
