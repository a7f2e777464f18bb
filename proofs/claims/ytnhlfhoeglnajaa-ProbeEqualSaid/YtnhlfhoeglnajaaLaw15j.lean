/- Chapter 15: ProbeEqual: the walk. No condition. -/
import Derived.Test.YtnhlfhoeglnajaaRef15e
import Derived.Test.YtnhlfhoeglnajaaCopy
import Derived.Test.YtnhlfhoeglnajaaSame05
namespace Go.Proofs.Ytnhlfhoeglnajaa
set_option linter.unusedSimpArgs false
set_option linter.unusedVariables false
open Go.RowKit
set_option maxRecDepth 20000
/-- What Equal says, of any theory. -/
noncomputable def eqO (n : Int) (ll : List (List Int)) : List Int := if theoryErr n ll = 0 then eqL n ll n.toNat else []
theorem Equal_any (n : Int) (lv : Value) (ll : List (List Int)) (w : World) (hR : RowsAt w lv ll) :
    Calls Try.prog 28 #[.agg #[.int .i64 n, lv]] w (EqRet w (eqO n ll) (theoryErr n ll)) := by
  by_cases he : theoryErr n ll = 0
  · have n0 := (theoryErr_zero he).1
    obtain ⟨N, rfl⟩ : ∃ N : Nat, n = N := ⟨n.toNat, by omega⟩
    unfold eqO
    rw [if_pos he, he, Int.toNat_natCast]
    exact Equal_ok N lv ll w hR he
  · unfold eqO
    rw [if_neg he]
    exact Equal_bad n lv ll w hR he
theorem r15Equal_any (n : Int) (lv : Value) (ll : List (List Int)) (w : World) (hR : RowsAt w lv ll) :
    Calls Try.prog 29 #[.agg #[.int .i64 n, lv]] w (EqRet w (eqO n ll) (theoryErr n ll)) := by
  by_cases he : theoryErr n ll = 0
  · have n0 := (theoryErr_zero he).1
    obtain ⟨N, rfl⟩ : ∃ N : Nat, n = N := ⟨n.toNat, by omega⟩
    unfold eqO
    rw [if_pos he, he, Int.toNat_natCast]
    exact r15Equal_ok N lv ll w hR he
  · unfold eqO
    rw [if_neg he]
    exact r15Equal_bad n lv ll w hR he
set_option maxRecDepth 100000 in
set_option maxHeartbeats 4000000 in
theorem ProbeEqual_any (n : Int) (lv : Value) (ll : List (List Int)) (w : World) (hR : RowsAt w lv ll) :
    Calls Try.prog 7 #[.agg #[.int .i64 n, lv]] w fun e w' => e = .returned (.bool true) ∧ Ex w w' := by
  have HSm : Hid (∀ wa, Ex w wa → Calls Try.prog 13 #[.agg #[.int .i64 n, lv]] wa (SmallRet wa n ll)) := fun wa h => small15_any n lv ll wa (hR.ex h)
  have HCo : Hid (ll.length ≤ 60 ∧ (∀ c ∈ ll, c.length ≤ 140) → ∀ wa, Ex w wa → Calls Try.prog 23 #[.agg #[.int .i64 n, lv]] wa (CopyRet wa n ll)) := fun h wa hx => copy05_any n lv ll wa (hR.ex hx) h.1 h.2
  have HBo : Hid (∀ wa lv', RowsAt wa lv' ll → Calls Try.prog 28 #[.agg #[.int .i64 n, lv']] wa (EqRet wa (eqO n ll) (theoryErr n ll))) := fun wa lv' h => Equal_any n lv' ll wa h
  have HRb : Hid (∀ wa, Ex w wa → Calls Try.prog 29 #[.agg #[.int .i64 n, lv]] wa (EqRet wa (eqO n ll) (theoryErr n ll))) := fun wa hx => r15Equal_any n lv ll wa (hR.ex hx)
  have HSa : Hid (∀ (wa : World) (u v : Value) (l : List Int), IntsAt wa u l → IntsAt wa v l → Calls Try.prog 25 #[u, v] wa fun e w' => e = .returned (.bool true) ∧ Ex wa w') := fun wa u v l h k => by
    have := r03Same_any u v l l wa h k
    rwa [decide_eq_true rfl] at this
  have HS5 : Hid (∀ (wa : World) (lv' : Value), Ex w wa → RowsAt wa lv' ll → Calls Try.prog 26 #[.agg #[.int .i64 n, lv'], .agg #[.int .i64 n, lv]] wa fun e w' => e = .returned (.bool true) ∧ Ex wa w') := fun wa lv' hx h => r05Same_yes n lv' lv ll wa h (hR.ex hx)
  obtain ⟨ra, rcap, rfl, r1, r2, r3⟩ := hR
  clear r3
  have oT := OwnB.new w [.int .i64 n, .slice ra ll.length rcap] 24
  have hxa := Ex.alloc w (.cells #[.int .i64 n, .slice ra ll.length rcap] 24)
  generalize eqO n ll = BO at *
  obtain ⟨TE, hTE⟩ : ∃ TE, TE = theoryErr n ll := ⟨_, rfl⟩
  have HTE : Hid (TE = theoryErr n ll) := hTE
  rw [← hTE] at HBo HRb
  clear hTE
  go_enter Try.func7, Try.ntmps7
  go_wp2_with fail
  refine (HSm.out _ hxa).mono ?_
  rintro e w2 ⟨b, rfl, hb, hx2⟩
  replace hxa := hxa.trans hx2
  replace oT := oT.ex hx2
  cases b with
  | false =>
    clear hb
    go_wp2_with (refine (works15_any _).mono ?_; rintro e w' ⟨rfl, hx⟩)
    go_ret
    exact ⟨rfl, hxa.trans hx⟩
  | true =>
    have hbt := hb rfl
    have HCo2 : Hid _ := HCo.out hbt.1
    have HRb2 : Hid (∀ wa, Ex w wa → Calls Try.prog 29 #[.agg #[.int .i64 n, .slice ra ll.length rcap]] wa (EqRet wa BO TE)) := HRb.out
    clear hb hbt HCo HRb HSm hx2
    have c0 := oT.cell 0
    have c1 := oT.cell 1
    have z0 := oT.lt
    go_wp2_with fail
    refine (HCo2.out _ hxa).mono ?_
    rintro e w3 ⟨lv2, rfl, hR3, hx3⟩
    have hR30 := hR3
    obtain ⟨sa, scap, rfl, _, _, _⟩ := hR3
    clear c0 c1 z0 HCo2
    have oI := OwnB.new w3 [.int .i64 n, .slice sa ll.length scap] 24
    have hx4 := Ex.alloc w3 (.cells #[.int .i64 n, .slice sa ll.length scap] 24)
    have hR4 : Hid (RowsAt _ _ ll) := hR30.ex hx4
    replace oT := (oT.ex hx3).ex hx4
    replace hxa := (hxa.trans hx3).trans hx4
    go_wp2_with fail
    generalize w3.alloc (.cells #[.int .i64 n, .slice sa ll.length scap] 24) = w4 at *
    generalize w3.heap.size = IB at *
    refine (HBo.out _ _ hR4.out).mono ?_
    rintro e w5 ⟨v5, rfl, ho5, hx5⟩
    have hI5 := ho5.ints
    obtain ⟨p5, q5, rfl, _, _, _⟩ := hI5
    have hI5 := ho5.ints
    replace oT := oT.ex hx5
    replace oI := oI.ex hx5
    replace hxa := hxa.trans hx5
    have hR5 : Hid (RowsAt _ _ ll) := hR4.out.ex hx5
    clear ho5 HBo hR4 hx5 hx4 hx3 hR30
    have c0 := oT.cell 0
    have c1 := oT.cell 1
    have z0 := oT.lt
    go_wp2_with fail
    refine (HRb2.out _ hxa).mono ?_
    rintro e w6 ⟨v6, rfl, ho6, hx6⟩
    have hI6 := ho6.ints
    obtain ⟨p6, q6, rfl, _, _, _⟩ := hI6
    have hI6 := ho6.ints
    replace hI5 := hI5.ex hx6
    replace oT := oT.ex hx6
    replace oI := oI.ex hx6
    replace hxa := hxa.trans hx6
    have hR6 : Hid (RowsAt _ _ ll) := hR5.out.ex hx6
    clear ho6 HRb2 hR5 hx6 c0 c1 z0
    have hte : (TE == TE) = true := by simp
    go_wp2_with fail
    refine (HSa.out _ _ _ _ hI5 hI6).mono ?_
    rintro e w7 ⟨rfl, hx7⟩
    replace oT := oT.ex hx7
    replace oI := oI.ex hx7
    replace hxa := hxa.trans hx7
    have hR7 : Hid (RowsAt _ _ ll) := hR6.out.ex hx7
    clear hI5 hI6 hR6 hx7
    have c0 := oT.cell 0
    have c1 := oT.cell 1
    have z0 := oT.lt
    have d0 := oI.cell 0
    have d1 := oI.cell 1
    have z1 := oI.lt
    go_wp2_with fail
    refine (HS5.out _ _ hxa hR7.out).mono ?_
    rintro e w8 ⟨rfl, hx8⟩
    go_wp2_with (refine (works15_any _).mono ?_; rintro e w' ⟨rfl, hx⟩)
    go_ret
    exact ⟨rfl, (hxa.trans hx8).trans hx⟩
end Go.Proofs.Ytnhlfhoeglnajaa
