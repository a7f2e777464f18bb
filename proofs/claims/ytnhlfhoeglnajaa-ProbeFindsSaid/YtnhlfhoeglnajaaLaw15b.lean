/- Chapter 15: ProbeSound: the walk. No condition. -/
import Derived.Test.YtnhlfhoeglnajaaLaw15a
import Derived.Test.YtnhlfhoeglnajaaEvalP
import Derived.Test.YtnhlfhoeglnajaaG2
import Derived.Test.YtnhlfhoeglnajaaG1
import Derived.Deep.RegionLaw
namespace Go.Proofs.Ytnhlfhoeglnajaa
set_option linter.unusedSimpArgs false
set_option linter.unusedVariables false
open Go.RowKit
set_option maxRecDepth 20000
theorem termL_mem {l : List Int} {n : Int} (h : termB l n = true) (x : Int) : x ∈ termL l n ↔ x ∈ l := by
  have hb : (l.all (litValid · n) && !oppB (orderL l)) = true := h
  unfold termL
  rw [if_pos hb]
  rw [Bool.and_eq_true] at hb
  exact orderL_mem (valid_vars hb.1) x
theorem termB_valid {l : List Int} {n : Int} (h : termB l n = true) : ∀ x ∈ l, litValid x n = true := by
  unfold termB at h
  rw [Bool.and_eq_true, List.all_eq_true] at h
  exact h.1
theorem termL_valid {l : List Int} {n : Int} (h : termB l n = true) : ∀ x ∈ termL l n, litValid x n = true := fun x hx => termB_valid h x ((termL_mem h x).1 hx)
/-- What is found of a term that a model has is true in it. -/
theorem sound15 {n : Int} {ll : List (List Int)} {x y : Nat} {l : List Int} (hv : termB l n = true) (he : evalB n ll x y = true) (ha : (termL l n).all (holdsB x y) = true) : ∃ r, probeO n ll (termB l n) (termL l n) = some r ∧ r.all (holdsB x y) = true := by
  have ht := (evalB_clause he).1
  rw [List.all_eq_true] at ha
  obtain ⟨r, h1, h2⟩ := probe_firm (model_firm he) ht (f := termL l n) fun d hd => ⟨⟨termL_valid hv d hd, ha d hd⟩, termL_valid hv d hd⟩
  exact ⟨r, by unfold probeO; rw [if_pos ⟨ht, hv⟩]; exact h1, List.all_eq_true.2 fun z hz => (h2 z hz).2⟩
theorem and_lt {a b : Nat} (h : b < 18446744073709551616) : a &&& b < 18446744073709551616 := Nat.lt_of_le_of_lt Nat.and_le_right h
theorem cell_set2 {w : World} {A U i j k : Nat} {u v : Value} (h : A ≠ U) : ((w.setCell ⟨U, i, none⟩ u).setCell ⟨U, j, none⟩ v).cell? ⟨A, k, none⟩ = w.cell? ⟨A, k, none⟩ := by
  unfold World.cell?
  rw [Below.heap_setCell _ _ _ _ h, Below.heap_setCell _ _ _ _ h]
set_option maxRecDepth 100000 in
set_option maxHeartbeats 4000000 in
theorem ProbeSound_any (n : Int) (lv av : Value) (x y : Nat) (ll : List (List Int)) (l : List Int) (w : World) (hR : RowsAt w lv ll) (hl : IntsAt w av l) (hx : x < 18446744073709551616) (hy : y < 18446744073709551616) :
    Calls Try.prog 3 #[.agg #[.int .i64 n, lv], av, .agg #[.int .u64 x, .int .u64 y]] w fun e w' => e = .returned (.bool true) ∧ Ex w w' := by
  have HSm : Hid (∀ wa, Ex w wa → Calls Try.prog 13 #[.agg #[.int .i64 n, lv]] wa (SmallRet wa n ll)) := fun wa h => small15_any n lv ll wa (hR.ex h)
  obtain ⟨a1, ha1⟩ : ∃ a1, a1 = (allV (min n 128).toNat).1 := ⟨_, rfl⟩
  obtain ⟨a2, ha2⟩ : ∃ a2, a2 = (allV (min n 128).toNat).2 := ⟨_, rfl⟩
  have l1 : a1 < 18446744073709551616 := ha1 ▸ (allV_lt _).1
  have l2 : a2 < 18446744073709551616 := ha2 ▸ (allV_lt _).2
  have HAl : Hid (∀ wa, Calls Try.prog 16 #[.int .i64 n] wa fun e w' => e = .returned (.agg #[.int .u64 a1, .int .u64 a2]) ∧ Ex wa w') := fun wa => by rw [ha1, ha2]; exact varsAll_wide n wa
  have HCu : Hid (∀ wa, Calls Try.prog 15 #[.agg #[.int .u64 x, .int .u64 y], .agg #[.int .u64 a1, .int .u64 a2]] wa fun e w' => e = .returned (.agg #[.int .u64 ((x &&& a1 : Nat)), .int .u64 ((y &&& a2 : Nat))]) ∧ Ex wa w') := fun wa => varsCut_any x y a1 a2 hx hy l1 l2 wa
  obtain ⟨X, hX⟩ : ∃ X, X = x &&& a1 := ⟨_, rfl⟩
  obtain ⟨Y, hY⟩ : ∃ Y, Y = y &&& a2 := ⟨_, rfl⟩
  have hX1 : X < 18446744073709551616 := hX ▸ and_lt l1
  have hY1 : Y < 18446744073709551616 := hY ▸ and_lt l2
  rw [← hX, ← hY] at HCu
  clear hX hY ha1 ha2 l1 l2 hx hy
  have HEv : Hid (∀ wa, Ex w wa → Calls Try.prog 19 #[.agg #[.int .i64 n, lv], .agg #[.int .u64 X, .int .u64 Y]] wa fun e w' => e = .returned (.bool (evalB n ll X Y)) ∧ Ex wa w') := fun wa h => by
    rw [← evalT_eq hX1 hY1]; exact theoryEval_any n lv ll X Y hX1 hY1 wa (hR.ex h)
  have HAll : Hid (∀ wa u m, IntsAt wa u m → Calls Try.prog 20 #[.agg #[.int .u64 X, .int .u64 Y], u] wa fun e w' => e = .returned (.bool (m.all (holdsB X Y))) ∧ Ex wa w') := fun wa u m h => litAll_any X Y hX1 hY1 u m wa h
  have hl0 := hl
  have hR0 := hR
  obtain ⟨ra, rcap, rfl, r1, r2, r3⟩ := hR
  obtain ⟨pa, pcap, rfl, p1, p2, p3⟩ := hl
  unfold maxLen at p2
  have HPr : Hid (l.length ≤ 100 → ∀ wa, Ex w wa → Calls Try.prog 17 #[.agg #[.int .i64 n, .slice ra ll.length rcap], .slice pa l.length pcap] wa (TermRet wa ((probeO n ll (termB l n) (termL l n)).getD []) (probeO n ll (termB l n) (termL l n)).isSome)) := fun h wa hw => probeProbe_any n _ _ ll l wa (hR0.ex hw) (hl0.ex hw) (by omega)
  have HTe : Hid (l.length ≤ 100 → ∀ wa, Ex w wa → Calls Try.prog 18 #[.slice pa l.length pcap, .int .i64 n] wa (TermRet wa (termL l n) (termB l n))) := fun h wa hw => litTerm_any _ l n wa (hl0.ex hw) (by omega)
  have HSo : Hid (termB l n = true → evalB n ll X Y = true → (termL l n).all (holdsB X Y) = true → ∃ r, probeO n ll (termB l n) (termL l n) = some r ∧ r.all (holdsB X Y) = true) := sound15
  have HNo : Hid (termB l n = false → probeO n ll (termB l n) (termL l n) = none) := fun h => by unfold probeO; rw [if_neg]; rw [h]; simp
  generalize probeO n ll (termB l n) (termL l n) = PO at *
  clear r3 p3
  have oT := (OwnB.new w [.int .i64 n, .slice ra ll.length rcap] 24).ex (Ex.alloc _ (.cells #[.int .u64 x, .int .u64 y] 28))
  have oS := OwnB.new (w.alloc (.cells #[.int .i64 n, .slice ra ll.length rcap] 24)) [.int .u64 x, .int .u64 y] 28
  have hxa := (Ex.alloc w (.cells #[.int .i64 n, .slice ra ll.length rcap] 24)).alloc' (.cells #[.int .u64 x, .int .u64 y] 28)
  rw [alloc_size] at oS
  go_enter Try.func3, Try.ntmps3
  go_wp2_with fail
  generalize (w.alloc (.cells #[.int .i64 n, .slice ra ll.length rcap] 24)).alloc (.cells #[.int .u64 x, .int .u64 y] 28) = wa at *
  refine (HSm.out _ hxa).mono ?_
  rintro e w2 ⟨b, rfl, hb, hx2⟩
  replace hxa := hxa.trans hx2
  replace oT := oT.ex hx2
  replace oS := oS.ex hx2
  clear hx2 HSm hb
  cases b with
  | false =>
    go_wp2_with (refine (works15_any _).mono ?_; rintro e w' ⟨rfl, hx⟩)
    go_ret
    exact ⟨rfl, hxa.trans hx⟩
  | true =>
  by_cases hlen : 100 < l.length
  · go_wp2_with (refine (works15_any _).mono ?_; rintro e w' ⟨rfl, hx⟩)
    go_ret
    exact ⟨rfl, hxa.trans hx⟩
  have HPr2 : Hid _ := HPr.out (by omega)
  have HTe2 : Hid _ := HTe.out (by omega)
  clear HPr HTe
  have c0 := oT.cell 0
  have s0 := oS.cell 0
  have s1 := oS.cell 1
  have f0 := oS.free 0
  have f1 := oS.free 1
  have z0 := oT.lt
  have z1 := oS.lt
  have hneT : w.heap.size ≠ w.heap.size + 1 := by omega
  go_wp2
  go_region_law (first | (go_simp; go_at_call 16; refine (HAl.out _).mono ?_; rintro e w3 ⟨rfl, hx3⟩; have oS3 := (show OwnB w2.drew _ _ _ from oS).ex hx3; have s03 := oS3.cell 0; have s13 := oS3.cell 1; have f03 := oS3.free 0; have f13 := oS3.free 1; have z13 := oS3.lt; have c03 := ex_cell (show w2.drew.cell? _ = _ from c0) hx3) | (go_simp; go_at_call 15; refine (HCu.out _).mono ?_; rintro e w4 ⟨rfl, hx4⟩; have oS4 := oS3.ex hx4; have s04 := oS4.cell 0; have s14 := oS4.cell 1; have f04 := oS4.free 0; have f14 := oS4.free 1; have z14 := oS4.lt; have c04 := ex_cell c03 hx4))
  all_goals (
    have oT5 := ((((show OwnB w2.drew _ _ _ from oT).ex hx3).ex hx4).set_other (c := w.heap.size + 1) 0 (.int .u64 X) hneT.symm).set_other (c := w.heap.size + 1) 1 (.int .u64 Y) hneT.symm
    have oS5 := (oS4.set 0 (.int .u64 X)).set 1 (.int .u64 Y)
    have hx5 : Ex w ((w4.setCell ⟨w.heap.size + 1, 0, none⟩ (.int .u64 X)).setCell ⟨w.heap.size + 1, 1, none⟩ (.int .u64 Y)) := ((((hxa.trans ((Ex.refl w2).drew)).trans hx3).trans hx4).setCell (by show w.heap.size ≤ w.heap.size + 1; omega) _).setCell (by show w.heap.size ≤ w.heap.size + 1; omega) _
    clear s0 s1 f0 f1 z0 z1 c0 s03 s13 f03 f13 z13 c03 s04 s14 f04 f14 z14 c04 oS3 oS4 oT oS hx3 hx4 HAl HCu
    generalize (w4.setCell ⟨w.heap.size + 1, 0, none⟩ (.int .u64 X)).setCell ⟨w.heap.size + 1, 1, none⟩ (.int .u64 Y) = w5 at *
    have c0 := oT5.cell 0
    have c1 := oT5.cell 1
    have z0 := oT5.lt
    go_wp2_with fail
    refine (HPr2.out _ hx5).mono ?_
    rintro e w6 ⟨v6, rfl, ho6, hx6⟩
    have hI6 := ho6.ints
    obtain ⟨p6, q6, rfl, _, _, _⟩ := hI6
    have hI6 := ho6.ints
    clear ho6 c0 c1 z0
    have oT6 := oT5.ex hx6
    have oS6 := oS5.ex hx6
    replace hx6 := hx5.trans hx6
    have c0 := oT6.cell 0
    have c1 := oT6.cell 1
    have z0 := oT6.lt
    clear oT5 oS5 hx5
    go_wp2_with fail
    refine (HTe2.out _ hx6).mono ?_
    rintro e w7 ⟨v7, rfl, ho7, hx7⟩
    have hI7 := ho7.ints
    obtain ⟨p7, q7, rfl, _, _, _⟩ := hI7
    have hI7 := ho7.ints
    replace hI6 := hI6.ex hx7
    have oT7 := oT6.ex hx7
    have oS7 := oS6.ex hx7
    replace hx7 := hx6.trans hx7
    clear ho7 c0 c1 z0 oT6 oS6 hx6 HPr2 HTe2
    have c0 := oT7.cell 0
    have c1 := oT7.cell 1
    have z0 := oT7.lt
    have s0 := oS7.cell 0
    have s1 := oS7.cell 1
    have z1 := oS7.lt
    by_cases hv : termB l n = true
    rotate_left
    · have hvf : termB l n = false := by simpa using hv
      have hno := HNo.out hvf
      subst hno
      rw [hvf]
      clear HNo HSo hI6 hI7 hv hvf
      have hl0 : ((([] : List Int).length : Nat) : Int) = 0 := rfl
      go_wp2_with (refine (works15_any _).mono ?_; rintro e w' ⟨rfl, hx⟩)
      go_ret
      exact ⟨rfl, hx7.trans hx⟩
    rw [hv]
    have HSo2 : Hid _ := HSo.out hv
    have HEv2 : Hid _ := HEv.out w7 hx7
    clear HNo HSo HEv
    generalize termL l n = tl at *
    cases he : evalB n ll X Y with
    | false =>
      rw [he] at HEv2
      clear HSo2 hI6 hI7 he HAll
      go_wp2_with fail
      refine Calls.mono HEv2.out ?_
      rintro e w8 ⟨rfl, hx8⟩
      go_wp2_with (refine (works15_any _).mono ?_; rintro e w' ⟨rfl, hx⟩)
      go_ret
      exact ⟨rfl, (hx7.trans hx8).trans hx⟩
    | true =>
      rw [he] at HEv2
      have HSo3 : Hid _ := HSo2.out he
      clear HSo2 he
      have HAl2 : Hid (∀ wa, Ex w7 wa → Calls Try.prog 20 #[.agg #[.int .u64 X, .int .u64 Y], .slice p7 tl.length q7] wa fun e w' => e = .returned (.bool (tl.all (holdsB X Y))) ∧ Ex wa w') := fun wa h => HAll.out wa _ _ (hI7.ex h)
      cases ha : tl.all (holdsB X Y) with
      | false =>
        rw [ha] at HAl2
        clear HSo3 ha HAll hI6 hI7
        go_wp2_with fail
        refine Calls.mono HEv2.out ?_
        rintro e w8 ⟨rfl, hx8⟩
        clear c0 c1 z0 s0 s1 z1 HEv2
        have s0 := (oS7.ex hx8).cell 0
        have s1 := (oS7.ex hx8).cell 1
        have z1 := (oS7.ex hx8).lt
        go_wp2_with fail
        refine (HAl2.out _ hx8).mono ?_
        rintro e w9 ⟨rfl, hx9⟩
        go_wp2_with (refine (works15_any _).mono ?_; rintro e w' ⟨rfl, hx⟩)
        go_ret
        exact ⟨rfl, ((hx7.trans hx8).trans hx9).trans hx⟩
      | true =>
        rw [ha] at HAl2
        obtain ⟨r, hr, hall⟩ := HSo3.out ha
        subst hr
        have HAl3 : Hid (∀ wa, Ex w7 wa → Calls Try.prog 20 #[.agg #[.int .u64 X, .int .u64 Y], .slice p6 r.length q6] wa fun e w' => e = .returned (.bool true) ∧ Ex wa w') := fun wa h => by
          have := HAll.out wa _ r (hI6.ex h)
          rwa [hall] at this
        clear HSo3 ha HAll hI6 hI7 hall
        have hgd : ((some r).getD []).length = r.length := rfl
        have hgs : (some r).isSome = true := rfl
        go_wp2_with fail
        refine Calls.mono HEv2.out ?_
        rintro e w8 ⟨rfl, hx8⟩
        clear c0 c1 z0 s0 s1 z1 HEv2
        have s0 := (oS7.ex hx8).cell 0
        have s1 := (oS7.ex hx8).cell 1
        have z1 := (oS7.ex hx8).lt
        go_wp2_with fail
        refine (HAl2.out _ hx8).mono ?_
        rintro e w9 ⟨rfl, hx9⟩
        have hx89 := hx8.trans hx9
        clear s0 s1 z1 HAl2
        have s0 := (oS7.ex hx89).cell 0
        have s1 := (oS7.ex hx89).cell 1
        have z1 := (oS7.ex hx89).lt
        go_wp2_with fail
        refine (HAl3.out _ hx89).mono ?_
        rintro e w10 ⟨rfl, hx10⟩
        go_wp2_with (refine (works15_any _).mono ?_; rintro e w' ⟨rfl, hx⟩)
        go_ret
        exact ⟨rfl, ((hx7.trans hx89).trans hx10).trans hx⟩
  )
end Go.Proofs.Ytnhlfhoeglnajaa
