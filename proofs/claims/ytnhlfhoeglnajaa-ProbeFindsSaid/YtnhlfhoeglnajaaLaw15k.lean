/- Chapter 15: ProbeFinds: the walk. No condition. -/
import Derived.Test.YtnhlfhoeglnajaaRef15f
import Derived.Test.YtnhlfhoeglnajaaCopy
import Derived.Test.YtnhlfhoeglnajaaSame05
namespace Go.Proofs.Ytnhlfhoeglnajaa
set_option linter.unusedSimpArgs false
set_option linter.unusedVariables false
open Go.RowKit
set_option maxRecDepth 20000
set_option maxRecDepth 100000 in
set_option maxHeartbeats 4000000 in
theorem ProbeFinds_any (n : Int) (lv av : Value) (ll : List (List Int)) (l : List Int) (w : World) (hR : RowsAt w lv ll) (hl : IntsAt w av l) :
    Calls Try.prog 5 #[.agg #[.int .i64 n, lv], av] w fun e w' => e = .returned (.bool true) ∧ Ex w w' := by
  have HSm : Hid (∀ wa, Ex w wa → Calls Try.prog 13 #[.agg #[.int .i64 n, lv]] wa (SmallRet wa n ll)) := fun wa h => small15_any n lv ll wa (hR.ex h)
  have HCo : Hid (ll.length ≤ 60 ∧ (∀ c ∈ ll, c.length ≤ 140) → ∀ wa, Ex w wa → Calls Try.prog 23 #[.agg #[.int .i64 n, lv]] wa (CopyRet wa n ll)) := fun h wa hx => copy05_any n lv ll wa (hR.ex hx) h.1 h.2
  have HPr : Hid (∀ wa lv' u m, RowsAt wa lv' ll → IntsAt wa u m → m.length * 8 ≤ 140737488355328 → Calls Try.prog 17 #[.agg #[.int .i64 n, lv'], u] wa (TermRet wa ((probeT n ll m).getD []) (probeT n ll m).isSome)) := fun wa lv' u m hw h hb => probeProbe_any n lv' _ ll m wa hw h hb
  have HRp : Hid (∀ wa, Ex w wa → Calls Try.prog 24 #[.agg #[.int .i64 n, lv], av] wa (TermRet wa ((probeT n ll l).getD []) (probeT n ll l).isSome)) := fun wa hx => by
    by_cases he : theoryErr n ll = 0
    · have n0 := (theoryErr_zero he).1
      obtain ⟨N, rfl⟩ : ∃ N : Nat, n = N := ⟨n.toNat, by omega⟩
      exact r15Probe_any N lv av ll l wa (hR.ex hx) (hl.ex hx) he
    · rw [probeT_bad (.inl he)]
      exact r15Probe_err n lv av ll l wa (hR.ex hx) he
  have HSa : Hid (∀ (wa : World) (u v : Value) (l : List Int), IntsAt wa u l → IntsAt wa v l → Calls Try.prog 25 #[u, v] wa fun e w' => e = .returned (.bool true) ∧ Ex wa w') := fun wa u v l h k => by
    have := r03Same_any u v l l wa h k
    rwa [decide_eq_true rfl] at this
  have HS5 : Hid (∀ (wa : World) (lv' : Value), Ex w wa → RowsAt wa lv' ll → Calls Try.prog 26 #[.agg #[.int .i64 n, lv'], .agg #[.int .i64 n, lv]] wa fun e w' => e = .returned (.bool true) ∧ Ex wa w') := fun wa lv' hx h => r05Same_yes n lv' lv ll wa h (hR.ex hx)
  have hl0 := hl
  obtain ⟨ra, rcap, rfl, r1, r2, r3⟩ := hR
  obtain ⟨pa, pcap, rfl, p1, p2, p3⟩ := hl
  unfold maxLen at p2
  clear r3 p3
  have oT := OwnB.new w [.int .i64 n, .slice ra ll.length rcap] 24
  have hxa := Ex.alloc w (.cells #[.int .i64 n, .slice ra ll.length rcap] 24)
  go_enter Try.func5, Try.ntmps5
  go_wp2_with fail
  generalize w.alloc (.cells #[.int .i64 n, .slice ra ll.length rcap] 24) = wa at *
  refine (HSm.out _ hxa).mono ?_
  rintro e w2 ⟨b, rfl, hb, hx2⟩
  replace hxa := hxa.trans hx2
  replace oT := oT.ex hx2
  clear hx2 HSm
  cases b with
  | false =>
    clear hb
    go_wp2_with (refine (works15_any _).mono ?_; rintro e w' ⟨rfl, hx⟩)
    go_ret
    exact ⟨rfl, hxa.trans hx⟩
  | true =>
  have hbt := hb rfl
  have HCo2 : Hid _ := HCo.out hbt.1
  clear hb hbt HCo
  by_cases hlen : 100 < l.length
  · go_wp2_with (refine (works15_any _).mono ?_; rintro e w' ⟨rfl, hx⟩)
    go_ret
    exact ⟨rfl, hxa.trans hx⟩
  have c0 := oT.cell 0
  have c1 := oT.cell 1
  have z0 := oT.lt
  go_wp2_with fail
  refine (HCo2.out _ hxa).mono ?_
  rintro e w3 ⟨lv2, rfl, hR3, hx3⟩
  obtain ⟨sa, scap, rfl, _, _, _⟩ := id hR3
  replace oT := oT.ex hx3
  replace hxa := hxa.trans hx3
  clear c0 c1 z0 HCo2 hx3
  have hI0 := (hl0.ex hxa).ex (Ex.alloc w3 (.cells #[] 3))
  go_wp2_with (at_builtin; refine wpList_append_ints rfl (.tmp 22) (.tmp 23) rfl rfl rfl (OwnI.empty' (base := w3.heap.size) rfl (Nat.le_refl _)) hI0 ?c1 ?c2 ?_)
  case c1 => simp only [List.length_nil]; omega
  case c2 => rw [alloc_size]; omega
  intro v4 w4 hown hg
  have hx34 : Ex w3 w4 := grown_ex ((Ex.refl w3).alloc' (.cells #[] 3)) hg (by intro k hk; simp [Value.ownBlock] at hk; omega)
  have hIc := hown.ints
  obtain ⟨ca, ccap, rfl, _, _, _⟩ := id hIc
  replace oT := oT.ex hx34
  replace hxa := hxa.trans hx34
  replace hR3 := hR3.ex hx34
  clear hown hg hx34 hI0
  have oI := OwnB.new w4 [.int .i64 n, .slice sa ll.length scap] 24
  have hx5 := Ex.alloc w4 (.cells #[.int .i64 n, .slice sa ll.length scap] 24)
  have hR5 : Hid (RowsAt _ _ ll) := hR3.ex hx5
  have hIc5 : Hid (IntsAt _ _ l) := hIc.ex hx5
  replace oT := oT.ex hx5
  replace hxa := hxa.trans hx5
  go_wp2_with fail
  generalize w4.alloc (.cells #[.int .i64 n, .slice sa ll.length scap] 24) = w5 at *
  generalize w4.heap.size = IB at *
  refine (HPr.out _ _ _ _ hR5.out hIc5.out (by omega)).mono ?_
  rintro e w6 ⟨v6, rfl, ho6, hx6⟩
  have hI6 := ho6.ints
  obtain ⟨p6, q6, rfl, _, _, _⟩ := id hI6
  replace oT := oT.ex hx6
  replace oI := oI.ex hx6
  replace hxa := hxa.trans hx6
  have hR6 : Hid (RowsAt _ _ ll) := hR5.out.ex hx6
  have hIc6 : Hid (IntsAt _ _ l) := hIc5.out.ex hx6
  clear ho6 HPr hR5 hx6 hx5 hR3 hIc hIc5
  generalize probeT n ll l = PT at *
  generalize PT.getD [] = PL at *
  generalize PT.isSome = PB at *
  have c0 := oT.cell 0
  have c1 := oT.cell 1
  have z0 := oT.lt
  go_wp2_with fail
  refine (HRp.out _ hxa).mono ?_
  rintro e w7 ⟨v7, rfl, ho7, hx7⟩
  have hI7 := ho7.ints
  obtain ⟨p7, q7, rfl, _, _, _⟩ := id hI7
  replace hI6 := hI6.ex hx7
  replace oT := oT.ex hx7
  replace oI := oI.ex hx7
  replace hxa := hxa.trans hx7
  have hR7 : Hid (RowsAt _ _ ll) := hR6.out.ex hx7
  have hIc7 : Hid (IntsAt _ _ l) := hIc6.out.ex hx7
  clear ho7 HRp hR6 hIc6 hx7 c0 c1 z0
  have hbb : (PB == PB) = true := by simp
  go_wp2_with fail
  refine (HSa.out _ _ _ _ hI6 hI7).mono ?_
  rintro e w8 ⟨rfl, hx8⟩
  replace oT := oT.ex hx8
  replace oI := oI.ex hx8
  replace hxa := hxa.trans hx8
  have hR8 : Hid (RowsAt _ _ ll) := hR7.out.ex hx8
  have hIc8 : Hid (IntsAt _ _ l) := hIc7.out.ex hx8
  clear hI6 hI7 hR7 hIc7 hx8
  have c0 := oT.cell 0
  have c1 := oT.cell 1
  have z0 := oT.lt
  have d0 := oI.cell 0
  have d1 := oI.cell 1
  have z1 := oI.lt
  go_wp2_with fail
  refine (HS5.out _ _ hxa hR8.out).mono ?_
  rintro e w9 ⟨rfl, hx9⟩
  have hIc9 := hIc8.out.ex hx9
  have hIt9 := hl0.ex (hxa.trans hx9)
  clear c0 c1 z0 d0 d1 z1
  go_wp2_with fail
  refine (HSa.out _ _ _ _ hIc9 hIt9).mono ?_
  rintro e w10 ⟨rfl, hx10⟩
  go_wp2_with (refine (works15_any _).mono ?_; rintro e w' ⟨rfl, hx⟩)
  go_ret
  exact ⟨rfl, ((hxa.trans hx9).trans hx10).trans hx⟩
end Go.Proofs.Ytnhlfhoeglnajaa
