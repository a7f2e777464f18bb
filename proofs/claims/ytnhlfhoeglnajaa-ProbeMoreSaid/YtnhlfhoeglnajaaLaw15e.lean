/- Chapter 15: ProbeMore: the walk. No condition. -/
import Derived.Test.YtnhlfhoeglnajaaLaw15d
namespace Go.Proofs.Ytnhlfhoeglnajaa
set_option linter.unusedSimpArgs false
set_option linter.unusedVariables false
open Go.RowKit
set_option maxRecDepth 20000
set_option maxRecDepth 100000 in
set_option maxHeartbeats 4000000 in
theorem ProbeMore_any (n : Int) (lv av : Value) (x : Int) (ll : List (List Int)) (l : List Int) (w : World) (hR : RowsAt w lv ll) (hl : IntsAt w av l) (_ : (Lit.int .i64 x).wf = true) :
    Calls Try.prog 9 #[.agg #[.int .i64 n, lv], av, .int .i64 x] w fun e w' => e = .returned (.bool true) ∧ Ex w w' := by
  have HSm : Hid (∀ wa, Ex w wa → Calls Try.prog 13 #[.agg #[.int .i64 n, lv]] wa (SmallRet wa n ll)) := fun wa h => small15_any n lv ll wa (hR.ex h)
  have HPr : Hid (∀ wa u m, Ex w wa → IntsAt wa u m → m.length * 8 ≤ 140737488355328 → Calls Try.prog 17 #[.agg #[.int .i64 n, lv], u] wa (TermRet wa ((probeT n ll m).getD []) (probeT n ll m).isSome)) := fun wa u m hw h hb => probeProbe_any n _ _ ll m wa (hR.ex hw) h hb
  have HTe : Hid (∀ wa u m, IntsAt wa u m → m.length * 8 ≤ 140737488355328 → Calls Try.prog 18 #[u, .int .i64 n] wa (TermRet wa (termL m n) (termB m n))) := fun wa u m h hb => litTerm_any _ m n wa h hb
  have HWi : Hid (∀ (wa : World) (u v : Value) (a b : List Int), IntsAt wa u a → IntsAt wa v b → a.all (b.contains ·) = true → Calls Try.prog 31 #[u, v] wa fun e w' => e = .returned (.bool true) ∧ wa = w') := fun wa u v a b h k e => by
    have := within15_any u v a b wa h k
    rwa [e] at this
  have HLw : Hid (∀ m, probeT n ll (l ++ [x]) = some m → ∃ r, probeT n ll l = some r ∧ r.all (m.contains ·) = true) := fun m h => more15 h
  have hl0 := hl
  obtain ⟨ra, rcap, rfl, r1, r2, r3⟩ := hR
  obtain ⟨pa, pcap, rfl, p1, p2, p3⟩ := hl
  unfold maxLen at p2
  clear r3 p3
  have oT := OwnB.new w [.int .i64 n, .slice ra ll.length rcap] 24
  have hxa := Ex.alloc w (.cells #[.int .i64 n, .slice ra ll.length rcap] 24)
  go_enter Try.func9, Try.ntmps9
  go_wp2_with fail
  generalize w.alloc (.cells #[.int .i64 n, .slice ra ll.length rcap] 24) = wa at *
  refine (HSm.out _ hxa).mono ?_
  rintro e w2 ⟨b, rfl, hb, hx2⟩
  replace hxa := hxa.trans hx2
  replace oT := oT.ex hx2
  clear hx2 HSm hb
  cases b with
  | false =>
    go_wp2_with (refine (works15_any _).mono ?_; rintro e w' ⟨rfl, hx⟩)
    go_ret
    exact ⟨rfl, hxa.trans hx⟩
  | true =>
  by_cases hlen : 100 < l.length
  · go_wp2_with (refine (works15_any _).mono ?_; rintro e w' ⟨rfl, hx⟩)
    go_ret
    exact ⟨rfl, hxa.trans hx⟩
  have hI0 := hl0.ex (hxa.alloc' (.cells #[] 3))
  go_wp2_with (at_builtin; refine wpList_append_ints rfl (.tmp 23) (.tmp 24) rfl rfl rfl (OwnI.empty' (base := w2.heap.size) rfl (Nat.le_refl _)) hI0 ?c1 ?c2 ?_)
  case c1 => simp; omega
  case c2 => simp
  intro v3 w3 hown3 hg3
  have hx3 : Ex w2 w3 := grown_ex (Ex.alloc _ _) hg3 (by intro k hk; cases hk; exact Nat.le_refl _)
  have hO3 : OwnI w3 w2.heap.size v3 l := hown3
  have hIx := intsAt_fresh w3 x 3
  have hs3 := hx3.size
  clear hown3 hg3 hI0
  go_wp2_with (at_builtin; refine wpList_append_ints rfl (.tmp 25) (.tmp 27) rfl rfl rfl (hO3.ex (Ex.alloc _ _)) hIx ?c1 ?c2 ?_)
  case c1 => simp only [List.length_cons, List.length_nil]; omega
  case c2 => rw [alloc_size]; omega
  intro v4 w4 hown4 hg4
  have hx4 : Ex w2 w4 := grown_ex (hx3.alloc' _) hg4 (ownsRow_block hO3)
  have hO4 : OwnI w4 w2.heap.size v4 (l ++ [x]) := hown4
  have hI4 := hO4.ints
  obtain ⟨p4, q4, rfl, _, _, _⟩ := hI4
  have hI4 := hO4.ints
  have hml : (l ++ [x]).length * 8 ≤ 140737488355328 := by simp; omega
  clear hown4 hg4 hIx hO4 hO3 hx3 hs3
  have c0 := (oT.ex hx4).cell 0
  have c1 := (oT.ex hx4).cell 1
  have z0 := (oT.ex hx4).lt
  have HM1 : Hid _ := HTe.out w4 _ _ hI4 hml
  generalize l ++ [x] = M at *
  go_wp2_with fail
  refine Calls.mono HM1.out ?_
  rintro e w5 ⟨v5, rfl, ho5, hx5⟩
  have hI5 := ho5.ints
  obtain ⟨p5, q5, rfl, _, _, _⟩ := hI5
  clear ho5 c0 c1 z0 HM1 HTe
  have hx25 := hx4.trans hx5
  replace hI4 := hI4.ex hx5
  have c0 := (oT.ex hx25).cell 0
  have c1 := (oT.ex hx25).cell 1
  have z0 := (oT.ex hx25).lt
  cases htb : termB M n with
  | false =>
    go_wp2_with (refine (works15_any _).mono ?_; rintro e w' ⟨rfl, hx⟩)
    go_ret
    exact ⟨rfl, (hxa.trans hx25).trans hx⟩
  | true =>
    have HP1 : Hid _ := HPr.out w5 _ l (hxa.trans hx25) (hl0.ex (hxa.trans hx25)) (by omega)
    have HP2 : Hid (∀ wb, Ex w5 wb → Calls Try.prog 17 #[.agg #[.int .i64 n, .slice ra ll.length rcap], .slice p4 M.length q4] wb (TermRet wb ((probeT n ll M).getD []) (probeT n ll M).isSome)) := fun wb h => HPr.out wb _ M ((hxa.trans hx25).trans h) (hI4.ex h) hml
    clear HPr hI4 htb
    generalize probeT n ll M = PM at *
    generalize probeT n ll l = PL at *
    go_wp2_with fail
    refine Calls.mono HP1.out ?_
    rintro e w6 ⟨v6, rfl, ho6, hx6⟩
    have hI6 := ho6.ints
    obtain ⟨p6, q6, rfl, _, _, _⟩ := hI6
    have hI6 := ho6.ints
    clear ho6 c0 c1 z0 HP1
    have hx26 := hx25.trans hx6
    have c0 := (oT.ex hx26).cell 0
    have c1 := (oT.ex hx26).cell 1
    have z0 := (oT.ex hx26).lt
    go_wp2_with fail
    refine (HP2.out _ hx6).mono ?_
    rintro e w7 ⟨v7, rfl, ho7, hx7⟩
    have hI7 := ho7.ints
    obtain ⟨p7, q7, rfl, _, _, _⟩ := hI7
    have hI7 := ho7.ints
    replace hI6 := hI6.ex hx7
    have hx27 := hx26.trans hx7
    clear ho7 c0 c1 z0 HP2
    cases PM with
    | none =>
      clear HLw HWi hI6 hI7
      have hs0 : ((none : Option (List Int)).isSome) = false := rfl
      go_wp2_with (refine (works15_any _).mono ?_; rintro e w' ⟨rfl, hx⟩)
      go_ret
      exact ⟨rfl, (hxa.trans hx27).trans hx⟩
    | some m =>
      obtain ⟨r, hr, hall⟩ := HLw.out m rfl
      subst hr
      have H1 : Hid _ := hall
      have hJ6 : IntsAt w7 (.slice p6 r.length q6) r := hI6
      have hJ7 : IntsAt w7 (.slice p7 m.length q7) m := hI7
      have hgd : ((some r).getD []).length = r.length := rfl
      have hgs : (some r).isSome = true := rfl
      have hgd2 : ((some m).getD []).length = m.length := rfl
      have hgs2 : (some m).isSome = true := rfl
      clear HLw hall hI6 hI7
      go_wp2_with fail
      refine (HWi.out _ _ _ _ _ hJ6 hJ7 H1.out).mono ?_
      rintro e w8 ⟨rfl, rfl⟩
      go_wp2_with (refine (works15_any _).mono ?_; rintro e w' ⟨rfl, hx⟩)
      go_ret
      exact ⟨rfl, (hxa.trans hx27).trans hx⟩
end Go.Proofs.Ytnhlfhoeglnajaa
