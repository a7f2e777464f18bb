/- SearchMore: the walk. Conditions: the table of TrailingZeros64; lists of at most 1048576 elements. -/
import Derived.Test.YtagohmpbbbkdjaaDoorLaw14l
import Derived.Test.YtagohmpbbbkdjaaDoorRowsV
import Derived.Deep.RegionHeld3
import Derived.Deep.DeepCutAuto
namespace Go.Proofs.YtagohmpbbbkdjaaDoor
set_option linter.unusedSimpArgs false
set_option linter.unusedVariables false
open Go.RowKit
set_option maxRecDepth 20000
/-- What is known of the three least models. -/
theorem more_facts {N : Nat} {ll : List (List Int)} {c l m : List Int} (hn : N ≤ 128) (he : theoryErr N ll = 0) :
    ((least N (ll ++ [c]) l).isSome = false ∧ (least N (ll ++ [c]) (l ++ m)).isSome = false) ∨
    ((least N ll l).isSome = true ∧ (least N (ll ++ [c]) l).isSome = true ∧
      (((least N ll l).getD (0, 0)).1 < 2 ^ 64 ∧ ((least N ll l).getD (0, 0)).2 < 2 ^ 64 ∧ ((least N (ll ++ [c]) l).getD (0, 0)).1 < 2 ^ 64 ∧ ((least N (ll ++ [c]) l).getD (0, 0)).2 < 2 ^ 64 ∧ ((least N (ll ++ [c]) (l ++ m)).getD (0, 0)).1 < 2 ^ 64 ∧ ((least N (ll ++ [c]) (l ++ m)).getD (0, 0)).2 < 2 ^ 64) ∧
      lessB ((least N (ll ++ [c]) l).getD (0, 0)).1 ((least N (ll ++ [c]) l).getD (0, 0)).2 ((least N ll l).getD (0, 0)).1 ((least N ll l).getD (0, 0)).2 = false ∧
      ((least N (ll ++ [c]) (l ++ m)).isSome = true → lessB ((least N (ll ++ [c]) (l ++ m)).getD (0, 0)).1 ((least N (ll ++ [c]) (l ++ m)).getD (0, 0)).2 ((least N (ll ++ [c]) l).getD (0, 0)).1 ((least N (ll ++ [c]) l).getD (0, 0)).2 = false)) := by
  cases hb : least N (ll ++ [c]) l with
  | none =>
    refine .inl ⟨rfl, ?_⟩
    cases hc : least N (ll ++ [c]) (l ++ m) with
    | none => rfl
    | some s =>
      obtain ⟨t, ht, _⟩ := more_assume hn hc
      rw [hb] at ht
      cases ht
  | some b =>
    obtain ⟨a, ha, h1⟩ := more_clause hn he hb
    rw [ha]
    have la := least_lt hn ha
    have lb := least_lt hn hb
    refine .inr ⟨rfl, rfl, ⟨la.1, la.2, lb.1, lb.2, ?_⟩, h1, fun hs => ?_⟩
    · cases hc : least N (ll ++ [c]) (l ++ m) with
      | none => exact ⟨by decide, by decide⟩
      | some s => exact least_lt hn hc
    · cases hc : least N (ll ++ [c]) (l ++ m) with
      | none => rw [hc] at hs; cases hs
      | some s =>
        obtain ⟨t, ht, h2⟩ := more_assume hn hc
        rw [hb] at ht
        cases ht
        exact h2
set_option maxRecDepth 100000 in
set_option maxHeartbeats 8000000 in
theorem SearchMore_any (n : Int) (lv cv av mv : Value) (ll : List (List Int)) (c l m : List Int) (w : World) (hR : RowsAt w lv ll) (hc : IntsAt w cv c) (hl : IntsAt w av l) (hm : IntsAt w mv m) (b1 : ll.length ≤ 1048576) (b2 : l.length ≤ 1048576) (b3 : m.length ≤ 1048576) (hT : Tab w) :
    Calls Tryd.prog 3 #[.agg #[.int .i64 n, lv], cv, av, mv] w fun e w' => e = .returned (.bool true) ∧ Ex w w' := by
  have HFt : Hid (∀ wa u q, Ex w wa → IntsAt wa u q → Calls Tryd.prog 5 #[.agg #[.int .i64 n, lv], u] wa (Yes wa (FewOk n ll q))) := fun wa u q h hu => few14_any n lv u ll q wa (hR.ex h) hu
  have HFu : Hid (∀ (wa : World) lv2 u q, RowsAt wa lv2 (ll ++ [c]) → IntsAt wa u q → Calls Tryd.prog 5 #[.agg #[.int .i64 n, lv2], u] wa (Yes wa (FewOk n (ll ++ [c]) q))) := fun wa lv2 u q h hu => few14_any n lv2 u (ll ++ [c]) q wa h hu
  have HSo : Hid (∀ (N : Nat), n = N → searchErr N ll l = 0 → ∀ wa, Ex w wa → Calls Tryd.prog 7 #[.agg #[.int .i64 N, lv], av] wa fun e w' => e = .returned (.tuple #[.agg #[.int .u64 ((least N ll l).getD (0, 0)).1, .int .u64 ((least N ll l).getD (0, 0)).2], .bool (least N ll l).isSome, .int .i64 0]) ∧ Ex wa w') := fun N _ hs wa h => Solve_ok N lv av ll l wa (hR.ex h) (hl.ex h) hs
  have HSu : Hid (∀ (N : Nat) lv2 u q, searchErr N (ll ++ [c]) q = 0 → ∀ wa : World, RowsAt wa lv2 (ll ++ [c]) → IntsAt wa u q → Calls Tryd.prog 7 #[.agg #[.int .i64 N, lv2], u] wa fun e w' => e = .returned (.tuple #[.agg #[.int .u64 ((least N (ll ++ [c]) q).getD (0, 0)).1, .int .u64 ((least N (ll ++ [c]) q).getD (0, 0)).2], .bool (least N (ll ++ [c]) q).isSome, .int .i64 0]) ∧ Ex wa w') := fun N lv2 u q hs wa h hu => Solve_ok N lv2 u (ll ++ [c]) q wa h hu hs
  have HLe : Hid (∀ (X Y U V : Nat), X < 2 ^ 64 → Y < 2 ^ 64 → U < 2 ^ 64 → V < 2 ^ 64 → ∀ wa, Ex w wa → Calls Tryd.prog 8 #[.agg #[.int .u64 X, .int .u64 Y], .agg #[.int .u64 U, .int .u64 V]] wa fun e w' => e = .returned (.bool (lessB X Y U V)) ∧ Ex wa w') := fun X Y U V h1 h2 h3 h4 wa h => varsLess_any X Y U V h1 h2 h3 h4 wa (hT.ex h)
  obtain ⟨vs, hvs, hrs⟩ := rowsOf_vals hR
  have HV : Hid (ValsAt w lv vs ∧ RowsOf w vs ll) := ⟨hvs, hrs⟩
  have hvl : vs.length = ll.length := hrs.1
  have hone1 : Hid (∀ u ∈ vs, u.oneCell' = true) := hrs.2.1
  have HI : Hid (IntsAt w cv c ∧ IntsAt w av l ∧ IntsAt w mv m) := ⟨hc, hl, hm⟩
  obtain ⟨ra, rcap, rfl, r1, r2, r3⟩ := hR
  obtain ⟨pa, pcap, rfl, p1, p2, p3⟩ := hc
  obtain ⟨qa, qcap, rfl, q1, q2, q3⟩ := hl
  obtain ⟨sa, scap, rfl, s1, s2, s3⟩ := hm
  unfold maxLen at r2 p2 q2 s2
  clear r3 p3 q3 s3 hT hvs hrs
  have oT := OwnB.new w [.int .i64 n, .slice ra ll.length rcap] 24
  have hxa := Ex.alloc w (.cells #[.int .i64 n, .slice ra ll.length rcap] 24)
  go_enter Tryd.func3, Tryd.ntmps3
  go_upto_region 1 with fail
  generalize w.alloc (.cells #[.int .i64 n, .slice ra ll.length rcap] 24) = w1 at *
  have c0 : w1.cell? ⟨w.heap.size, 0, none⟩ = some (.int .i64 n) := oT.cell 0
  have c1 : w1.cell? ⟨w.heap.size, 1, none⟩ = some (.slice ra ll.length rcap) := oT.cell 1
  have z0 := oT.lt
  have hb1 : ([] : List Value).length + vs.length ≤ 5000000 := by rw [hvl]; simp only [List.length_nil]; omega
  have hb2 : ([] ++ vs : List Value).length + [Value.slice pa c.length pcap].length ≤ 5000000 := by rw [List.nil_append, hvl]; simp only [List.length_cons, List.length_nil]; omega
  have HV1 : Hid (ValsAt w1 (.slice ra ll.length rcap) vs) := by show ValsAt _ _ _; exact HV.out.1.ex hxa
  go_cut [9] (fun s9 wx => ∃ (UB : Nat) (v4 : Value), s9 = .pointer (some ⟨UB, 0, none⟩) ∧ Ex w1 wx ∧ w1.heap.size ≤ UB ∧ OwnB wx UB [.int .i64 n, v4] 24 ∧ ValsAt wx v4 ([] ++ vs ++ [.slice pa c.length pcap]))
  case first =>
    go_region_held3 (fun w' => w'.cell? ⟨w.heap.size, 0, none⟩ = some (.int .i64 n) ∧ w'.cell? ⟨w.heap.size, 1, none⟩ = some (.slice ra ll.length rcap)) (first | exact ⟨c0, c1⟩ | exact ⟨c03, c13⟩ | exact ⟨c04, c14⟩ | exact ⟨(((oT4.set_other 0 _ hneU).set_other 1 _ hneU).cell 0), (((oT4.set_other 0 _ hneU).set_other 1 _ hneU).cell 1)⟩ | exact ⟨oT5.cell 0, oT5.cell 1⟩ | exact ⟨(((oT5.set_other 0 _ hneV).set_other 1 _ hneV).cell 0), (((oT5.set_other 0 _ hneV).set_other 1 _ hneV).cell 1)⟩ | (refine ⟨ex_cell c04 ?_, ex_cell c14 ?_⟩ <;> (repeat (first | exact Ex.refl _ | refine Ex.alloc' ?_ _ | refine Ex.drew ?_))) | (refine ⟨ex_cell c03 ?_, ex_cell c13 ?_⟩ <;> (repeat (first | exact Ex.refl _ | refine Ex.alloc' ?_ _ | refine Ex.drew ?_))) | (refine ⟨ex_cell c0 ?_, ex_cell c1 ?_⟩ <;> (repeat (first | exact Ex.refl _ | refine Ex.alloc' ?_ _ | refine Ex.drew ?_))) | go_keep)
      (first | (refine step_append_vals (base := w1.heap.size) (by rfl) (.tmp 22) (.tmp 24) (by rfl) (by rfl) (by rfl) (OwnR.of_empty ?_ ?_) (HV1.out.ex ?_) hone1.out hb1 ?_ ?_; (· (repeat (first | (refine OwnB.new' ?_ [] 25; first | rfl | (simp only [World.size_alloc]; done)) | refine OwnB.ex ?_ (Ex.alloc _ _) | refine OwnB.ex ?_ ((Ex.refl _).drew)))); (· omega); (· (repeat (first | exact Ex.refl _ | refine Ex.alloc' ?_ _ | refine Ex.drew ?_))); (· first | omega | (simp only [World.size_alloc, World.drew]; done) | (simp only [World.size_alloc, World.drew]; omega)); intro v3 w3 hown3 hg3; have hx3 : Ex w1 w3 := grown_ex (by repeat (first | exact Ex.refl _ | refine Ex.alloc' ?_ _ | refine Ex.drew ?_)) hg3 (by intro k hk; simp only [Value.ownBlock, Option.some.injEq] at hk; omega); (try (first | (refine with_grown (b := w1.heap.size) (cs := [.slice pa c.length pcap]) (t := 25) hg3 ?_ ?_ (fun oB3 => ?_); (· (repeat (first | (refine OwnB.new' ?_ [.slice pa c.length pcap] 25; first | rfl | (simp only [World.size_alloc]; done)) | refine OwnB.ex ?_ (Ex.alloc _ _) | refine OwnB.ex ?_ ((Ex.refl _).drew)))); (· (intro e; simp only [Value.ownBlock, Option.some.injEq] at e; omega))) | (refine with_grown (b := (w1.heap.size + 1)) (cs := [.slice pa c.length pcap]) (t := 25) hg3 ?_ ?_ (fun oB3 => ?_); (· (repeat (first | (refine OwnB.new' ?_ [.slice pa c.length pcap] 25; first | rfl | (simp only [World.size_alloc]; done)) | refine OwnB.ex ?_ (Ex.alloc _ _) | refine OwnB.ex ?_ ((Ex.refl _).drew)))); (· (intro e; simp only [Value.ownBlock, Option.some.injEq] at e; omega))) | (refine with_grown (b := (w1.heap.size + 1 + 1)) (cs := [.slice pa c.length pcap]) (t := 25) hg3 ?_ ?_ (fun oB3 => ?_); (· (repeat (first | (refine OwnB.new' ?_ [.slice pa c.length pcap] 25; first | rfl | (simp only [World.size_alloc]; done)) | refine OwnB.ex ?_ (Ex.alloc _ _) | refine OwnB.ex ?_ ((Ex.refl _).drew)))); (· (intro e; simp only [Value.ownBlock, Option.some.injEq] at e; omega))))); (try (first | (refine with_grown (b := w1.heap.size) (cs := [.int .i64 0, .slice none 0 0]) (t := 24) hg3 ?_ ?_ (fun oU3 => ?_); (· (repeat (first | (refine OwnB.new' ?_ [.int .i64 0, .slice none 0 0] 24; first | rfl | (simp only [World.size_alloc]; done)) | refine OwnB.ex ?_ (Ex.alloc _ _) | refine OwnB.ex ?_ ((Ex.refl _).drew)))); (· (intro e; simp only [Value.ownBlock, Option.some.injEq] at e; omega)); have hneU3 : w1.heap.size ≠ w.heap.size := (by omega); have hleU3 : w1.heap.size ≤ w1.heap.size := (by omega)) | (refine with_grown (b := (w1.heap.size + 1)) (cs := [.int .i64 0, .slice none 0 0]) (t := 24) hg3 ?_ ?_ (fun oU3 => ?_); (· (repeat (first | (refine OwnB.new' ?_ [.int .i64 0, .slice none 0 0] 24; first | rfl | (simp only [World.size_alloc]; done)) | refine OwnB.ex ?_ (Ex.alloc _ _) | refine OwnB.ex ?_ ((Ex.refl _).drew)))); (· (intro e; simp only [Value.ownBlock, Option.some.injEq] at e; omega)); have hneU3 : (w1.heap.size + 1) ≠ w.heap.size := (by omega); have hleU3 : w1.heap.size ≤ (w1.heap.size + 1) := (by omega)) | (refine with_grown (b := (w1.heap.size + 1 + 1)) (cs := [.int .i64 0, .slice none 0 0]) (t := 24) hg3 ?_ ?_ (fun oU3 => ?_); (· (repeat (first | (refine OwnB.new' ?_ [.int .i64 0, .slice none 0 0] 24; first | rfl | (simp only [World.size_alloc]; done)) | refine OwnB.ex ?_ (Ex.alloc _ _) | refine OwnB.ex ?_ ((Ex.refl _).drew)))); (· (intro e; simp only [Value.ownBlock, Option.some.injEq] at e; omega)); have hneU3 : (w1.heap.size + 1 + 1) ≠ w.heap.size := (by omega); have hleU3 : w1.heap.size ≤ (w1.heap.size + 1 + 1) := (by omega)))); have c03 := ex_cell c0 hx3; have c13 := ex_cell c1 hx3; obtain ⟨a3, l3, q3, rfl⟩ := ownR_shape hown3) | (refine step_append_vals (base := w1.heap.size) (by rfl) (.tmp 25) (.tmp 27) (by rfl) (by rfl) (by rfl) (OwnR.ex hown3 ?_) (ValsAt.of_block (u := .slice pa c.length pcap) (t := 25) ?_) (by intro u hu; rw [List.mem_singleton] at hu; rw [hu]; rfl) hb2 ?_ ?_; (· (repeat (first | exact Ex.refl _ | refine Ex.alloc' ?_ _ | refine Ex.drew ?_))); (· (repeat (first | exact oB3 | (refine OwnB.new' ?_ [.slice pa c.length pcap] 25; first | rfl | (simp only [World.size_alloc]; done)) | refine OwnB.ex ?_ (Ex.alloc _ _) | refine OwnB.ex ?_ ((Ex.refl _).drew)))); (· have := hx3.size; first | omega | (simp only [World.size_alloc, World.drew]; done) | (simp only [World.size_alloc, World.drew]; omega)); intro v4 w4 hown4 hg4; have hx4 : Ex w1 w4 := grown_ex (hx3.trans (by repeat (first | exact Ex.refl _ | refine Ex.alloc' ?_ _ | refine Ex.drew ?_))) hg4 (ownsRow_block hown3); have c04 := ex_cell c0 hx4; have c14 := ex_cell c1 hx4; have oT4 := oT.ex hx4; (first | (refine with_beside hg4 (OwnR.ex hown3 ?_) (OwnB.ex oU3 ?_) (by decide) (fun oU4 => ?_); (· (repeat (first | exact Ex.refl _ | refine Ex.alloc' ?_ _ | refine Ex.drew ?_))); (· (repeat (first | exact Ex.refl _ | refine Ex.alloc' ?_ _ | refine Ex.drew ?_))); have hneU := hneU3; have hleU := hleU3; have u04 := oU4.cell 0; have u14 := oU4.cell 1; have k04 := oU4.free 0; have k14 := oU4.free 1; have zU4 := oU4.lt) | (refine with_beside (b := w3.heap.size) (cs := [.int .i64 0, .slice none 0 0]) (t := 24) hg4 (OwnR.ex hown3 ?_) ?_ (by decide) (fun oU4 => ?_); (· (repeat (first | exact Ex.refl _ | refine Ex.alloc' ?_ _ | refine Ex.drew ?_))); (· (repeat (first | (refine OwnB.new' ?_ [.int .i64 0, .slice none 0 0] 24; first | rfl | (simp only [World.size_alloc]; done)) | refine OwnB.ex ?_ (Ex.alloc _ _) | refine OwnB.ex ?_ ((Ex.refl _).drew)))); have hneU : w3.heap.size ≠ w.heap.size := (by have := hx3.size; omega); have hleU : w1.heap.size ≤ w3.heap.size := hx3.size; have u04 := oU4.cell 0; have u14 := oU4.cell 1; have k04 := oU4.free 0; have k14 := oU4.free 1; have zU4 := oU4.lt) | (refine with_beside (b := w3.heap.size + 1) (cs := [.int .i64 0, .slice none 0 0]) (t := 24) hg4 (OwnR.ex hown3 ?_) ?_ (by decide) (fun oU4 => ?_); (· (repeat (first | exact Ex.refl _ | refine Ex.alloc' ?_ _ | refine Ex.drew ?_))); (· (repeat (first | (refine OwnB.new' ?_ [.int .i64 0, .slice none 0 0] 24; first | rfl | (simp only [World.size_alloc]; done)) | refine OwnB.ex ?_ (Ex.alloc _ _) | refine OwnB.ex ?_ ((Ex.refl _).drew)))); have hneU : w3.heap.size + 1 ≠ w.heap.size := (by have := hx3.size; omega); have hleU : w1.heap.size ≤ w3.heap.size + 1 := (by have := hx3.size; omega); have u04 := oU4.cell 0; have u14 := oU4.cell 1; have k04 := oU4.free 0; have k14 := oU4.free 1; have zU4 := oU4.lt) | (have hneV : w4.heap.size ≠ w.heap.size := (by have := hx4.size; omega); have hleV : w1.heap.size ≤ w4.heap.size := hx4.size; have oT5 := oT4.ex (Ex.alloc w4 (.cells #[.int .i64 0, .slice none 0 0] 24)))); obtain ⟨a4, l4, q4, rfl⟩ := ownR_shape hown4) | fail)
    all_goals (go_wp2_with fail)
    all_goals go_meet
    all_goals first
      | exact ⟨_, _, rfl, hx4.alloc' _, hleV, OwnB.new w4 [.int .i64 n, .slice a4 l4 q4] _, hown4.vals.ex (Ex.alloc w4 _)⟩
      | exact ⟨_, _, rfl, (hx4.setCell hleU _).setCell hleU _, hleU, (oU4.set 0 _).set 1 _, ((hown4.setOtherT oU4 (by decide) 0 _).setOtherT (oU4.set 0 _) (by decide) 1 _).vals⟩
      | exact ⟨_, _, rfl, ((hx4.alloc' _).setCell hleV _).setCell hleV _, hleV, ((OwnB.new w4 [.int .i64 0, .slice none 0 0] 24).set 0 _).set 1 _, hown4.vals.ex (((Ex.alloc w4 _).setCell (Nat.le_refl _) _).setCell (Nat.le_refl _) _)⟩
  case rest =>
    obtain ⟨UB, v4, rfl, hx14, hUB, oU, hV4⟩ := hcut
    have hxw : Ex w wc := hxa.trans hx14
    have hRu : RowsAt wc v4 (ll ++ [c]) := by
      have h1 : RowsOf wc vs ll := HV.out.2.ex hxw
      have h2 : RowsOf wc [.slice pa c.length pcap] [c] := ⟨rfl, (fun u hu => by rw [List.mem_singleton] at hu; rw [hu]; rfl), fun k hk => by
        have hk0 : k = 0 := by simp at hk; omega
        subst hk0
        exact HI.out.1.ex hxw⟩
      exact vals_rowsOf hV4 (by rw [List.nil_append]; exact h1.append h2)
    obtain ⟨ua, ucap, rfl, _, _, _⟩ := id hRu
    have hlu : (ll ++ [c]).length = ll.length + 1 := by rw [List.length_append]; rfl
    have HRu : Hid (RowsAt wc (.slice ua (ll.length + 1) ucap) (ll ++ [c])) := by
      show RowsAt _ _ _
      rw [hlu] at hRu
      exact hRu
    rw [hlu] at oU
    clear hlu
    have oT2 := oT.ex hx14
    have hIl := HI.out.2.1.ex (hxw.alloc' (.cells #[] 3))
    clear hRu hV4 HV HV1 hone1 hb1 hb2 c0 c1 z0 oT hx14 hvl
    go_wp2_with (at_builtin; refine wpList_append_ints rfl (.tmp 30) (.tmp 31) rfl rfl rfl (OwnI.empty (Nat.le_refl _)) hIl ?c1 ?c2 ?_)
    case c1 => first | omega | (simp only [List.length_nil]; omega)
    case c2 => first | exact Nat.le_succ _ | (simp only [World.size_alloc]; omega)
    intro v9 w9 hown9 hg9
    try rw [List.nil_append] at hown9
    have hx9 : Ex wc w9 := grown_ex (Ex.alloc _ _) hg9 (by intro k hk; cases hk; exact Nat.le_refl _)
    have hIm := HI.out.2.2.ex (hxw.trans hx9)
    obtain ⟨a9, q9, rfl, _, _, _⟩ := id hown9.ints
    clear hg9 hIl
    go_wp2_with (at_builtin; refine wpList_append_ints rfl (.tmp 32) (.tmp 33) rfl rfl rfl hown9 hIm ?c3 ?c4 ?_)
    case c3 => omega
    case c4 => exact hx9.size
    intro v10 w10 hown10 hg10
    have hx10 : Ex wc w10 := grown_ex hx9 hg10 (ownsRow_block hown9)
    have hIa : IntsAt w10 v10 (l ++ m) := hown10.ints
    obtain ⟨a10, q10, rfl, _, _, _⟩ := id hIa
    have HIa : Hid (IntsAt w10 (.slice a10 (l.length + m.length) q10) (l ++ m)) := by
      show IntsAt _ _ _
      rw [List.length_append] at hIa
      exact hIa
    have oT3 := oT2.ex hx10
    have oU3 := oU.ex hx10
    clear hown10 hg10 hown9 hIm hx9 hIa oT2 oU
    have hx10w := hxw.trans hx10
    have c0 := oT3.cell 0
    have c1 := oT3.cell 1
    have z0 := oT3.lt
    go_wp2_with fail
    refine Calls.mono (HFt.out _ _ _ hx10w HIa.out) ?_
    rintro e w11 ⟨b, rfl, hb, hx11⟩
    clear HFt c0 c1 z0
    cases b with
    | false =>
      clear hb HFu HSo HSu HLe
      go_wp2_with fail
      refine Calls.mono (works14_any _) ?_
      rintro e w' ⟨rfl, hx⟩
      go_wp2
      go_ret
      exact ⟨rfl, (hx10w.trans hx11).trans hx⟩
    | true =>
    obtain ⟨_, h16, he, hv⟩ := hb rfl
    have u0 := (oU3.ex hx11).cell 0
    have u1 := (oU3.ex hx11).cell 1
    have zu := (oU3.ex hx11).lt
    have hFu := HFu.out w11 _ _ _ (HRu.out.ex (hx10.trans hx11)) (HIa.out.ex hx11)
    have HFu2 : Hid _ := hFu
    clear HFu hFu
    go_wp2_with fail
    refine Calls.mono HFu2.out ?_
    rintro e w12 ⟨b, rfl, hb2, hx12⟩
    clear HFu2 u0 u1 zu hb
    have hx12a := hx11.trans hx12
    cases b with
    | false =>
      clear hb2 HSo HSu HLe
      go_wp2_with fail
      refine Calls.mono (works14_any _) ?_
      rintro e w' ⟨rfl, hx⟩
      go_wp2
      go_ret
      exact ⟨rfl, (hx10w.trans hx12a).trans hx⟩
    | true =>
    obtain ⟨_, _, heu, _⟩ := hb2 rfl
    have hn0 := (theoryErr_zero he).1
    obtain ⟨N, hN⟩ : ∃ N : Nat, N = n.toNat := ⟨_, rfl⟩
    have hnN : n = (N : Int) := by omega
    subst hnN
    have hN128 : N ≤ 128 := by omega
    have hF := more_facts (c := c) (l := l) (m := m) hN128 he
    have hvl : ∀ x ∈ l, litValid x N = true := fun x hx => hv x (List.mem_append.2 (.inl hx))
    have HA : Hid _ := HSo.out N rfl (searchErr_ok he hvl)
    have HB : Hid (∀ wa : World, Ex w12 wa → Calls Tryd.prog 7 #[.agg #[.int .i64 N, .slice ua (ll.length + 1) ucap], .slice qa l.length qcap] wa fun e w' => e = .returned (.tuple #[.agg #[.int .u64 ((least N (ll ++ [c]) l).getD (0, 0)).1, .int .u64 ((least N (ll ++ [c]) l).getD (0, 0)).2], .bool (least N (ll ++ [c]) l).isSome, .int .i64 0]) ∧ Ex wa w') := fun wa h => HSu.out N _ _ l (searchErr_ok heu hvl) wa (HRu.out.ex ((hx10.trans hx12a).trans h)) (HI.out.2.1.ex ((hx10w.trans hx12a).trans h))
    have HC : Hid (∀ wa : World, Ex w12 wa → Calls Tryd.prog 7 #[.agg #[.int .i64 N, .slice ua (ll.length + 1) ucap], .slice a10 (l.length + m.length) q10] wa fun e w' => e = .returned (.tuple #[.agg #[.int .u64 ((least N (ll ++ [c]) (l ++ m)).getD (0, 0)).1, .int .u64 ((least N (ll ++ [c]) (l ++ m)).getD (0, 0)).2], .bool (least N (ll ++ [c]) (l ++ m)).isSome, .int .i64 0]) ∧ Ex wa w') := fun wa h => HSu.out N _ _ (l ++ m) (searchErr_ok heu hv) wa (HRu.out.ex ((hx10.trans hx12a).trans h)) (HIa.out.ex (hx12a.trans h))
    clear HSo HSu he hv heu hvl hb2 hN HI
    generalize ((least N ll l).getD (0, 0)).1 = A1 at *
    generalize ((least N ll l).getD (0, 0)).2 = A2 at *
    generalize (least N ll l).isSome = okA at *
    generalize ((least N (ll ++ [c]) l).getD (0, 0)).1 = B1 at *
    generalize ((least N (ll ++ [c]) l).getD (0, 0)).2 = B2 at *
    generalize (least N (ll ++ [c]) l).isSome = okB at *
    generalize ((least N (ll ++ [c]) (l ++ m)).getD (0, 0)).1 = C1 at *
    generalize ((least N (ll ++ [c]) (l ++ m)).getD (0, 0)).2 = C2 at *
    generalize (least N (ll ++ [c]) (l ++ m)).isSome = okC at *
    have HF : Hid _ := hF
    clear hF HRu HIa
    have oT4 := oT3.ex hx12a
    have oU4 := oU3.ex hx12a
    have hx12w := hx10w.trans hx12a
    clear oT3 oU3
    have c0 := oT4.cell 0
    have c1 := oT4.cell 1
    have z0 := oT4.lt
    go_wp2_with fail
    refine Calls.mono (HA.out _ hx12w) ?_
    rintro e w13 ⟨rfl, hx13⟩
    clear c0 c1 z0 HA
    have oA := OwnB.new w13 [.int .u64 A1, .int .u64 A2] 30
    have hx13a := hx13.alloc' (.cells #[.int .u64 A1, .int .u64 A2] 30)
    have oU5 := oU4.ex hx13a
    have u0 := oU5.cell 0
    have u1 := oU5.cell 1
    have zu := oU5.lt
    have HB2 : Hid _ := HB.out _ hx13a
    clear HB oT4 oU4
    go_wp2_with fail
    generalize w13.alloc (.cells #[.int .u64 A1, .int .u64 A2] 30) = w14 at *
    generalize w13.heap.size = AB at *
    refine Calls.mono HB2.out ?_
    rintro e w15 ⟨rfl, hx15⟩
    clear u0 u1 zu HB2
    have oB := OwnB.new w15 [.int .u64 B1, .int .u64 B2] 30
    have hx15a := hx15.alloc' (.cells #[.int .u64 B1, .int .u64 B2] 30)
    have oU6 := oU5.ex hx15a
    have oA2 := oA.ex hx15a
    have u0 := oU6.cell 0
    have u1 := oU6.cell 1
    have zu := oU6.lt
    have HC2 : Hid _ := HC.out _ (hx13a.trans hx15a)
    clear HC oU5 oA
    go_wp2_with fail
    generalize w15.alloc (.cells #[.int .u64 B1, .int .u64 B2] 30) = w16 at *
    generalize w15.heap.size = BB at *
    refine Calls.mono HC2.out ?_
    rintro e w17 ⟨rfl, hx17⟩
    clear u0 u1 zu HC2 oU6
    have oC := OwnB.new w17 [.int .u64 C1, .int .u64 C2] 30
    have hx17a := hx17.alloc' (.cells #[.int .u64 C1, .int .u64 C2] 30)
    have oA3 := oA2.ex hx17a
    have oB2 := oB.ex hx17a
    have hx18 := hx12w.trans (hx13a.trans (hx15a.trans hx17a))
    clear oA2 oB
    rcases HF.out with ⟨h1, h2⟩ | ⟨h1, h2, ⟨l1, l2, l3, l4, l5, l6⟩, h3, h4⟩
    · subst h1 h2
      clear HF HLe
      go_wp2_with fail
      refine Calls.mono (works14_any _) ?_
      rintro e w' ⟨rfl, hx⟩
      go_wp2
      go_ret
      exact ⟨rfl, hx18.trans hx⟩
    · subst h1 h2
      have E1 : Hid _ := HLe.out B1 B2 A1 A2 l3 l4 l1 l2 _ hx18
      rw [h3] at E1
      have E2 : Hid _ := fun (wb : World) (h : Ex w wb) => HLe.out C1 C2 B1 B2 l5 l6 l3 l4 wb h
      have H4 : Hid _ := h4
      have d0 := oA3.cell 0
      have d1 := oA3.cell 1
      have zd := oA3.lt
      have g0 := oB2.cell 0
      have g1 := oB2.cell 1
      have zg := oB2.lt
      clear HF HLe h3 h4 l1 l2 l3 l4 l5 l6
      go_wp2_with fail
      refine Calls.mono E1.out ?_
      rintro e w19 ⟨rfl, hx19⟩
      clear d0 d1 zd g0 g1 zg E1
      cases okC with
      | false =>
        clear E2 H4
        go_wp2_with fail
        refine Calls.mono (works14_any _) ?_
        rintro e w' ⟨rfl, hx⟩
        go_wp2
        go_ret
        exact ⟨rfl, (hx18.trans hx19).trans hx⟩
      | true =>
        have e2 := E2.out w19 (hx18.trans hx19)
        rw [H4.out rfl] at e2
        have E3 : Hid _ := e2
        have g0 := (oB2.ex hx19).cell 0
        have g1 := (oB2.ex hx19).cell 1
        have zg := (oB2.ex hx19).lt
        have k0 := (oC.ex hx19).cell 0
        have k1 := (oC.ex hx19).cell 1
        have zk := (oC.ex hx19).lt
        clear E2 H4 e2
        go_wp2_with fail
        refine Calls.mono E3.out ?_
        rintro e w20 ⟨rfl, hx20⟩
        go_wp2_with fail
        refine Calls.mono (works14_any _) ?_
        rintro e w' ⟨rfl, hx⟩
        go_wp2
        go_ret
        exact ⟨rfl, ((hx18.trans hx19).trans hx20).trans hx⟩
end Go.Proofs.YtagohmpbbbkdjaaDoor
