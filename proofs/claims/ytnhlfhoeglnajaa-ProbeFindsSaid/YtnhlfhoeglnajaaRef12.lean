/- The reference of unit propagation: True, Open, False, Unit, first: what each call returns; the world stays, or old memory does. -/
import Derived.Test.YtnhlfhoeglnajaaStp
import Derived.Test.YtnhlfhoeglnajaaG2
namespace Go.Proofs.Ytnhlfhoeglnajaa
set_option linter.unusedSimpArgs false
set_option linter.unusedVariables false
open Go.RowKit
theorem openT_neg {tr : List St} {x : Int} (h : trueT tr (-x) = false) : openT tr x = !trueT tr x := by unfold openT; rw [h]; simp
set_option maxHeartbeats 1000000 in
theorem r12True_any (sv : Value) (tr : List St) (x : Int) (w : World) (hs : StepsAt w sv tr) :
    Calls Try.prog 109 #[sv, .int .i64 x] w fun e w' => e = .returned (.bool (trueT tr x)) ∧ w = w' := by
  obtain ⟨a, cap, rfl, h1, h2, h3⟩ := hs
  unfold maxLen at h2
  have H3 : Hid _ := h3
  have HY : Hid (∀ k, k < tr.length → (tr.getD k default).lit = x → trueT tr x = true) := fun k hk h => trueT_iff.2 ⟨_, by rw [getD_getElem hk]; exact List.getElem_mem hk, h⟩
  have HN : Hid ((∀ k, k < tr.length → ¬ (tr.getD k default).lit = x) → trueT tr x = false) := fun h => by
    rw [Bool.eq_false_iff]
    intro hc
    obtain ⟨s, hs, e⟩ := trueT_iff.1 hc
    obtain ⟨k, hk, rfl⟩ := List.getElem_of_mem hs
    exact h k hk (by rw [getD_getElem hk]; exact e)
  clear h3
  generalize trueT tr x = B at *
  go_enter Try.func109, Try.ntmps109
  go_wp2
  go_loop [5] (fun i => ∃ k : Nat, k ≤ tr.length ∧ i = .int .i64 k ∧ Hid (∀ j, j < k → ¬ (tr.getD j default).lit = x)) (fun i => tr.length - (intOf i).toNat)
  case atStart => exact ⟨0, Nat.zero_le _, rfl, fun j hj => (by omega)⟩
  case round =>
    obtain ⟨k, hk, rfl, hd⟩ := hrel
    by_cases hlt : k < tr.length
    · obtain ⟨b, off, rfl, hb, c0, _, _⟩ := H3.out k hlt
      by_cases he : (tr.getD k default).lit = x
      · have hB : Hid (B = true) := HY.out k hlt he
        have he' : ((tr.getD k default).lit == x) = true := by simp only [beq_iff_eq]; exact he
        clear hd he HY HN H3
        generalize (tr.getD k default).lit = y at *
        go_wp2
        go_ret
        exact ⟨ret_bool hB.out.symm, rfl⟩
      · have hd2 : Hid (∀ j, j < k + 1 → ¬ (tr.getD j default).lit = x) := fun j hj => by
          by_cases hjk : j = k
          · subst hjk; exact he
          · exact hd.out j (by omega)
        have he' : ((tr.getD k default).lit == x) = false := by simp only [beq_eq_false_iff_ne]; exact he
        clear hd he HY H3
        generalize (tr.getD k default).lit = y at *
        go_wp2
        go_round
        case rel => exact ⟨k + 1, by omega, by go_num, hd2⟩
        case measure => simp [intOf]; omega
    · have hB : Hid (B = false) := HN.out fun j hj => hd.out j (by omega)
      clear hd HY HN H3
      go_wp2
      go_ret
      exact ⟨ret_bool hB.out.symm, rfl⟩
set_option maxHeartbeats 1000000 in
theorem r12Open_any (sv : Value) (tr : List St) (x : Int) (w : World) (hx1 : -128 ≤ x) (hx2 : x ≤ 128) (hs : StepsAt w sv tr) :
    Calls Try.prog 110 #[sv, .int .i64 x] w fun e w' => e = .returned (.bool (openT tr x)) ∧ w = w' := by
  have H1 : Hid _ := r12True_any sv tr x w hs
  have H2 : Hid _ := r12True_any sv tr (-x) w hs
  have HO : Hid (openT tr x = (!trueT tr x && !trueT tr (-x))) := rfl
  obtain ⟨a, cap, rfl, _, _, _⟩ := hs
  generalize openT tr x = R at *
  generalize trueT tr x = A at *
  generalize trueT tr (-x) = B at *
  obtain rfl := HO.out
  clear HO
  cases A
  · go_enter Try.func110, Try.ntmps110
    go_wp2_with fail
    refine Calls.mono H1.out ?_
    rintro e w' ⟨rfl, rfl⟩
    go_wp2_with fail
    refine Calls.mono H2.out ?_
    rintro e w' ⟨rfl, rfl⟩
    go_wp2
    go_ret
    exact ⟨ret_bool (by cases B <;> rfl), rfl⟩
  · go_enter Try.func110, Try.ntmps110
    go_wp2_with fail
    refine Calls.mono H1.out ?_
    rintro e w' ⟨rfl, rfl⟩
    go_wp2
    go_ret
    exact ⟨rfl, rfl⟩
set_option maxHeartbeats 1000000 in
theorem r12False_any (sv cv : Value) (tr : List St) (c : List Int) (w : World) (hs : StepsAt w sv tr) (hc : IntsAt w cv c) (hl : ∀ x ∈ c, -128 ≤ x ∧ x ≤ 128) :
    Calls Try.prog 121 #[sv, cv] w fun e w' => e = .returned (.bool (falseT tr c)) ∧ w = w' := by
  have HQ : Hid (∀ x, Calls Try.prog 109 #[sv, .int .i64 x] w fun e w' => e = .returned (.bool (trueT tr x)) ∧ w = w') := fun x => r12True_any sv tr x w hs
  obtain ⟨a, cap, rfl, h1, h2, h3⟩ := hc
  obtain ⟨a', cap', rfl, _, _, _⟩ := hs
  unfold maxLen at h2
  have H3 : Hid _ := h3
  have HB : Hid (∀ k, k < c.length → -128 ≤ c.getD k 0 ∧ c.getD k 0 ≤ 128) := fun k hk => by rw [getD_getElem hk]; exact hl _ (List.getElem_mem hk)
  have HY : Hid (∀ k, k < c.length → trueT tr (-(c.getD k 0)) = false → falseT tr c = false) := fun k hk h => not_all_of_getD (p := fun y => trueT tr (-y)) hk h
  have HN : Hid ((∀ k, k < c.length → trueT tr (-(c.getD k 0)) = true) → falseT tr c = true) := fun h => all_of_getD (p := fun y => trueT tr (-y)) h
  clear h3 hl
  generalize falseT tr c = B at *
  go_enter Try.func121, Try.ntmps121
  go_wp2
  go_loop [5] (fun i => ∃ k : Nat, k ≤ c.length ∧ i = .int .i64 k ∧ Hid (∀ j, j < k → trueT tr (-(c.getD j 0)) = true)) (fun i => c.length - (intOf i).toNat)
  case atStart => exact ⟨0, Nat.zero_le _, rfl, fun j hj => (by omega)⟩
  case round =>
    obtain ⟨k, hk, rfl, hd⟩ := hrel
    by_cases hlt : k < c.length
    · obtain ⟨b, off, rfl, hb, hcell⟩ := H3.out k hlt
      obtain ⟨b1, b2⟩ := HB.out k hlt
      have hV := HQ.out (-(c.getD k 0))
      by_cases he : trueT tr (-(c.getD k 0)) = true
      · have hd2 : Hid (∀ j, j < k + 1 → trueT tr (-(c.getD j 0)) = true) := fun j hj => by
          by_cases hjk : j = k
          · subst hjk; exact he
          · exact hd.out j (by omega)
        rw [he] at hV
        have HV : Hid _ := hV
        clear hd he HY H3 hV HB
        generalize c.getD k 0 = y at *
        go_wp2_with fail
        refine Calls.mono HV.out ?_
        rintro e w' ⟨rfl, rfl⟩
        go_wp2
        go_round
        case rel => exact ⟨k + 1, by omega, by go_num, hd2⟩
        case measure => simp [intOf]; omega
      · have he' : trueT tr (-(c.getD k 0)) = false := by simpa using he
        have hB : Hid (B = false) := HY.out k hlt he'
        rw [he'] at hV
        have HV : Hid _ := hV
        clear hd he he' HY HN H3 hV HB
        generalize c.getD k 0 = y at *
        go_wp2_with fail
        refine Calls.mono HV.out ?_
        rintro e w' ⟨rfl, rfl⟩
        go_wp2
        go_ret
        exact ⟨ret_bool hB.out.symm, rfl⟩
    · have hB : Hid (B = true) := HN.out fun j hj => hd.out j (by omega)
      clear hd HY HN H3
      go_wp2
      go_ret
      exact ⟨ret_bool hB.out.symm, rfl⟩
set_option maxHeartbeats 2000000 in
theorem r12Unit_any (sv cv : Value) (tr : List St) (c : List Int) (w : World) (hs : StepsAt w sv tr) (hc : IntsAt w cv c) (hl : ∀ x ∈ c, -128 ≤ x ∧ x ≤ 128) :
    Calls Try.prog 122 #[sv, cv] w fun e w' => e = .returned (.int .i64 (unitT tr c)) ∧ w = w' := by
  have HT : Hid (∀ x, Calls Try.prog 109 #[sv, .int .i64 x] w fun e w' => e = .returned (.bool (trueT tr x)) ∧ w = w') := fun x => r12True_any sv tr x w hs
  have HO : Hid (∀ x, -128 ≤ x → x ≤ 128 → Calls Try.prog 110 #[sv, .int .i64 x] w fun e w' => e = .returned (.bool (openT tr x)) ∧ w = w') := fun x q1 q2 => r12Open_any sv tr x w q1 q2 hs
  obtain ⟨a, cap, rfl, h1, h2, h3⟩ := hc
  obtain ⟨a', cap', rfl, _, _, _⟩ := hs
  unfold maxLen at h2
  have H3 : Hid _ := h3
  have HB : Hid (∀ k, k < c.length → -128 ≤ c.getD k 0 ∧ c.getD k 0 ≤ 128) := fun k hk => by rw [getD_getElem hk]; exact hl _ (List.getElem_mem hk)
  have HR : Hid (∀ k x, k < c.length → unitF tr (c.drop k) x = if trueT tr (c.getD k 0) = true then 0 else if openT tr (c.getD k 0) = true then (if x ≠ 0 ∧ x ≠ c.getD k 0 then 0 else unitF tr (c.drop (k + 1)) (c.getD k 0)) else unitF tr (c.drop (k + 1)) x) := fun k x hk => by
    rw [List.drop_eq_getElem_cons hk, getD_getElem hk]; rfl
  have H0 : Hid (unitT tr c = unitF tr (c.drop 0) 0) := rfl
  clear h3 hl
  generalize unitT tr c = R at *
  go_enter Try.func122, Try.ntmps122
  go_wp2
  go_loop [5, 6] (fun xv i => ∃ (k : Nat) (x : Int), k ≤ c.length ∧ i = .int .i64 k ∧ xv = .int .i64 x ∧ Hid (R = unitF tr (c.drop k) x)) (fun _ i => c.length - (intOf i).toNat)
  case atStart => exact ⟨0, 0, Nat.zero_le _, rfl, rfl, H0⟩
  case round =>
    obtain ⟨k, x, hk, rfl, rfl, hd⟩ := hrel
    by_cases hlt : k < c.length
    · obtain ⟨b, off, rfl, hb, hcell⟩ := H3.out k hlt
      obtain ⟨b1, b2⟩ := HB.out k hlt
      have hV := HT.out (c.getD k 0)
      have hW := HO.out (c.getD k 0) b1 b2
      have hr := HR.out k x hlt
      rw [← hd.out] at hr
      have Hr : Hid _ := hr
      clear hr hd H3 HB HT HO HR H0
      generalize trueT tr (c.getD k 0) = T at *
      generalize openT tr (c.getD k 0) = O at *
      generalize c.getD k 0 = y at *
      have HV : Hid _ := hV
      have HW : Hid _ := hW
      clear hV hW
      cases T
      · cases O
        · have hn : Hid (R = unitF tr (c.drop (k + 1)) x) := Hr.out
          clear Hr
          go_wp2_with fail
          refine Calls.mono HV.out ?_
          rintro e w' ⟨rfl, rfl⟩
          go_wp2_with fail
          refine Calls.mono HW.out ?_
          rintro e w' ⟨rfl, rfl⟩
          go_wp2
          go_round
          case rel => exact ⟨k + 1, x, by omega, by go_num, rfl, hn⟩
          case measure => simp [intOf]; omega
        · by_cases hx0 : x = 0
          · have hn : Hid (R = unitF tr (c.drop (k + 1)) y) := by show _ = _; rw [Hr.out]; simp [hx0]
            have hb0 : (x != 0) = false := by simp [hx0]
            clear Hr hx0
            go_wp2_with fail
            refine Calls.mono HV.out ?_
            rintro e w' ⟨rfl, rfl⟩
            go_wp2_with fail
            refine Calls.mono HW.out ?_
            rintro e w' ⟨rfl, rfl⟩
            go_wp2
            go_round
            case rel => exact ⟨k + 1, y, by omega, by go_num, rfl, hn⟩
            case measure => simp [intOf]; omega
          · have hb0 : (x != 0) = true := by simp [hx0]
            by_cases hxy : x = y
            · have hn : Hid (R = unitF tr (c.drop (k + 1)) y) := by show _ = _; rw [Hr.out]; simp [hxy]
              have hb1 : (x != y) = false := by simp [hxy]
              clear Hr hx0 hxy
              go_wp2_with fail
              refine Calls.mono HV.out ?_
              rintro e w' ⟨rfl, rfl⟩
              go_wp2_with fail
              refine Calls.mono HW.out ?_
              rintro e w' ⟨rfl, rfl⟩
              go_wp2
              go_round
              case rel => exact ⟨k + 1, y, by omega, by go_num, rfl, hn⟩
              case measure => simp [intOf]; omega
            · have hn : Hid (R = 0) := by show _ = _; rw [Hr.out]; simp [hx0, hxy]
              have hb1 : (x != y) = true := by simp [hxy]
              clear Hr hx0 hxy
              go_wp2_with fail
              refine Calls.mono HV.out ?_
              rintro e w' ⟨rfl, rfl⟩
              go_wp2_with fail
              refine Calls.mono HW.out ?_
              rintro e w' ⟨rfl, rfl⟩
              go_wp2
              go_ret
              exact ⟨ret_int hn.out.symm, rfl⟩
      · have hn : Hid (R = 0) := Hr.out
        clear Hr
        go_wp2_with fail
        refine Calls.mono HV.out ?_
        rintro e w' ⟨rfl, rfl⟩
        go_wp2
        go_ret
        exact ⟨ret_int hn.out.symm, rfl⟩
    · have hn : Hid (R = x) := by show _ = _; rw [hd.out, List.drop_eq_nil_of_le (by omega)]; rfl
      clear hd
      go_wp2
      go_ret
      exact ⟨ret_int hn.out.symm, rfl⟩
def firstI (ll : List (List Int)) (tr : List St) : Int := match firstT ll tr with | some k => (k : Int) | none => -1
set_option maxHeartbeats 2000000 in
theorem r12first_any (n : Int) (lv sv : Value) (ll : List (List Int)) (tr : List St) (w : World) (hR : RowsAt w lv ll) (ht : theoryErr n ll = 0) (hs : StepsAt w sv tr) :
    Calls Try.prog 120 #[.agg #[.int .i64 n, lv], sv] w fun e w' => e = .returned (.int .i64 (firstI ll tr)) ∧ Ex w w' := by
  have HF : Hid (∀ wa cv c, Ex w wa → IntsAt wa cv c → (∀ x ∈ c, -128 ≤ x ∧ x ≤ 128) → Calls Try.prog 121 #[sv, cv] wa fun e w' => e = .returned (.bool (falseT tr c)) ∧ wa = w') := fun wa cv c hx hc hl => r12False_any sv cv tr c wa (hs.ex hx) hc hl
  have HU : Hid (∀ wa cv c, Ex w wa → IntsAt wa cv c → (∀ x ∈ c, -128 ≤ x ∧ x ≤ 128) → Calls Try.prog 122 #[sv, cv] wa fun e w' => e = .returned (.int .i64 (unitT tr c)) ∧ wa = w') := fun wa cv c hx hc hl => r12Unit_any sv cv tr c wa (hs.ex hx) hc hl
  have HB : Hid (∀ k, k < ll.length → ∀ x ∈ ll.getD k [], -128 ≤ x ∧ x ≤ 128) := fun k hk x hx => by
    have := ((theoryErr_zero ht).2.2.2 (ll.getD k []) (by rw [getD_getElem hk]; exact List.getElem_mem hk)).2 x hx
    rw [litValid_iff] at this; omega
  have hR0 := hR
  obtain ⟨ra, rcap, rfl, r1, r2, r3⟩ := hR
  obtain ⟨a', cap', rfl, _, _, _⟩ := hs
  unfold maxLen at r2
  have hll : ll.length ≤ 4096 := (theoryErr_zero ht).2.2.1
  clear r3 ht
  have HY : Hid (∀ k, k < ll.length → (∀ j, j < k → liveT tr (ll.getD j []) = false) → liveT tr (ll.getD k []) = true → firstI ll tr = k) := fun k hk h1 h2 => by unfold firstI; rw [firstT_some hk h1 h2]
  have HN : Hid ((∀ j, j < ll.length → liveT tr (ll.getD j []) = false) → firstI ll tr = -1) := fun h => by unfold firstI; rw [firstT_none h]
  have HL : Hid (∀ c, liveT tr c = (falseT tr c || unitT tr c != 0)) := fun _ => rfl
  generalize firstI ll tr = R at *
  go_enter Try.func120, Try.ntmps120
  go_wp2
  generalize hwa : w.alloc (.cells #[.int .i64 n, .slice ra ll.length rcap] 24) = wa
  have hxa : Ex w wa := hwa ▸ Ex.alloc _ _
  have c1 : wa.cell? ⟨w.heap.size, 1, none⟩ = some (.slice ra ll.length rcap) := by rw [← hwa]; simp
  have z1 : w.heap.size < wa.heap.size := cell_lt c1
  clear hwa
  go_loop [5] (fun i => ∃ k : Nat, k ≤ ll.length ∧ i = .int .i64 k ∧ Hid (∀ j, j < k → liveT tr (ll.getD j []) = false)) (fun i => ll.length - (intOf i).toNat)
  case atStart => exact ⟨0, Nat.zero_le _, rfl, fun j hj => (by omega)⟩
  case round =>
    obtain ⟨k, hk, rfl, hd⟩ := hrel
    by_cases hlt : k < ll.length
    · obtain ⟨_, _, hv, _, _, h3⟩ := hR0.ex hxa
      cases hv
      obtain ⟨b, off, rv, rfl, hb, hcell, hrow⟩ := h3 k hlt
      have hV := HF.out wa rv _ hxa hrow (HB.out k hlt)
      have hW := HU.out wa rv _ hxa hrow (HB.out k hlt)
      have hL := HL.out (ll.getD k [])
      have hY2 : Hid (liveT tr (ll.getD k []) = true → R = k) := fun h => HY.out k hlt hd.out h
      have hd2 : Hid (liveT tr (ll.getD k []) = false → ∀ j, j < k + 1 → liveT tr (ll.getD j []) = false) := fun h j hj => by
        by_cases hjk : j = k
        · subst hjk; exact h
        · exact hd.out j (by omega)
      obtain ⟨ca, ccap, rfl, _, _, _⟩ := hrow
      have HV : Hid _ := hV
      have HW : Hid _ := hW
      clear h3 hV hW hd HF HU HB HL HY
      generalize liveT tr (ll.getD k []) = L at *
      generalize falseT tr (ll.getD k []) = F at *
      generalize unitT tr (ll.getD k []) = U at *
      generalize ll.getD k [] = row at *
      cases F
      · by_cases hu : U = 0
        · have hub : (U != 0) = false := by simp [hu]
          have hd3 : Hid _ := hd2.out (by rw [hL, hu]; rfl)
          clear hL hu hd2 hY2
          go_wp2_with fail
          refine Calls.mono HV.out ?_
          rintro e w' ⟨rfl, rfl⟩
          go_wp2_with fail
          refine Calls.mono HW.out ?_
          rintro e w' ⟨rfl, rfl⟩
          go_wp2
          go_round
          case rel => exact ⟨k + 1, by omega, by go_num, hd3⟩
          case measure => simp [intOf]; omega
        · have hub : (U != 0) = true := by simp [hu]
          have hres : Hid _ := hY2.out (by rw [hL, hub]; rfl)
          clear hL hu hd2 hY2
          go_wp2_with fail
          refine Calls.mono HV.out ?_
          rintro e w' ⟨rfl, rfl⟩
          go_wp2_with fail
          refine Calls.mono HW.out ?_
          rintro e w' ⟨rfl, rfl⟩
          go_wp2
          go_ret
          exact ⟨ret_int hres.out.symm, hxa⟩
      · have hres : Hid _ := hY2.out (by rw [hL]; rfl)
        clear hL hd2 hY2
        go_wp2_with fail
        refine Calls.mono HV.out ?_
        rintro e w' ⟨rfl, rfl⟩
        go_wp2
        go_ret
        exact ⟨ret_int hres.out.symm, hxa⟩
    · have hres : Hid (R = -1) := HN.out fun j hj => hd.out j (by omega)
      clear hd
      go_wp2
      go_ret
      exact ⟨ret_int hres.out.symm, hxa⟩
end Go.Proofs.Ytnhlfhoeglnajaa
