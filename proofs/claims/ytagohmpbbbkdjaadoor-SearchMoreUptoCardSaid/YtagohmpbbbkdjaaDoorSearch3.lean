/- The exported function Entails: what it returns; old memory stays. -/
import Derived.Test.YtagohmpbbbkdjaaDoorSearch2
namespace Go.Proofs.YtagohmpbbbkdjaaDoor
set_option linter.unusedSimpArgs false
set_option linter.unusedVariables false
open Go.RowKit

theorem run_make_ints (n : Nat) (hn : n * 8 ≤ 140737488355328) (w : World) : (Instr.makeSlice 25 (.int .i64 (n : Int)) (.int .i64 (n : Int))).run Tryd.prog w = .ok (.slice (some ⟨w.heap.size, 0, none⟩) n n) (w.alloc (.cells (intsV (List.replicate n 0)).toArray 3)) := by
  obtain ⟨i0, hi, hz0, hz1, hz2⟩ := info_parts Tryd.infoInt
  have h := run_make (P := Tryd.prog) w 25 3 i0 (.int .i64 0) Tryd.underlying25 hi hz0 .i64 .i64 (n : Int) (n : Int) (by omega) (Int.le_refl _) (by rw [hz2]; omega) (by omega)
  rw [h, hz1]
  rw [Int.toNat_natCast, Nat.mul_one]
  have e2 : madeCells (Value.int .i64 0).cells n = (intsV (List.replicate n 0)).toArray := by
    apply Array.toList_inj.1
    rw [show (Value.int .i64 0).cells = #[.int .i64 0] from rfl, toList_madeCells_one]
    simp [intsV]
  rw [e2]
/-- The first j negated, the others 0. -/
def negs (l : List Int) (j : Nat) : List Int := (l.take j).map (fun x => -x) ++ List.replicate (l.length - j) 0
theorem negs_length {l : List Int} {j : Nat} (h : j ≤ l.length) : (negs l j).length = l.length := by simp [negs]; omega
theorem negs_zero (l : List Int) : negs l 0 = List.replicate l.length 0 := by simp [negs]
theorem negs_all (l : List Int) : negs l l.length = l.map fun x => -x := by simp [negs]
theorem negs_set {l : List Int} {j : Nat} (h : j < l.length) : (negs l j).set j (-(l.getD j 0)) = negs l (j + 1) := by
  have e1 : ((l.take j).map (fun x => -x)).length = j := by simp; omega
  unfold negs
  rw [List.set_append_right _ _ (by omega), e1, Nat.sub_self, show l.length - j = (l.length - (j + 1)) + 1 by omega, List.replicate_succ, List.set_cons_zero, List.take_succ_eq_append_getElem h, getD_getElem h]
  rw [List.map_append, List.append_assoc]; rfl

set_option maxHeartbeats 1000000 in
theorem Entails_bad (n : Int) (lv av : Value) (ll : List (List Int)) (l : List Int) (w : World) (hR : RowsAt w lv ll) (hl : IntsAt w av l) (hs : searchErr n ll l ≠ 0) :
    Calls Tryd.prog 17 #[.agg #[.int .i64 n, lv], av] w fun e w' => e = .returned (.tuple #[.bool false, .int .i64 (searchErr n ll l)]) ∧ Ex w w' := by
  have hs' : (searchErr n ll l != 0) = true := by simp [hs]
  have HC : Hid (∀ wa (hRa : RowsAt wa lv ll) (hIa : IntsAt wa av l), _) := fun wa hRa hIa => searchCheck_any n lv av ll l wa hRa hIa
  have HB : Hid _ := box_theory (n := n) hR hl 24
  obtain ⟨a, cap, rfl, _, _, _⟩ := hR
  obtain ⟨a', cap', rfl, _, _, _⟩ := hl
  clear hs
  generalize searchErr n ll l = sE at *
  go_enter Tryd.func17, Tryd.ntmps17
  go_wp2_with fail
  obtain ⟨wa, hwa, hxa, hRa, hIa, hT⟩ := HB.out
  rw [← hwa]; clear HB hwa
  refine (HC.out _ hRa hIa).mono ?_
  rintro e w2 ⟨rfl, hx2⟩
  go_wp2
  go_ret2
  exact ⟨rfl, hxa.trans hx2⟩
set_option maxHeartbeats 2000000 in
theorem Entails_ok (n : Nat) (lv av : Value) (ll : List (List Int)) (l : List Int) (w : World) (hR : RowsAt w lv ll) (hl : IntsAt w av l) (hs : searchErr n ll l = 0) (hb : l.length * 8 ≤ 140737488355328) :
    Calls Tryd.prog 17 #[.agg #[.int .i64 n, lv], av] w fun e w' => e = .returned (.tuple #[.bool (entailsB n ll l), .int .i64 0]) ∧ Ex w w' := by
  obtain ⟨he, hlv⟩ := searchErr_zero hs
  have HE : Hid (entailsB n ll l = !satB n ll (l.map fun x => -x)) := entails_sat he hlv
  have HC : Hid (∀ wa (hRa : RowsAt wa lv ll) (hIa : IntsAt wa av l), _) := fun wa hRa hIa => searchCheck_any n lv av ll l wa hRa hIa
  have HM : Hid (∀ wa sv (hRa : RowsAt wa lv ll) (hIa : IntsAt wa sv (l.map fun x => -x)), Calls Tryd.prog 20 #[.agg #[.int .i64 n, lv], sv] wa fun e w' => e = .returned (.tuple #[setV ((least n ll (l.map fun x => -x)).getD (0, 0)).1 ((least n ll (l.map fun x => -x)).getD (0, 0)).2, .bool (satB n ll (l.map fun x => -x))]) ∧ Ex wa w') := fun wa sv hRa hIa => solve_any n lv sv ll _ wa hRa hIa he (fun x hx => by
    obtain ⟨y, hy, rfl⟩ := List.mem_map.1 hx
    exact valid_neg (hlv y hy))
  have HL : Hid (∀ j, j < l.length → -128 ≤ l.getD j 0 ∧ l.getD j 0 ≤ 128) := fun j hj => by
    have := hlv _ (show l.getD j 0 ∈ l by rw [getD_getElem hj]; exact List.getElem_mem hj)
    rw [litValid_iff] at this; omega
  have HB : Hid _ := box_theory (n := n) hR hl 24
  obtain ⟨a, cap, rfl, _, _, _⟩ := hR
  obtain ⟨a', cap', rfl, g1, g2, _⟩ := hl
  unfold maxLen at g2
  rw [hs] at HC
  have hmk := run_make_ints l.length hb
  obtain ⟨Z, hZ⟩ : ∃ Z, Z = intsV (List.replicate l.length 0) := ⟨_, rfl⟩
  rw [← hZ] at hmk
  have HZ : Hid _ := hZ
  clear hs he hlv hZ
  generalize entailsB n ll l = E at *
  generalize satB n ll (l.map fun x => -x) = st at *
  generalize least n ll (l.map fun x => -x) = F at *
  go_enter Tryd.func17, Tryd.ntmps17
  go_wp2_with fail
  obtain ⟨wa, hwa, hxa, hRa, hIa, hT⟩ := HB.out
  rw [← hwa]; clear HB hwa
  refine (HC.out _ hRa hIa).mono ?_
  rintro e w2 ⟨rfl, hx2⟩
  clear HC
  replace hT := hT.ex hx2
  replace hRa := hRa.ex hx2
  replace hIa := hIa.ex hx2
  replace hxa := hxa.trans hx2
  clear hx2
  go_wp2_with fail
  have hO3 := OwnB.new w2 Z 3
  have hx3 := Ex.alloc w2 (.cells Z.toArray 3)
  generalize hH : w2.heap.size = H at *
  have hO3' : OwnB (w2.alloc (.cells Z.toArray 3)) H Z 3 := hO3
  clear hO3
  generalize w2.alloc (.cells Z.toArray 3) = w3 at *
  have HH : Hid _ := hH
  rw [HZ.out, ← negs_zero] at hO3'
  clear hH hmk HZ
  go_loopw [22] (fun ix wr => ∃ j : Nat, j ≤ l.length ∧ ix = .int .i64 j ∧ OwnB wr H (intsV (negs l j)) 3 ∧ Ex w2 wr) (fun ix _ => l.length - (intOf ix).toNat)
  case atStart => exact ⟨0, Nat.zero_le _, rfl, hO3', hx3⟩
  case round =>
    obtain ⟨j, hj, rfl, hO, hxr⟩ := hrel
    by_cases hlt : j < l.length
    · obtain ⟨_, _, hv, _, _, h3⟩ := hIa.ex hxr
      cases hv
      obtain ⟨b, off, rfl, hbb, hc⟩ := h3 j hlt
      clear h3
      have hr := HL.out j hlt
      have hO2 : OwnB (wr.setCell ⟨H, j, none⟩ (.int .i64 (-(l.getD j 0)))) H (intsV (negs l (j + 1))) 3 := by
        have := hO.set j (.int .i64 (-(l.getD j 0)))
        rwa [intsV_set, negs_set hlt] at this
      have hx2 : Ex w2 (wr.setCell ⟨H, j, none⟩ (.int .i64 (-(l.getD j 0)))) := hxr.setCell (by rw [HH.out]; exact Nat.le_refl _) _
      have cn : wr.cell? ⟨H, j, none⟩ = some (.int .i64 ((negs l j).getD j 0)) := by
        rw [hO.cell, intsV, List.getElem?_map, List.getElem?_eq_getElem (by rw [negs_length hj]; exact hlt), getD_getElem (by rw [negs_length hj]; exact hlt)]; rfl
      have fn := hO.free j
      generalize (negs l j).getD j 0 = old at cn
      clear hO
      generalize l.getD j 0 = x at *
      obtain ⟨r1, r2⟩ := hr
      go_wp2
      go_roundw
      case rel => exact ⟨j + 1, by omega, by go_num, hO2, hx2⟩
      case measure => simp [intOf]; omega
    · obtain rfl : j = l.length := by omega
      rw [negs_all] at hO
      have hIn : IntsAt wr (.slice (some ⟨H, 0, none⟩) l.length l.length) (l.map fun x => -x) := by
        have := intsAt_of_block hO (by rw [List.length_map]; unfold maxLen; omega)
        rwa [List.length_map] at this
      have hTr := hT.ex hxr
      have hRr := hRa.ex hxr
      have c0 := hTr.1
      have c1 := hTr.2
      go_wp2_with fail
      refine (HM.out _ _ hRr hIn).mono ?_
      rintro e w4 ⟨rfl, hx4⟩
      have hE := HE.out
      subst hE
      go_wp2
      go_ret2
      exact ⟨rfl, (hxa.trans (hxr.trans hx4)).alloc' _⟩
end Go.Proofs.YtagohmpbbbkdjaaDoor
