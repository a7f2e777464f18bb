/- censusref03: Has, none, set, All, Cut: what each call returns. All: of 0 to 128 variables. -/
import Derived.Test.YtagohmpbbbkdjaaDoorSet
import Derived.Test.YtagohmpbbbkdjaaDoorOwn
import Derived.Test.YtagohmpbbbkdjaaDoorLeast
import Derived.Laws.OwnMore
namespace Go.Proofs.YtagohmpbbbkdjaaDoor
set_option linter.unusedSimpArgs false
set_option linter.unusedVariables false
open Go.RowKit
set_option maxRecDepth 20000
def boolV (m : Nat) (f : Nat → Bool) : List Value := (List.range m).map fun k => .bool (f k)
theorem boolV_length (m : Nat) (f : Nat → Bool) : (boolV m f).length = m := by simp [boolV]
theorem boolV_get {m : Nat} {f : Nat → Bool} {k : Nat} (hk : k < m) : (boolV m f)[k]? = some (.bool (f k)) := by
  unfold boolV
  rw [List.getElem?_map, List.getElem?_range hk]; rfl
theorem boolV_set {m : Nat} {f : Nat → Bool} {k : Nat} (hk : k < m) (b : Bool) : (boolV m f).set k (.bool b) = boolV m (fun j => if j = k then b else f j) := by
  apply List.ext_getElem?
  intro j
  by_cases hj : j = k
  · subst hj
    rw [List.getElem?_set_self (by rw [boolV_length]; exact hk), boolV_get hk, if_pos rfl]
  · rw [List.getElem?_set_ne (fun e => hj e.symm)]
    by_cases hl : j < m
    · rw [boolV_get hl, boolV_get hl, if_neg hj]
    · rw [List.getElem?_eq_none (by rw [boolV_length]; omega), List.getElem?_eq_none (by rw [boolV_length]; omega)]
theorem boolV_congr {m : Nat} {f g : Nat → Bool} (h : ∀ k, k < m → f k = g k) : boolV m f = boolV m g := by
  unfold boolV
  exact List.map_congr_left fun k hk => by rw [h k (List.mem_range.1 hk)]
theorem Tryd.infoBool : (Tryd.prog.info? 4).map (fun i => (i.zero, i.size, i.bytes)) = some (some (.bool false), 1, 1) := by kernel_rfl
theorem run_make_bools (n : Nat) (hn : n ≤ 100000) (w : World) : (Instr.makeSlice 54 (.int .i64 n) (.int .i64 n)).run Tryd.prog w = .ok (.slice (some ⟨w.heap.size, 0, none⟩) n n) (w.alloc (.cells (boolV n fun _ => false).toArray 4)) := by
  obtain ⟨i0, hi, hz0, hz1, hz2⟩ := info_parts Tryd.infoBool
  have hr := run_make (P := Tryd.prog) w 54 4 i0 (.bool false) Tryd.underlying54 hi hz0 .i64 .i64 (n : Int) (n : Int) (by omega) (Int.le_refl _) (by rw [hz2]; omega) (by omega)
  rw [hr, hz1]
  rw [Int.toNat_natCast, Nat.mul_one]
  have : madeCells (Value.cells (.bool false)) n = (boolV n fun _ => false).toArray := by
    apply Array.ext'
    rw [show Value.cells (.bool false) = #[.bool false] from rfl, toList_madeCells_one]
    unfold boolV
    rw [List.map_const', List.length_range]
  rw [this]
set_option maxHeartbeats 400000 in
theorem r03Has_any (x y : Nat) (v : Int) (w : World) :
    Calls Tryd.prog 26 #[setV x y, .int .i64 v] w fun e w' => e = .returned (.bool (hasB x y v)) ∧ Ex w w' := by
  unfold setV
  by_cases h1 : 1 ≤ v
  · by_cases h2 : v ≤ 128
    · by_cases h3 : v ≤ 64
      · have hq : (v - 1) / 64 = 0 := by omega
        go_enter Tryd.func26, Tryd.ntmps26
        go_wp2
        go_ret
        exact ⟨ret_bool ((bit_form _ _).trans (hasB_fst x y h1 h3).symm), Ex.alloc _ _⟩
      · have hq : (v - 1) / 64 = 1 := by omega
        go_enter Tryd.func26, Tryd.ntmps26
        go_wp2
        go_ret
        exact ⟨ret_bool ((bit_form _ _).trans (hasB_snd x y h2 (by omega)).symm), Ex.alloc _ _⟩
    · go_enter Tryd.func26, Tryd.ntmps26
      go_wp2
      go_ret
      exact ⟨ret_bool (hasB_high x y (by omega)).symm, Ex.alloc _ _⟩
  · go_enter Tryd.func26, Tryd.ntmps26
    go_wp2
    go_ret
    exact ⟨ret_bool (hasB_low x y (by omega)).symm, Ex.alloc _ _⟩
/-- The set of the variables 1 to m of which a test says yes. -/
def setF (f : Nat → Bool) : Nat → Nat × Nat
  | 0 => (0, 0)
  | m + 1 => if f (m + 1) = true then withV (setF f m) ((m : Int) + 1) else setF f m
theorem setF_lt (f : Nat → Bool) : ∀ m, (setF f m).1 < 2 ^ 64 ∧ (setF f m).2 < 2 ^ 64
  | 0 => ⟨by unfold setF; decide, by unfold setF; decide⟩
  | m + 1 => by
    unfold setF
    have ih := setF_lt f m
    split
    · exact withV_lt ih.1 ih.2
    · exact ih
theorem hasB_setF (f : Nat → Bool) (v : Int) : ∀ m, m ≤ 128 → hasB (setF f m).1 (setF f m).2 v = (decide (1 ≤ v) && (decide (v ≤ m) && f v.toNat))
  | 0, _ => by
    have : hasB (setF f 0).1 (setF f 0).2 v = false := by show hasB 0 0 v = false; unfold hasB; simp
    rw [this]
    by_cases h1 : 1 ≤ v
    · rw [decide_eq_false (show ¬ v ≤ ((0 : Nat) : Int) by omega)]; simp
    · rw [decide_eq_false h1]; rfl
  | m + 1, hm => by
    have ih := hasB_setF f v m (by omega)
    unfold setF
    by_cases hf : f (m + 1) = true
    · rw [if_pos hf, hasB_withV (by omega) (by omega), ih]
      by_cases e : v = (m : Int) + 1
      · subst e
        rw [decide_eq_true rfl, Bool.or_true, decide_eq_true (show (1 : Int) ≤ (m : Int) + 1 by omega), decide_eq_true (show (m : Int) + 1 ≤ ((m + 1 : Nat) : Int) by omega), show ((m : Int) + 1).toNat = m + 1 by omega, hf]; rfl
      · rw [decide_eq_false e, Bool.or_false, show decide (v ≤ (m : Int)) = decide (v ≤ ((m + 1 : Nat) : Int)) by rw [decide_eq_decide]; omega]
    · rw [if_neg hf, ih]
      by_cases e : v = (m : Int) + 1
      · subst e
        have hf2 : f (m + 1) = false := by simpa using hf
        rw [show ((m : Int) + 1).toNat = m + 1 by omega, hf2]; simp
      · rw [show decide (v ≤ (m : Int)) = decide (v ≤ ((m + 1 : Nat) : Int)) by rw [decide_eq_decide]; omega]
theorem r03none_any (w : World) : Calls Tryd.prog 25 #[] w fun e w' => e = .returned (.slice (some ⟨w.heap.size, 0, none⟩) 129 129) ∧ w' = w.alloc (.cells (boolV 129 fun _ => false).toArray 4) := by
  have hmk : (Instr.makeSlice 54 (.int .i64 129) (.int .i64 129)).run Tryd.prog w = .ok (.slice (some ⟨w.heap.size, 0, none⟩) 129 129) (w.alloc (.cells (boolV 129 fun _ => false).toArray 4)) := run_make_bools 129 (by decide) w
  go_enter Tryd.func25, Tryd.ntmps25
  go_wp2
  go_ret
  exact ⟨rfl, rfl⟩
set_option maxRecDepth 100000 in
set_option maxHeartbeats 4000000 in
theorem r03set_any (g : Nat) (f : Nat → Bool) (w : World) (hO : OwnB w g (boolV 129 f) 4) :
    Calls Tryd.prog 27 #[.slice (some ⟨g, 0, none⟩) 129 129] w fun e w' => e = .returned (setV (setF f 128).1 (setF f 128).2) ∧ Ex w w' := by
  have HC : Hid (∀ wa, Ex w wa → ∀ k, k < 129 → wa.cell? ⟨g, k, none⟩ = some (.bool (f k))) := fun wa hx k hk => ((hO.ex hx).cell k).trans (boolV_get hk)
  have hg := hO.lt
  have HS : Hid (∀ k : Nat, k < 128 → setF f (k + 1) = if f (k + 1) = true then withV (setF f k) ((k : Int) + 1) else setF f k) := fun k hk => rfl
  have HL : Hid (∀ k, (setF f k).1 < 2 ^ 64 ∧ (setF f k).2 < 2 ^ 64) := setF_lt f
  have oR := (OwnB.new w [.int .u64 0, .int .u64 0] 30).ex (Ex.alloc _ (.cells #[.int .u64 0, .int .u64 0] 30))
  have oS := OwnB.new (w.alloc (.cells #[.int .u64 0, .int .u64 0] 30)) [.int .u64 0, .int .u64 0] 30
  have hxa := (Ex.alloc w (.cells #[.int .u64 0, .int .u64 0] 30)).alloc' (.cells #[.int .u64 0, .int .u64 0] 30)
  simp only [World.size_alloc] at oS
  unfold setV
  clear hO
  go_enter Tryd.func27, Tryd.ntmps27
  go_wp2
  generalize (w.alloc (.cells #[.int .u64 0, .int .u64 0] 30)).alloc (.cells #[.int .u64 0, .int .u64 0] 30) = w1 at *
  obtain ⟨SB, hSB⟩ : ∃ SB, SB = w.heap.size + 1 := ⟨_, rfl⟩
  rw [← hSB] at oS ⊢
  have HSB : Hid (SB = w.heap.size + 1) := hSB
  have hne : SB ≠ w.heap.size := by omega
  clear hSB
  go_loopw [4] (fun kv wr => ∃ k : Nat, k ≤ 128 ∧ kv = .int .i64 ((k : Int) + 1) ∧ Ex w wr ∧ OwnB wr w.heap.size [.int .u64 0, .int .u64 0] 30 ∧ OwnB wr SB [.int .u64 (setF f k).1, .int .u64 (setF f k).2] 30) (fun kv _ => 129 - (intOf kv).toNat)
  case atStart => exact ⟨0, by omega, rfl, hxa, oR, oS⟩
  case round =>
    obtain ⟨k, hk, rfl, hxr, oR, oS⟩ := hrel
    by_cases hlt : k < 128
    · have hcell := HC.out wr hxr (k + 1) (by omega)
      have hgz := Nat.lt_of_lt_of_le hg hxr.size
      have hs := HS.out k hlt
      obtain ⟨l1, l2⟩ := HL.out k
      obtain ⟨b, hb⟩ : ∃ b, f (k + 1) = b := ⟨_, rfl⟩
      rw [hb] at hcell hs
      have e1 : ((k : Int) + 1).toNat = k + 1 := by omega
      have HSk : Hid _ := hs
      have hm2 : Ex w wr := hxr
      generalize setF f k = s at *
      obtain ⟨s1, s2⟩ := s
      simp only at l1 l2 oS
      have hkk : (k : Int) + 1 < 129 := by omega
      clear hb hs HC HS HL
      cases b with
      | false =>
        have HSn : Hid (setF f (k + 1) = (s1, s2)) := HSk.out
        clear HSk
        go_wp2
        go_roundw
        case rel => exact ⟨k + 1, by omega, by go_num, hxr, oR, (by rw [HSn.out]; exact oS)⟩
        case measure => simp [intOf]; omega
      | true =>
        have HSn : Hid (setF f (k + 1) = withV (s1, s2) ((k : Int) + 1)) := HSk.out
        have d0 := oS.cell 0
        have d1 := oS.cell 1
        have f0 := oS.free 0
        have f1 := oS.free 1
        have zS := oS.lt
        have hwb : IntKind.u64.wrap (2 ^ ((k : Int) % 64).toNat) = (bitOf ((k : Int) + 1) : Int) := by unfold bitOf; rw [show (k : Int) + 1 - 1 = k by omega]; exact wrap_bit (u := ((k : Int) % 64).toNat) (by omega)
        have hwb2 : IntKind.u64.wrap (2 ^ (k % 64)) = (bitOf ((k : Int) + 1) : Int) := by unfold bitOf; rw [show (((k : Int) + 1 - 1) % 64).toNat = k % 64 by omega]; exact wrap_bit (u := k % 64) (by omega)
        have hSw : w.heap.size ≤ SB := by have := HSB.out; omega
        clear HSk
        by_cases h64 : (k : Int) + 1 ≤ 64
        · have hq : (k : Int) / 64 = 0 := by omega
          have hqn : k / 64 = 0 := by omega
          have hor := u64_or_nat s1 (bitOf ((k : Int) + 1)) l1 (bitOf_lt _)
          have HSm : Hid (setF f (k + 1) = (s1 ||| bitOf ((k : Int) + 1), s2)) := by show _ = _; rw [HSn.out]; exact if_pos h64
          have oS2 := oS.set 0 (.int .u64 (s1 ||| bitOf ((k : Int) + 1) : Nat))
          have oR2 := oR.set_other (c := SB) 0 (.int .u64 (s1 ||| bitOf ((k : Int) + 1) : Nat)) hne
          have hx2 := hxr.setCell (p := ⟨SB, 0, none⟩) hSw (.int .u64 (s1 ||| bitOf ((k : Int) + 1) : Nat))
          clear HSn l1 l2 oS oR hxr hm2
          generalize s1 ||| bitOf ((k : Int) + 1) = t1 at *
          generalize bitOf ((k : Int) + 1) = bk at *
          go_wp2
          go_roundw
          case rel => exact ⟨k + 1, by omega, by go_num, hx2, oR2, (by rw [HSm.out]; exact oS2)⟩
          case measure => simp [intOf]; omega
        · have hq : (k : Int) / 64 = 1 := by omega
          have hqn : k / 64 = 1 := by omega
          have hor := u64_or_nat s2 (bitOf ((k : Int) + 1)) l2 (bitOf_lt _)
          have HSm : Hid (setF f (k + 1) = (s1, s2 ||| bitOf ((k : Int) + 1))) := by show _ = _; rw [HSn.out]; exact if_neg h64
          have oS2 := oS.set 1 (.int .u64 (s2 ||| bitOf ((k : Int) + 1) : Nat))
          have oR2 := oR.set_other (c := SB) 1 (.int .u64 (s2 ||| bitOf ((k : Int) + 1) : Nat)) hne
          have hx2 := hxr.setCell (p := ⟨SB, 1, none⟩) hSw (.int .u64 (s2 ||| bitOf ((k : Int) + 1) : Nat))
          clear HSn l1 l2 oS oR hxr hm2
          generalize s2 ||| bitOf ((k : Int) + 1) = t1 at *
          generalize bitOf ((k : Int) + 1) = bk at *
          go_wp2
          go_roundw
          case rel => exact ⟨k + 1, by omega, by go_num, hx2, oR2, (by rw [HSm.out]; exact oS2)⟩
          case measure => simp [intOf]; omega
    · obtain rfl : k = 128 := by omega
      have d0 := oS.cell 0
      have d1 := oS.cell 1
      have zS := oS.lt
      have r0 := oR.cell 0
      have r1 := oR.cell 1
      have f0 := oR.free 0
      have f1 := oR.free 1
      have zR := oR.lt
      clear HC HS HL
      obtain ⟨s, hs⟩ : ∃ s, setF f 128 = s := ⟨_, rfl⟩
      rw [hs] at d0 d1
      have Hs : Hid _ := hs
      clear hs oS
      obtain ⟨s1, s2⟩ := s
      go_wp2
      refine bodyPost_ret (v := .agg #[.int .u64 s1, .int .u64 s2]) (by simp [results, Tryd.results27, go_sem, r0, r1, zR]) rfl ⟨by rw [Hs.out], ?_⟩
      exact (hxr.setCell (p := ⟨w.heap.size, 0, none⟩) (Nat.le_refl _) _).setCell (p := ⟨w.heap.size, 1, none⟩) (Nat.le_refl _) _
theorem bool_step (k : Nat) : (fun j => if j = k + 1 then true else decide (1 ≤ j ∧ j ≤ k)) = fun j => decide (1 ≤ j ∧ j ≤ k + 1) := by
  funext j
  by_cases e : j = k + 1
  · rw [if_pos e, decide_eq_true (by omega)]
  · rw [if_neg e, decide_eq_decide]; omega
set_option maxRecDepth 100000 in
set_option maxHeartbeats 4000000 in
theorem r03All_any (n : Nat) (hn : n ≤ 128) (w : World) :
    Calls Tryd.prog 10 #[.int .i64 n] w fun e w' => e = .returned (setV (setF (fun j => decide (1 ≤ j ∧ j ≤ n)) 128).1 (setF (fun j => decide (1 ≤ j ∧ j ≤ n)) 128).2) ∧ Ex w w' := by
  have HSt : Hid (∀ (wa : World) (g : Nat), OwnB wa g (boolV 129 fun j => decide (1 ≤ j ∧ j ≤ n)) 4 → Calls Tryd.prog 27 #[.slice (some ⟨g, 0, none⟩) 129 129] wa fun e w' => e = .returned (setV (setF (fun j => decide (1 ≤ j ∧ j ≤ n)) 128).1 (setF (fun j => decide (1 ≤ j ∧ j ≤ n)) 128).2) ∧ Ex wa w') := fun wa g h => r03set_any g _ wa h
  unfold setV at *
  obtain ⟨s1, hs1⟩ : ∃ s, (setF (fun j => decide (1 ≤ j ∧ j ≤ n)) 128).1 = s := ⟨_, rfl⟩
  obtain ⟨s2, hs2⟩ : ∃ s, (setF (fun j => decide (1 ≤ j ∧ j ≤ n)) 128).2 = s := ⟨_, rfl⟩
  rw [hs1, hs2] at HSt ⊢
  clear hs1 hs2
  have oR := (OwnB.new w [.int .u64 0, .int .u64 0] 30).ex (Ex.alloc _ (.cells (boolV 129 fun _ => false).toArray 4))
  have oG := OwnB.new (w.alloc (.cells #[.int .u64 0, .int .u64 0] 30)) (boolV 129 fun _ => false) 4
  have hxa := (Ex.alloc w (.cells #[.int .u64 0, .int .u64 0] 30)).alloc' (.cells (boolV 129 fun _ => false).toArray 4)
  simp only [World.size_alloc] at oG
  have oG0 : OwnB ((w.alloc (.cells #[.int .u64 0, .int .u64 0] 30)).alloc (.cells (boolV 129 fun _ => false).toArray 4)) (w.heap.size + 1) (boolV 129 fun j => decide (1 ≤ j ∧ j ≤ 0)) 4 := by
    rw [show boolV 129 (fun j => decide (1 ≤ j ∧ j ≤ 0)) = boolV 129 (fun _ => false) from boolV_congr fun k _ => decide_eq_false (by omega)]
    exact oG
  clear oG
  go_enter Tryd.func10, Tryd.ntmps10
  go_wp2_with fail
  refine (r03none_any _).mono ?_
  rintro e w' ⟨rfl, rfl⟩
  simp only [World.size_alloc]
  generalize (w.alloc (.cells #[.int .u64 0, .int .u64 0] 30)).alloc (.cells (boolV 129 fun _ => false).toArray 4) = w1 at *
  obtain ⟨GB, hGB⟩ : ∃ GB, GB = w.heap.size + 1 := ⟨_, rfl⟩
  rw [← hGB] at oG0 ⊢
  have hne : GB ≠ w.heap.size := by omega
  have hGw : w.heap.size ≤ GB := by omega
  clear hGB
  go_wp2
  go_loopw [4] (fun kv wr => ∃ k : Nat, k ≤ n ∧ kv = .int .i64 ((k : Int) + 1) ∧ Ex w wr ∧ OwnB wr w.heap.size [.int .u64 0, .int .u64 0] 30 ∧ OwnB wr GB (boolV 129 fun j => decide (1 ≤ j ∧ j ≤ k)) 4) (fun kv _ => 129 - (intOf kv).toNat)
  case atStart => exact ⟨0, by omega, rfl, hxa, oR, oG0⟩
  case round =>
    obtain ⟨k, hk, rfl, hxr, oR, oG⟩ := hrel
    by_cases hlt : k < n
    · have d1 : wr.cell? ⟨GB, k + 1, none⟩ = some (.bool (decide (1 ≤ k + 1 ∧ k + 1 ≤ k))) := (oG.cell (k + 1)).trans (boolV_get (by omega))
      have f1 := oG.free (k + 1)
      have zG := oG.lt
      have oG2 := oG.set (k + 1) (.bool true)
      rw [boolV_set (by omega), bool_step] at oG2
      have oR2 := oR.set_other (c := GB) (k + 1) (.bool true) hne
      have hx2 := hxr.setCell (p := ⟨GB, k + 1, none⟩) hGw (.bool true)
      have e1 : ((k : Int) + 1).toNat = k + 1 := by omega
      have q1 : (k : Int) + 1 ≤ 128 := by omega
      have q2 : (k : Int) + 1 ≤ n := by omega
      clear oG oR hxr HSt
      generalize decide (1 ≤ k + 1 ∧ k + 1 ≤ k) = old at *
      go_wp2
      go_roundw
      case rel => exact ⟨k + 1, by omega, by go_num, hx2, oR2, oG2⟩
      case measure => simp [intOf]; omega
    · obtain rfl : k = n := by omega
      have H1 : Hid _ := HSt.out wr GB oG
      clear HSt
      have q2 : ¬ (k : Int) + 1 ≤ k := by omega
      by_cases hk : (k : Int) + 1 ≤ 128
      · go_wp2_with fail
        refine Calls.mono H1.out ?_
        rintro e w2 ⟨rfl, hx2⟩
        have oR2 := oR.ex hx2
        have r0 := oR2.cell 0
        have r1 := oR2.cell 1
        have f0 := oR2.free 0
        have f1 := oR2.free 1
        have zR := oR2.lt
        go_wp2
        refine bodyPost_ret (v := .agg #[.int .u64 s1, .int .u64 s2]) (by simp [results, Tryd.results10, go_sem, r0, r1, zR]) rfl ⟨rfl, ?_⟩
        exact ((hxr.trans hx2).setCell (p := ⟨w.heap.size, 0, none⟩) (Nat.le_refl _) _).setCell (p := ⟨w.heap.size, 1, none⟩) (Nat.le_refl _) _
      · go_wp2_with fail
        refine Calls.mono H1.out ?_
        rintro e w2 ⟨rfl, hx2⟩
        have oR2 := oR.ex hx2
        have r0 := oR2.cell 0
        have r1 := oR2.cell 1
        have f0 := oR2.free 0
        have f1 := oR2.free 1
        have zR := oR2.lt
        go_wp2
        refine bodyPost_ret (v := .agg #[.int .u64 s1, .int .u64 s2]) (by simp [results, Tryd.results10, go_sem, r0, r1, zR]) rfl ⟨rfl, ?_⟩
        exact ((hxr.trans hx2).setCell (p := ⟨w.heap.size, 0, none⟩) (Nat.le_refl _) _).setCell (p := ⟨w.heap.size, 1, none⟩) (Nat.le_refl _) _
theorem cut_step (k : Nat) (h : Nat → Bool) : (fun j => if j = k + 1 then h (k + 1) else (decide (1 ≤ j ∧ j ≤ k) && h j)) = fun j => decide (1 ≤ j ∧ j ≤ k + 1) && h j := by
  funext j
  by_cases e : j = k + 1
  · rw [if_pos e, e, decide_eq_true (by omega)]; rfl
  · rw [if_neg e, show decide (1 ≤ j ∧ j ≤ k) = decide (1 ≤ j ∧ j ≤ k + 1) by rw [decide_eq_decide]; omega]
set_option maxRecDepth 100000 in
set_option maxHeartbeats 4000000 in
theorem r03Cut_any (x y u v : Nat) (w : World) :
    Calls Tryd.prog 9 #[setV x y, setV u v] w fun e w' => e = .returned (setV (setF (fun j => decide (1 ≤ j ∧ j ≤ 128) && (hasB x y j && hasB u v j)) 128).1 (setF (fun j => decide (1 ≤ j ∧ j ≤ 128) && (hasB x y j && hasB u v j)) 128).2) ∧ Ex w w' := by
  obtain ⟨h, hh⟩ : ∃ h : Nat → Bool, h = fun (j : Nat) => hasB x y j && hasB u v j := ⟨_, rfl⟩
  have HH : Hid (∀ j : Nat, h j = (hasB x y j && hasB u v j)) := fun j => by rw [hh]
  have e0 : (fun j : Nat => decide (1 ≤ j ∧ j ≤ 128) && (hasB x y j && hasB u v j)) = fun j => decide (1 ≤ j ∧ j ≤ 128) && h j := by rw [hh]
  rw [e0]
  clear e0 hh
  have HSt : Hid (∀ (wa : World) (g : Nat), OwnB wa g (boolV 129 fun j => decide (1 ≤ j ∧ j ≤ 128) && h j) 4 → Calls Tryd.prog 27 #[.slice (some ⟨g, 0, none⟩) 129 129] wa fun e w' => e = .returned (setV (setF (fun j => decide (1 ≤ j ∧ j ≤ 128) && h j) 128).1 (setF (fun j => decide (1 ≤ j ∧ j ≤ 128) && h j) 128).2) ∧ Ex wa w') := fun wa g hO => r03set_any g _ wa hO
  have HA : Hid (∀ wa (k : Int), Calls Tryd.prog 26 #[.agg #[.int .u64 x, .int .u64 y], .int .i64 k] wa fun e w' => e = .returned (.bool (hasB x y k)) ∧ Ex wa w') := fun wa k => r03Has_any x y k wa
  have HB : Hid (∀ wa (k : Int), Calls Tryd.prog 26 #[.agg #[.int .u64 u, .int .u64 v], .int .i64 k] wa fun e w' => e = .returned (.bool (hasB u v k)) ∧ Ex wa w') := fun wa k => r03Has_any u v k wa
  unfold setV at *
  obtain ⟨s1, hs1⟩ : ∃ s, (setF (fun j => decide (1 ≤ j ∧ j ≤ 128) && h j) 128).1 = s := ⟨_, rfl⟩
  obtain ⟨s2, hs2⟩ : ∃ s, (setF (fun j => decide (1 ≤ j ∧ j ≤ 128) && h j) 128).2 = s := ⟨_, rfl⟩
  rw [hs1, hs2] at HSt ⊢
  clear hs1 hs2
  have oA := (((OwnB.new w [.int .u64 x, .int .u64 y] 30).ex (Ex.alloc _ (.cells #[.int .u64 u, .int .u64 v] 30))).ex (Ex.alloc _ (.cells #[.int .u64 0, .int .u64 0] 30))).ex (Ex.alloc _ (.cells (boolV 129 fun _ => false).toArray 4))
  have oB := ((OwnB.new (w.alloc (.cells #[.int .u64 x, .int .u64 y] 30)) [.int .u64 u, .int .u64 v] 30).ex (Ex.alloc _ (.cells #[.int .u64 0, .int .u64 0] 30))).ex (Ex.alloc _ (.cells (boolV 129 fun _ => false).toArray 4))
  have oR := (OwnB.new ((w.alloc (.cells #[.int .u64 x, .int .u64 y] 30)).alloc (.cells #[.int .u64 u, .int .u64 v] 30)) [.int .u64 0, .int .u64 0] 30).ex (Ex.alloc _ (.cells (boolV 129 fun _ => false).toArray 4))
  have oG := OwnB.new (((w.alloc (.cells #[.int .u64 x, .int .u64 y] 30)).alloc (.cells #[.int .u64 u, .int .u64 v] 30)).alloc (.cells #[.int .u64 0, .int .u64 0] 30)) (boolV 129 fun _ => false) 4
  have hxa := (((Ex.alloc w (.cells #[.int .u64 x, .int .u64 y] 30)).alloc' (.cells #[.int .u64 u, .int .u64 v] 30)).alloc' (.cells #[.int .u64 0, .int .u64 0] 30)).alloc' (.cells (boolV 129 fun _ => false).toArray 4)
  simp only [World.size_alloc] at oB oR oG
  have eB : boolV 129 (fun j => decide (1 ≤ j ∧ j ≤ 0) && h j) = boolV 129 (fun _ => false) := boolV_congr fun k _ => by rw [decide_eq_false (by omega)]; rfl
  have oG0 : OwnB _ _ (boolV 129 fun j => decide (1 ≤ j ∧ j ≤ 0) && h j) 4 := eB ▸ oG
  clear oG eB
  go_enter Tryd.func9, Tryd.ntmps9
  go_wp2_with fail
  refine (r03none_any _).mono ?_
  rintro e w' ⟨rfl, rfl⟩
  simp only [World.size_alloc]
  generalize (((w.alloc (.cells #[.int .u64 x, .int .u64 y] 30)).alloc (.cells #[.int .u64 u, .int .u64 v] 30)).alloc (.cells #[.int .u64 0, .int .u64 0] 30)).alloc (.cells (boolV 129 fun _ => false).toArray 4) = w1 at *
  obtain ⟨GB, hGB⟩ : ∃ GB, GB = w.heap.size + 1 + 1 + 1 := ⟨_, rfl⟩
  obtain ⟨RB, hRB⟩ : ∃ RB, RB = w.heap.size + 1 + 1 := ⟨_, rfl⟩
  obtain ⟨BB, hBB⟩ : ∃ BB, BB = w.heap.size + 1 := ⟨_, rfl⟩
  rw [← hGB] at oG0 ⊢
  rw [← hRB] at oR ⊢
  rw [← hBB] at oB ⊢
  have hne1 : GB ≠ RB := by omega
  have hne2 : GB ≠ BB := by omega
  have hne3 : GB ≠ w.heap.size := by omega
  have hGw : w.heap.size ≤ GB := by omega
  have hRw : w.heap.size ≤ RB := by omega
  clear hGB hRB hBB
  go_wp2
  go_loopw [6] (fun kv wr => ∃ k : Nat, k ≤ 128 ∧ kv = .int .i64 ((k : Int) + 1) ∧ Ex w wr ∧ OwnB wr w.heap.size [.int .u64 x, .int .u64 y] 30 ∧ OwnB wr BB [.int .u64 u, .int .u64 v] 30 ∧ OwnB wr RB [.int .u64 0, .int .u64 0] 30 ∧ OwnB wr GB (boolV 129 fun j => decide (1 ≤ j ∧ j ≤ k) && h j) 4) (fun kv _ => 129 - (intOf kv).toNat)
  case atStart => exact ⟨0, by omega, rfl, hxa, oA, oB, oR, oG0⟩
  case round =>
    clear oA oB oR oG0 hxa
    obtain ⟨k, hk, rfl, hxr, oA, oB, oR, oG⟩ := hrel
    have a0 := oA.cell 0
    have a1 := oA.cell 1
    have za := oA.lt
    by_cases hlt : k < 128
    · have hv := HH.out (k + 1)
      rw [show (((k + 1 : Nat) : Int)) = (k : Int) + 1 by omega] at hv
      have H1 : Hid _ := HA.out wr ((k : Int) + 1)
      have H2 : Hid _ := fun (wa : World) => HB.out wa ((k : Int) + 1)
      have HO : Hid (OwnB wr GB (boolV 129 fun j => decide (1 ≤ j ∧ j ≤ k) && h j) 4) := oG
      have q1 : (k : Int) + 1 ≤ 128 := by omega
      have e1 : ((k : Int) + 1).toNat = k + 1 := by omega
      obtain ⟨b1, hb1⟩ : ∃ b, hasB x y ((k : Int) + 1) = b := ⟨_, rfl⟩
      obtain ⟨b2, hb2⟩ : ∃ b, hasB u v ((k : Int) + 1) = b := ⟨_, rfl⟩
      rw [hb1] at H1 hv
      rw [hb2] at H2 hv
      have HV : Hid (h (k + 1) = (b1 && b2)) := hv
      clear HA HB HSt HH hb1 hb2 hv oG
      go_wp2_with fail
      refine Calls.mono H1.out ?_
      rintro e w2 ⟨rfl, hx2⟩
      have oB2 := oB.ex hx2
      have oB20 := oB2.cell 0
      have oB21 := oB2.cell 1
      have zb := oB2.lt
      cases b1 with
      | false =>
        have oG2 := HO.out.ex hx2
        have d1 := (oG2.cell (k + 1)).trans (boolV_get (by omega))
        have f1 := oG2.free (k + 1)
        have zG := oG2.lt
        have oG3 := oG2.set (k + 1) (.bool false)
        rw [boolV_set (by omega)] at oG3
        have HG3 : Hid (OwnB (w2.setCell ⟨GB, k + 1, none⟩ (.bool false)) GB (boolV 129 fun j => decide (1 ≤ j ∧ j ≤ k + 1) && h j) 4) := by
          rw [← cut_step k h, HV.out]; exact oG3
        have hx3 := (hxr.trans hx2).setCell (p := ⟨GB, k + 1, none⟩) hGw (.bool false)
        have oA3 := (oA.ex hx2).set_other (c := GB) (k + 1) (.bool false) hne3
        have oB3 := oB2.set_other (c := GB) (k + 1) (.bool false) hne2
        have oR3 := (oR.ex hx2).set_other (c := GB) (k + 1) (.bool false) hne1
        clear oG3 oG2 HO HV oA oB oR oB2
        generalize (decide (1 ≤ k + 1 ∧ k + 1 ≤ k) && h (k + 1)) = old at *
        go_wp2
        go_roundw
        case rel => exact ⟨k + 1, by omega, by go_num, hx3, oA3, oB3, oR3, HG3.out⟩
        case measure => simp [intOf]; omega
      | true =>
        go_wp2_with fail
        refine Calls.mono (H2.out _) ?_
        rintro e w3 ⟨rfl, hx3⟩
        have hx23 := hx2.trans hx3
        have oG2 := HO.out.ex hx23
        have d1 := (oG2.cell (k + 1)).trans (boolV_get (by omega))
        have f1 := oG2.free (k + 1)
        have zG := oG2.lt
        have oG3 := oG2.set (k + 1) (.bool b2)
        rw [boolV_set (by omega)] at oG3
        have HG3 : Hid (OwnB (w3.setCell ⟨GB, k + 1, none⟩ (.bool b2)) GB (boolV 129 fun j => decide (1 ≤ j ∧ j ≤ k + 1) && h j) 4) := by
          rw [← cut_step k h, HV.out]; exact oG3
        have hx4 := (hxr.trans hx23).setCell (p := ⟨GB, k + 1, none⟩) hGw (.bool b2)
        have oA3 := (oA.ex hx23).set_other (c := GB) (k + 1) (.bool b2) hne3
        have oB3 := (oB.ex hx23).set_other (c := GB) (k + 1) (.bool b2) hne2
        have oR3 := (oR.ex hx23).set_other (c := GB) (k + 1) (.bool b2) hne1
        clear oG3 oG2 HO HV oA oB oR oB2 oB20 oB21 zb
        generalize (decide (1 ≤ k + 1 ∧ k + 1 ≤ k) && h (k + 1)) = old at *
        go_wp2
        go_roundw
        case rel => exact ⟨k + 1, by omega, by go_num, hx4, oA3, oB3, oR3, HG3.out⟩
        case measure => simp [intOf]; omega
    · obtain rfl : k = 128 := by omega
      have H1 : Hid _ := HSt.out wr GB oG
      clear HSt HA HB HH
      go_wp2_with fail
      refine Calls.mono H1.out ?_
      rintro e w2 ⟨rfl, hx2⟩
      have oR2 := oR.ex hx2
      have r0 := oR2.cell 0
      have r1 := oR2.cell 1
      have f0 := oR2.free 0
      have f1 := oR2.free 1
      have zR := oR2.lt
      go_wp2
      refine bodyPost_ret (v := .agg #[.int .u64 s1, .int .u64 s2]) (by simp [results, Tryd.results9, go_sem, r0, r1, zR]) rfl ⟨rfl, ?_⟩
      exact ((hxr.trans hx2).setCell (p := ⟨RB, 0, none⟩) hRw _).setCell (p := ⟨RB, 1, none⟩) hRw _
end Go.Proofs.YtagohmpbbbkdjaaDoor
