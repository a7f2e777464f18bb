/- The program's examined trail in memory: wrong, reason. No condition but that the literals are ones. -/
import Derived.Test.YteagoaiiacideaaLearnS
import Derived.Test.YteagoaiiacideaaStp
import Derived.Test.YteagoaiiacideaaG2
import Derived.Deep.RegionLaw
namespace Go.Proofs.Yteagoaiiacideaa
set_option linter.unusedSimpArgs false
set_option linter.unusedVariables false
open Go.RowKit
set_option maxRecDepth 20000
/-- By variable, the step that has it, or -1. -/
def atI (pre : List St) (v : Int) : Int := match pre.findIdx? (fun s => litVar s.lit == v) with | some i => (i : Int) | none => -1
def atV (pre : List St) : List Value := (List.range 129).map fun v : Nat => .int .i64 (atI pre v)
theorem atV_length (pre : List St) : (atV pre).length = 129 := by simp [atV]
theorem atV_get (pre : List St) {v : Int} (h0 : 0 ≤ v) (h1 : v ≤ 128) : (atV pre)[v.toNat]? = some (.int .i64 (atI pre v)) := by
  unfold atV
  rw [List.getElem?_map, List.getElem?_range (by omega)]
  simp [Int.toNat_of_nonneg h0]
theorem atI_range (pre : List St) (v : Int) : -1 ≤ atI pre v ∧ atI pre v < pre.length := by
  unfold atI
  cases h : pre.findIdx? (fun s => litVar s.lit == v) with
  | none => simp only; omega
  | some i =>
    rw [List.findIdx?_eq_some_iff_getElem] at h
    obtain ⟨hk, _⟩ := h
    simp only
    omega
theorem atI_neg {pre : List St} {v : Int} : atI pre v < 0 ↔ ∀ s ∈ pre, litVar s.lit ≠ v := by
  unfold atI
  cases h : pre.findIdx? (fun s => litVar s.lit == v) with
  | none =>
    rw [List.findIdx?_eq_none_iff] at h
    simp only [show ((-1 : Int) < 0) = True from by simp, true_iff]
    intro s hs e
    have := h s hs
    simp [e] at this
  | some i =>
    rw [List.findIdx?_eq_some_iff_getElem] at h
    obtain ⟨hk, h1, _⟩ := h
    constructor
    · intro h; simp only at h; omega
    · intro h; exact absurd (beq_iff_eq.1 h1) (h _ (List.getElem_mem hk))
theorem atI_append {pre : List St} {s : St} {v : Int} (h : atI pre (litVar s.lit) < 0) : atI (pre ++ [s]) v = if v = litVar s.lit then (pre.length : Int) else atI pre v := by
  rw [atI_neg] at h
  unfold atI
  rw [List.findIdx?_append]
  by_cases e : v = litVar s.lit
  · subst e
    rw [if_pos rfl]
    have : pre.findIdx? (fun t => litVar t.lit == litVar s.lit) = none := by
      rw [List.findIdx?_eq_none_iff]
      intro t ht
      rw [beq_eq_false_iff_ne]; exact h t ht
    rw [this]
    simp
  · rw [if_neg e]
    have : [s].findIdx? (fun t => litVar t.lit == v) = none := by
      rw [List.findIdx?_eq_none_iff]
      intro t ht
      rw [List.mem_singleton.1 ht, beq_eq_false_iff_ne]; exact fun g => e g.symm
    rw [this]
    cases pre.findIdx? (fun t => litVar t.lit == v) <;> simp
theorem atV_set {pre : List St} {s : St} (h : atI pre (litVar s.lit) < 0) : (atV pre).set (litVar s.lit).toNat (.int .i64 pre.length) = atV (pre ++ [s]) := by
  have hr := litVar_range s.lit
  apply List.ext_getElem?
  intro j
  by_cases hj : j = (litVar s.lit).toNat
  · subst hj
    rw [List.getElem?_set_self (by rw [atV_length]; omega), atV_get _ hr.1 hr.2, atI_append h, if_pos rfl]
  · rw [List.getElem?_set_ne (fun e => hj e.symm)]
    by_cases hl : j < 129
    · unfold atV
      rw [List.getElem?_map, List.getElem?_map, List.getElem?_range hl]
      simp only [Option.map_some]
      rw [atI_append h, if_neg (by omega)]
    · rw [List.getElem?_eq_none (by rw [atV_length]; omega), List.getElem?_eq_none (by rw [atV_length]; omega)]
/-- No variable occurs twice. -/
def Once (pre : List St) : Prop := ∀ i j, i < j → j < pre.length → litVar (sL pre j) ≠ litVar (sL pre i)
theorem litVar_two {x y : Int} (hx : litVar x ≠ 0) (h : litVar x = litVar y) : x = y ∨ x = -y := by
  unfold litVar at *
  (repeat' split at hx) <;> (repeat' split at h) <;> omega
theorem litVar_neg (x : Int) : litVar (-x) = litVar x := by unfold litVar; (repeat' split) <;> omega
/-- What 'wrong' finds. -/
theorem wrong_at {pre : List St} (h : Once pre) {l : Int} (hl : litVar l ≠ 0) : wrongI pre l = if 0 ≤ atI pre (litVar l) ∧ sL pre (atI pre (litVar l)).toNat = -l then atI pre (litVar l) else -1 := by
  cases hf : pre.findIdx? (fun s => litVar s.lit == litVar l) with
  | none =>
    have ha : atI pre (litVar l) = -1 := by unfold atI; rw [hf]
    rw [ha, if_neg (by omega)]
    have hn : ∀ s ∈ pre, litVar s.lit ≠ litVar l := atI_neg.1 (by rw [ha]; decide)
    have : wrongN pre l = none := by
      rw [wrongN_none, ← Bool.not_eq_true, trueT_iff]
      rintro ⟨s, hs, e⟩
      exact hn s hs (by rw [e, litVar_neg])
    unfold wrongI; rw [this]
  | some i =>
    have ha : atI pre (litVar l) = i := by unfold atI; rw [hf]
    rw [List.findIdx?_eq_some_iff_getElem] at hf
    obtain ⟨hi, hv, hno⟩ := hf
    have hv : litVar (sL pre i) = litVar l := by unfold sL; rw [getD_getElem hi]; exact beq_iff_eq.1 hv
    rw [ha, Int.toNat_natCast]
    have hone : ∀ j, j < pre.length → sL pre j = -l → j = i := fun j hj e => by
      have e' : litVar (sL pre j) = litVar l := by rw [e, litVar_neg]
      rcases Nat.lt_trichotomy i j with g | g | g
      · exact absurd (e'.trans hv.symm) (h i j g hj)
      · exact g.symm
      · exact absurd (hv.trans e'.symm) (h j i g hi)
    by_cases e : sL pre i = -l
    · rw [if_pos ⟨by omega, e⟩]
      cases hw : wrongN pre l with
      | none =>
        rw [wrongN_none] at hw
        have : trueT pre (-l) = true := trueT_iff.2 ⟨pre.getD i default, by rw [getD_getElem hi]; exact List.getElem_mem hi, e⟩
        rw [hw] at this; cases this
      | some j =>
        obtain ⟨h1, h2⟩ := wrongN_some hw
        unfold wrongI
        rw [hw]
        simp [hone j h1 h2]
    · rw [if_neg (fun g => e g.2)]
      cases hw : wrongN pre l with
      | none => unfold wrongI; rw [hw]
      | some j =>
        obtain ⟨h1, h2⟩ := wrongN_some hw
        rw [hone j h1 h2] at h2
        exact absurd h2 e
/-- The cells of the examined trail. -/
def trlV (n : Int) (lv sv : Value) (pre : List St) : List Value := .int .i64 n :: lv :: sv :: atV pre
theorem trlV_at (n : Int) (lv sv : Value) (pre : List St) {v : Int} (h0 : 0 ≤ v) (h1 : v ≤ 128) : (trlV n lv sv pre)[3 + v.toNat]? = some (.int .i64 (atI pre v)) := by
  rw [show 3 + v.toNat = v.toNat + 1 + 1 + 1 by omega]
  simp only [trlV, List.getElem?_cons_succ]
  exact atV_get pre h0 h1
theorem trlV_set (n : Int) (lv sv : Value) {pre : List St} {s : St} (h : atI pre (litVar s.lit) < 0) : (trlV n lv sv pre).set (3 + (litVar s.lit).toNat) (.int .i64 pre.length) = trlV n lv sv (pre ++ [s]) := by
  rw [show 3 + (litVar s.lit).toNat = (litVar s.lit).toNat + 1 + 1 + 1 by omega]
  simp only [trlV, List.set_cons_succ, atV_set h]
theorem once_take {tr : List St} (h : Once tr) (i : Nat) : Once (tr.take i) := fun a b hab hb => by
  rw [List.length_take] at hb
  have e : ∀ k, k < i → k < tr.length → sL (tr.take i) k = sL tr k := fun k h1 h2 => by
    unfold sL
    rw [getD_getElem (by rw [List.length_take]; omega), getD_getElem h2, List.getElem_take]
  rw [e a (by omega) (by omega), e b (by omega) (by omega)]
  exact h a b hab (by omega)
/-- What is known of the examined trail: its block; its steps; the first i of them have been entered. -/
structure TrlAt (w : World) (X : Nat) (n : Int) (lv sv : Value) (tr : List St) (i : Nat) : Prop where
  body : OwnB w X (trlV n lv sv (tr.take i)) 101
  steps : StepsAt w sv tr
theorem TrlAt.ex {w w' : World} {X : Nat} {n : Int} {lv sv : Value} {tr : List St} {i : Nat} (h : TrlAt w X n lv sv tr i) (hx : Ex w w') : TrlAt w' X n lv sv tr i := ⟨h.1.ex hx, h.2.ex hx⟩
set_option maxHeartbeats 4000000 in
theorem learnWrong_any (w : World) (X : Nat) (n : Int) (lv sv : Value) (tr : List St) (i : Nat) (l : Int) (h : TrlAt w X n lv sv tr i) (hi : i ≤ tr.length) (ho : Once (tr.take i)) (hl : litVar l ≠ 0) (hlen : tr.length ≤ 1000) :
    Calls Try.prog 34 #[.pointer (some ⟨X, 0, none⟩), .int .i64 l] w fun e w' => e = .returned (.int .i64 (wrongI (tr.take i) l)) ∧ Ex w w' := by
  have HV : Hid (∀ wa, Calls Try.prog 61 #[.int .i64 l] wa fun e w' => e = .returned (.int .i64 (litVar l)) ∧ wa = w') := fun wa => litVar_any l wa
  have hW : Hid (wrongI (tr.take i) l = if 0 ≤ atI (tr.take i) (litVar l) ∧ sL (tr.take i) (atI (tr.take i) (litVar l)).toNat = -l then atI (tr.take i) (litVar l) else -1) := wrong_at ho hl
  have hr := litVar_range l
  have ha := atI_range (tr.take i) (litVar l)
  rw [List.length_take, Nat.min_eq_left hi] at ha
  have hc := h.body.cell (3 + (litVar l).toNat)
  rw [trlV_at _ _ _ _ hr.1 hr.2] at hc
  have c2 : w.cell? ⟨X, 2, none⟩ = some sv := h.body.cell 2
  have hX := h.body.lt
  have hneg : -128 ≤ l ∧ l ≤ 128 := by unfold litVar at hl; (repeat' split at hl) <;> omega
  have hwl : IntKind.i64.wrap (-l) = -l := IntWalk.i64_in _ (by omega)
  obtain ⟨sa, scap, rfl, s1, s2, s3⟩ := h.steps
  unfold maxLen at s2
  have hL : Hid (∀ k, k < i → sL (tr.take i) k = sL tr k) := fun k hk => by
    unfold sL
    rw [getD_getElem (by rw [List.length_take]; omega), getD_getElem (by omega), List.getElem_take]
  generalize wrongI (tr.take i) l = WI at *
  generalize atI (tr.take i) (litVar l) = a at *
  generalize litVar l = v at *
  have q0 : (0 : Int) ≤ v := hr.1
  have q1 : v < 129 := by omega
  have hvn : ((v.toNat : Nat) : Int) = v := by omega
  generalize hvN : v.toNat = vN at *
  subst hvn
  clear h hvN
  have hcx := ext_cell hc
  by_cases hp : 0 ≤ a
  · obtain ⟨k, rfl⟩ : ∃ k : Nat, a = k := ⟨a.toNat, by omega⟩
    obtain ⟨b, off, rfl, hb, g0, g1, g2⟩ := s3 k (by omega)
    rw [Int.toNat_natCast, hL.out k (by omega)] at hW
    clear s3 hL g1 g2
    have hW' : Hid (WI = if sL tr k = -l then (k : Int) else -1) := by
      show _ = _
      rw [hW.out]
      by_cases e : sL tr k = -l
      · rw [if_pos ⟨by omega, e⟩, if_pos e]
      · rw [if_neg (fun g => e g.2), if_neg e]
    clear hW
    unfold sL at hW'
    generalize (tr.getD k default).lit = x at *
    have q2 : ((k : Nat) : Int) < tr.length := by omega
    by_cases e : x = -l
    · have hW2 : Hid (WI = k) := by show _ = _; rw [hW'.out, if_pos e]
      have eb : (x == -l) = true := by simp [e]
      clear hW' e
      go_enter Try.func34, Try.ntmps34
      go_wp2
      refine wp_region_quiet_ext (by kernel_rfl) (by kernel_rfl) ?_
      repeat (go_big_quiet_step ((first | (go_at_call 61; exact Calls.quiet_ext_same (HV.out _)) | fail)))
      refine wpQuiet_nil ?_
      intro w2 hx2
      replace g0 := ex_cell g0 hx2
      replace c2 := ex_cell c2 hx2
      have hX2 := Nat.lt_of_lt_of_le hX hx2.size
      go_wp2
      go_ret
      exact ⟨ret_int hW2.out.symm, hx2⟩
    · have hW2 : Hid (WI = -1) := by show _ = _; rw [hW'.out, if_neg e]
      have eb : (x == -l) = false := by simp [e]
      clear hW' e
      go_enter Try.func34, Try.ntmps34
      go_wp2
      refine wp_region_quiet_ext (by kernel_rfl) (by kernel_rfl) ?_
      repeat (go_big_quiet_step ((first | (go_at_call 61; exact Calls.quiet_ext_same (HV.out _)) | fail)))
      refine wpQuiet_nil ?_
      intro w2 hx2
      replace g0 := ex_cell g0 hx2
      replace c2 := ex_cell c2 hx2
      have hX2 := Nat.lt_of_lt_of_le hX hx2.size
      go_wp2
      go_ret
      exact ⟨ret_int hW2.out.symm, hx2⟩
  · have hW2 : Hid (WI = -1) := by show _ = _; rw [hW.out, if_neg (fun g => hp g.1)]
    clear hW hL s3
    go_enter Try.func34, Try.ntmps34
    go_wp2
    refine wp_region_quiet_ext (by kernel_rfl) (by kernel_rfl) ?_
    repeat (go_big_quiet_step ((first | (go_at_call 61; exact Calls.quiet_ext_same (HV.out _)) | fail)))
    refine wpQuiet_nil ?_
    intro w2 hx2
    go_wp2
    go_ret
    exact ⟨ret_int hW2.out.symm, hx2⟩
end Go.Proofs.Yteagoaiiacideaa
