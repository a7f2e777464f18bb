/- probe.has and probe.Probe: literals that fail. No condition. -/
import Derived.Test.YtnhlfhoeglnajaaFull
import Derived.Test.YtnhlfhoeglnajaaG1
import Derived.Test.YtnhlfhoeglnajaaUnit4
import Derived.Test.YtnhlfhoeglnajaaEval
import Derived.BigRegion
namespace Go.Proofs.Ytnhlfhoeglnajaa
set_option linter.unusedSimpArgs false
set_option linter.unusedVariables false
open Go.RowKit
set_option maxRecDepth 20000
theorem hasV_none {l : List Int} {v : Int} (h : ∀ k, k < l.length → ¬ litVar (l.getD k 0) = v) : hasV l v = false := by
  rw [← Bool.not_eq_true, hasV_iff]
  rintro ⟨x, hx, e⟩
  obtain ⟨k, hk, e'⟩ := List.getElem_of_mem hx
  exact h k hk (by rw [getD_getElem hk, e']; exact e)
theorem hasV_at {l : List Int} {v : Int} {k : Nat} (hk : k < l.length) (h : litVar (l.getD k 0) = v) : hasV l v = true :=
  hasV_iff.2 ⟨_, by rw [getD_getElem hk]; exact List.getElem_mem hk, h⟩
set_option maxHeartbeats 1000000 in
theorem probeHas_any (lv : Value) (l : List Int) (v : Int) (w : World) (hl : IntsAt w lv l) :
    Calls Try.prog 39 #[lv, .int .i64 v] w fun e w' => e = .returned (.bool (hasV l v)) ∧ Ex w w' := by
  have hl0 := hl
  obtain ⟨a, cap, rfl, h1, h2, h3⟩ := hl
  unfold maxLen at h2
  clear h3
  have HY : Hid (∀ k, k < l.length → litVar (l.getD k 0) = v → hasV l v = true) := fun k hk h => hasV_at hk h
  have HN : Hid ((∀ k, k < l.length → ¬ litVar (l.getD k 0) = v) → hasV l v = false) := hasV_none
  generalize hasV l v = B at *
  go_enter Try.func39, Try.ntmps39
  go_wp2
  go_loopw [9] (fun i wr => ∃ k : Nat, k ≤ l.length ∧ i = .int .i64 k ∧ Ex w wr ∧ Hid (∀ j, j < k → ¬ litVar (l.getD j 0) = v)) (fun i _ => l.length - (intOf i).toNat)
  case atStart => exact ⟨0, Nat.zero_le _, rfl, Ex.refl _, fun j hj => (by omega)⟩
  case round =>
    obtain ⟨k, hk, rfl, hx, hd⟩ := hrel
    by_cases hlt : k < l.length
    · obtain ⟨_, _, hv, _, _, h3⟩ := hl0.ex hx
      cases hv
      obtain ⟨b, off, rfl, hb, hc⟩ := h3 k hlt
      clear h3
      have HV : Hid (Calls Try.prog 22 #[.int .i64 (l.getD k 0)] wr fun e w' => e = .returned (.int .i64 (litVar (l.getD k 0))) ∧ wr = w') := litVar_any _ _
      by_cases he : litVar (l.getD k 0) = v
      · have hB : Hid (B = true) := HY.out k hlt he
        have he' : (litVar (l.getD k 0) == v) = true := by simpa using he
        clear hd he HY HN
        generalize litVar (l.getD k 0) = u at *
        generalize l.getD k 0 = y at *
        go_wp2_with fail
        refine Calls.mono HV.out ?_
        rintro e w2 ⟨rfl, rfl⟩
        clear HV
        go_wp2
        go_ret
        exact ⟨ret_bool hB.out.symm, hx⟩
      · have hd2 : Hid (∀ j, j < k + 1 → ¬ litVar (l.getD j 0) = v) := fun j hj => by
          by_cases hjk : j = k
          · subst hjk; exact he
          · exact hd.out j (by omega)
        have he' : (litVar (l.getD k 0) == v) = false := by simpa using he
        clear hd he HY
        generalize litVar (l.getD k 0) = u at *
        generalize l.getD k 0 = y at *
        go_wp2_with fail
        refine Calls.mono HV.out ?_
        rintro e w2 ⟨rfl, rfl⟩
        clear HV
        go_wp2
        go_roundw
        case rel => exact ⟨k + 1, by omega, by go_num, hx, hd2⟩
        case measure => simp [intOf]; omega
    · have hB : Hid (B = false) := HN.out fun j hj => hd.out j (by omega)
      clear hd HY HN
      go_wp2
      go_ret
      exact ⟨ret_bool hB.out.symm, hx⟩
/-- The literal of an index. -/
def lit2 (v : Int) : Nat → Int | 0 => v | _ => -v
theorem fail_has {n : Int} {ll : List (List Int)} {f : List Int} {m : Nat} {v : Int} (h : hasV f v = true) : failF n ll f (m + 1) v = failF n ll f m (v + 1) := by
  conv => lhs; unfold failF
  rw [if_pos h]
theorem fail_both {n : Int} {ll : List (List Int)} {f : List Int} {m : Nat} {v : Int} (h : hasV f v = false) (hb : ∀ j, j < 2 → closB n ll (f ++ [lit2 v j]) = true) : failF n ll f (m + 1) v = failF n ll f m (v + 1) := by
  conv => lhs; unfold failF
  have h0 := hb 0 (by omega)
  have h1 := hb 1 (by omega)
  simp only [lit2] at h0 h1
  rw [if_neg (by simp [h]), if_neg (by simp [h0]), if_neg (by simp [h1])]
theorem fail_at {n : Int} {ll : List (List Int)} {f : List Int} {m : Nat} {v : Int} (h : hasV f v = false) {k : Nat} (hk : k < 2) (hb : ∀ j, j < k → closB n ll (f ++ [lit2 v j]) = true) (hn : closB n ll (f ++ [lit2 v k]) = false) : failF n ll f (m + 1) v = some (lit2 v k) := by
  unfold failF
  rw [if_neg (by simp [h])]
  match k, hk with
  | 0, _ => rw [if_pos (by simpa [lit2] using hn)]; rfl
  | 1, _ =>
    have h0 := hb 0 (by omega)
    simp only [lit2] at h0 hn
    rw [if_neg (by simp [h0]), if_pos hn]; rfl
theorem flat_len {f : Nat → List Int} (h : ∀ k, (f k).length ≤ 2) : ∀ l : List Nat, (l.flatMap f).length ≤ 2 * l.length
  | [] => by simp
  | a :: t => by have := flat_len h t; have := h a; simp only [List.flatMap_cons, List.length_append, List.length_cons]; omega
theorem orderL_len (l : List Int) : (orderL l).length ≤ 256 := by
  have := flat_len (f := fun (v : Nat) => (if l.contains (-((v : Int) + 1)) then [-((v : Int) + 1)] else []) ++ (if l.contains ((v : Int) + 1) then [(v : Int) + 1] else [])) (fun k => by simp only [List.length_append]; split <;> split <;> simp) (List.range 128)
  rw [List.length_range] at this
  exact this
theorem closL_len {n : Int} {ll : List (List Int)} {ds : List Int} : (closL n ll ds).length ≤ 256 := by
  unfold closL; split
  · exact orderL_len _
  · simp
theorem IntsAt.full {w : World} {a : Option Addr} {n c : Nat} {l : List Int} (h : IntsAt w (.slice a n c) l) : IntsAt w (.slice a n n) l := by
  obtain ⟨a', cap', hv, h1, h2, h3⟩ := h
  cases hv
  exact ⟨a, _, rfl, Nat.le_refl _, by omega, h3⟩
theorem lit2_cell {v : Int} {k : Nat} (h : k < 2) : [Value.int .i64 v, Value.int .i64 (-v)][k]? = some (.int .i64 (lit2 v k)) := by
  rcases (by omega : k = 0 ∨ k = 1) with rfl | rfl <;> rfl
theorem lit2_bound {v : Int} {k : Nat} (h1 : 1 ≤ v) (h2 : v ≤ 128) : -128 ≤ lit2 v k ∧ lit2 v k ≤ 128 := by
  cases k <;> simp only [lit2] <;> omega
end Go.Proofs.Ytnhlfhoeglnajaa
