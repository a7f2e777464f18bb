/- slices.IndexFunc and slices.ContainsFunc with a closure: whether an element has the property; old memory stays. No condition. -/
import Derived.Test.YtagohmpbbbkdjaaDoorBase
import Derived.Laws.EntriesVeiled
namespace Go.Proofs.YtagohmpbbbkdjaaDoor
set_option linter.unusedSimpArgs false
set_option linter.unusedVariables false
open Go.RowKit
/-- What IndexFunc hands back: an index that is not below 0 exactly if an element has the property. -/
def IdxRet (w : World) (b : Bool) (e : Ending) (w' : World) : Prop := ∃ r : Int, e = .returned (.int .i64 r) ∧ decide (0 ≤ r) = b ∧ Ex w w'
set_option maxHeartbeats 1000000 in
theorem idx_lit_Any1 (lv cv : Value) (l : List Int) (p : Int → Bool) (w : World) (hl : IntsAt w lv l)
    (hf : ∀ (wa : World) (x : Int), x ∈ l → Ex w wa → Calls Tryd.prog 44 #[.int .i64 x, cv] wa fun e w' => e = .returned (.bool (p x)) ∧ Ex wa w') :
    Calls Tryd.prog 45 #[lv, .func (.func 44) #[] #[cv]] w (IdxRet w (l.any p)) := by
  have hl0 := hl
  obtain ⟨a, cap, rfl, h1, h2, h3⟩ := hl
  unfold maxLen at h2
  clear h3
  have HF : Hid (∀ (wa : World) (k : Nat), k < l.length → Ex w wa → Calls Tryd.prog 44 #[.int .i64 (l.getD k 0), cv] wa fun e w' => e = .returned (.bool (p (l.getD k 0))) ∧ Ex wa w') := fun wa k hk hx => hf wa _ (by rw [getD_getElem hk]; exact List.getElem_mem hk) hx
  have HY : Hid (∀ k, k < l.length → p (l.getD k 0) = true → l.any p = true) := fun k hk h => any_of_getD hk h
  have HN : Hid ((∀ k, k < l.length → p (l.getD k 0) = false) → l.any p = false) := fun h => not_any_of_getD h
  clear hf
  generalize l.any p = B at *
  go_enter Tryd.func45, Tryd.ntmps45
  go_wp2
  go_loopw [8] (fun i wr => ∃ k : Nat, k ≤ l.length ∧ i = .int .i64 k ∧ Hid (∀ j, j < k → p (l.getD j 0) = false) ∧ Ex w wr) (fun i _ => l.length - (intOf i).toNat)
  case atStart => exact ⟨0, Nat.zero_le _, rfl, fun j hj => (by omega), Ex.refl _⟩
  case round =>
    obtain ⟨k, hk, rfl, hd, hxr⟩ := hrel
    by_cases hlt : k < l.length
    · obtain ⟨_, _, hv, _, _, h3⟩ := hl0.ex hxr
      cases hv
      obtain ⟨b, off, rfl, hb, hc⟩ := h3 k hlt
      clear h3
      have hfk := HF.out wr k hlt hxr
      by_cases hp : p (l.getD k 0) = true
      · have hB : Hid (B = true) := HY.out k hlt hp
        rw [hp] at hfk
        have HK : Hid _ := hfk
        clear hfk hp HF HY HN hd
        generalize l.getD k 0 = x at *
        go_wp2_with fail
        refine Calls.mono HK.out ?_
        rintro e w2 ⟨rfl, hx2⟩
        go_wp2
        go_ret
        exact ⟨k, rfl, by rw [hB.out]; simp, hxr.trans hx2⟩
      · have hp' : p (l.getD k 0) = false := by simpa using hp
        have hd2 : Hid (∀ j, j < k + 1 → p (l.getD j 0) = false) := fun j hj => by
          by_cases hjk : j = k
          · subst hjk; exact hp'
          · exact hd.out j (by omega)
        rw [hp'] at hfk
        have HK : Hid _ := hfk
        clear hfk hp hp' hd
        generalize l.getD k 0 = x at *
        go_wp2_with fail
        refine Calls.mono HK.out ?_
        rintro e w2 ⟨rfl, hx2⟩
        go_wp2
        go_roundw
        case rel => exact ⟨k + 1, by omega, by go_num, hd2, hxr.trans hx2⟩
        case measure => simp [intOf]; omega
    · have hB : Hid (B = false) := HN.out fun j hj => hd.out j (by omega)
      clear hd HF HY HN
      go_wp2
      go_ret
      exact ⟨-1, rfl, by rw [hB.out]; simp, hxr⟩
theorem has_lit_Any1 (lv cv : Value) (l : List Int) (p : Int → Bool) (w : World) (hl : IntsAt w lv l)
    (hf : ∀ (wa : World) (x : Int), x ∈ l → Ex w wa → Calls Tryd.prog 44 #[.int .i64 x, cv] wa fun e w' => e = .returned (.bool (p x)) ∧ Ex wa w') :
    Calls Tryd.prog 31 #[lv, .func (.func 44) #[] #[cv]] w fun e w' => e = .returned (.bool (l.any p)) ∧ Ex w w' := by
  have HI := idx_lit_Any1 lv cv l p w hl hf
  have HK : Hid _ := HI
  obtain ⟨a, cap, rfl, h1, h2, h3⟩ := hl
  clear h3 HI hf
  generalize l.any p = B at *
  go_enter Tryd.func31, Tryd.ntmps31
  go_wp2_with fail
  refine Calls.mono HK.out ?_
  rintro e w2 ⟨r, rfl, hr, hx2⟩
  go_wp2
  go_ret
  exact ⟨ret_bool (by simp), hx2⟩
set_option maxHeartbeats 1000000 in
theorem idx_lit_All1 (lv cv : Value) (l : List Int) (p : Int → Bool) (w : World) (hl : IntsAt w lv l)
    (hf : ∀ (wa : World) (x : Int), x ∈ l → Ex w wa → Calls Tryd.prog 32 #[.int .i64 x, cv] wa fun e w' => e = .returned (.bool (p x)) ∧ Ex wa w') :
    Calls Tryd.prog 45 #[lv, .func (.func 32) #[] #[cv]] w (IdxRet w (l.any p)) := by
  have hl0 := hl
  obtain ⟨a, cap, rfl, h1, h2, h3⟩ := hl
  unfold maxLen at h2
  clear h3
  have HF : Hid (∀ (wa : World) (k : Nat), k < l.length → Ex w wa → Calls Tryd.prog 32 #[.int .i64 (l.getD k 0), cv] wa fun e w' => e = .returned (.bool (p (l.getD k 0))) ∧ Ex wa w') := fun wa k hk hx => hf wa _ (by rw [getD_getElem hk]; exact List.getElem_mem hk) hx
  have HY : Hid (∀ k, k < l.length → p (l.getD k 0) = true → l.any p = true) := fun k hk h => any_of_getD hk h
  have HN : Hid ((∀ k, k < l.length → p (l.getD k 0) = false) → l.any p = false) := fun h => not_any_of_getD h
  clear hf
  generalize l.any p = B at *
  go_enter Tryd.func45, Tryd.ntmps45
  go_wp2
  go_loopw [8] (fun i wr => ∃ k : Nat, k ≤ l.length ∧ i = .int .i64 k ∧ Hid (∀ j, j < k → p (l.getD j 0) = false) ∧ Ex w wr) (fun i _ => l.length - (intOf i).toNat)
  case atStart => exact ⟨0, Nat.zero_le _, rfl, fun j hj => (by omega), Ex.refl _⟩
  case round =>
    obtain ⟨k, hk, rfl, hd, hxr⟩ := hrel
    by_cases hlt : k < l.length
    · obtain ⟨_, _, hv, _, _, h3⟩ := hl0.ex hxr
      cases hv
      obtain ⟨b, off, rfl, hb, hc⟩ := h3 k hlt
      clear h3
      have hfk := HF.out wr k hlt hxr
      by_cases hp : p (l.getD k 0) = true
      · have hB : Hid (B = true) := HY.out k hlt hp
        rw [hp] at hfk
        have HK : Hid _ := hfk
        clear hfk hp HF HY HN hd
        generalize l.getD k 0 = x at *
        go_wp2_with fail
        refine Calls.mono HK.out ?_
        rintro e w2 ⟨rfl, hx2⟩
        go_wp2
        go_ret
        exact ⟨k, rfl, by rw [hB.out]; simp, hxr.trans hx2⟩
      · have hp' : p (l.getD k 0) = false := by simpa using hp
        have hd2 : Hid (∀ j, j < k + 1 → p (l.getD j 0) = false) := fun j hj => by
          by_cases hjk : j = k
          · subst hjk; exact hp'
          · exact hd.out j (by omega)
        rw [hp'] at hfk
        have HK : Hid _ := hfk
        clear hfk hp hp' hd
        generalize l.getD k 0 = x at *
        go_wp2_with fail
        refine Calls.mono HK.out ?_
        rintro e w2 ⟨rfl, hx2⟩
        go_wp2
        go_roundw
        case rel => exact ⟨k + 1, by omega, by go_num, hd2, hxr.trans hx2⟩
        case measure => simp [intOf]; omega
    · have hB : Hid (B = false) := HN.out fun j hj => hd.out j (by omega)
      clear hd HF HY HN
      go_wp2
      go_ret
      exact ⟨-1, rfl, by rw [hB.out]; simp, hxr⟩
theorem has_lit_All1 (lv cv : Value) (l : List Int) (p : Int → Bool) (w : World) (hl : IntsAt w lv l)
    (hf : ∀ (wa : World) (x : Int), x ∈ l → Ex w wa → Calls Tryd.prog 32 #[.int .i64 x, cv] wa fun e w' => e = .returned (.bool (p x)) ∧ Ex wa w') :
    Calls Tryd.prog 31 #[lv, .func (.func 32) #[] #[cv]] w fun e w' => e = .returned (.bool (l.any p)) ∧ Ex w w' := by
  have HI := idx_lit_All1 lv cv l p w hl hf
  have HK : Hid _ := HI
  obtain ⟨a, cap, rfl, h1, h2, h3⟩ := hl
  clear h3 HI hf
  generalize l.any p = B at *
  go_enter Tryd.func31, Tryd.ntmps31
  go_wp2_with fail
  refine Calls.mono HK.out ?_
  rintro e w2 ⟨r, rfl, hr, hx2⟩
  go_wp2
  go_ret
  exact ⟨ret_bool (by simp), hx2⟩
end Go.Proofs.YtagohmpbbbkdjaaDoor
