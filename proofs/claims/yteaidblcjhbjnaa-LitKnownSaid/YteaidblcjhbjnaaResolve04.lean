/- lit.Resolve: the closure that collects, and the whole. -/
import Derived.Test.YteaidblcjhbjnaaTerm04b
import Derived.Test.YteaidblcjhbjnaaContains
namespace Go.Proofs.Yteaidblcjhbjnaa
set_option linter.unusedSimpArgs false
set_option linter.unusedVariables false
open Go.RowKit
/-- What the closure leaves: the variable holds a list of the call's own. -/
def Collected (w0 : World) (B base : Nat) (L : List Int) (e : Ending) (w' : World) : Prop :=
  e = .returned (.tuple #[]) ∧ ∃ v, OwnB w' B [v] 25 ∧ OwnI w' base v L ∧ Ex w0 w' ∧ base ≤ w'.heap.size
set_option maxHeartbeats 1000000 in
theorem resolve1_any (w0 : World) (B base : Nat) (lv v : Value) (l xs : List Int) (but : Int) (w : World) (hl : IntsAt w0 lv l) (hx : Ex w0 w) (h0 : w0.heap.size ≤ B) (hB : B < base) (hw : base ≤ w.heap.size)
    (hv : OwnB w B [v] 25) (hO : OwnI w base v xs) (hb : (xs.length + l.length) * 8 ≤ 140737488355328) :
    Calls Try.prog 41 #[lv, .int .i64 but, .pointer (some ⟨B, 0, none⟩)] w (Collected w0 B base (xs ++ l.filter (· != but))) := by
  have hl0 := hl
  obtain ⟨a, cap, rfl, h1, h2, h3⟩ := hl
  unfold maxLen at h2
  clear h3
  go_enter Try.func41, Try.ntmps41
  go_wp2
  go_loopw [9] (fun i wr => ∃ k : Nat, k ≤ l.length ∧ i = .int .i64 k ∧ ∃ v', OwnB wr B [v'] 25 ∧ OwnI wr base v' (xs ++ (l.take k).filter (· != but)) ∧ Ex w0 wr ∧ base ≤ wr.heap.size) (fun i _ => l.length - (intOf i).toNat)
  case atStart => exact ⟨0, Nat.zero_le _, rfl, v, hv, by simpa using hO, hx, hw⟩
  case round =>
    obtain ⟨k, hk, rfl, v', hvr, hOr, hxr, hwr⟩ := hrel
    by_cases hlt : k < l.length
    · obtain ⟨_, _, hv', _, _, h3⟩ := hl0.ex hxr
      cases hv'
      obtain ⟨b, off, rfl, hb', hc⟩ := h3 k hlt
      clear h3
      have hS : (l.take (k + 1)).filter (· != but) = (l.take k).filter (· != but) ++ (if (l.getD k 0 != but) = true then [l.getD k 0] else []) := by
        rw [List.take_succ_eq_append_getElem hlt, List.filter_append, getD_getElem hlt]
        simp [List.filter_cons]
      have hlen : Hid (((l.take k).filter (· != but)).length ≤ k) := by
        show _ ≤ _
        exact Nat.le_trans (List.length_filter_le _ _) (by rw [List.length_take]; omega)
      by_cases hq : (l.getD k 0 != but) = true
      · rw [if_pos hq] at hS
        have hS2 : Hid _ := hS
        clear hS
        obtain ⟨F, hF⟩ : ∃ F, F = (l.take k).filter (· != but) := ⟨_, rfl⟩
        rw [← hF] at hOr hlen hS2
        clear hF
        obtain ⟨F', hF'⟩ : ∃ F', F' = (l.take (k + 1)).filter (· != but) := ⟨_, rfl⟩
        rw [← hF'] at hS2
        have HF' : Hid _ := hF'
        clear hF'
        generalize l.getD k 0 = q at *
        have c0 := hvr.cell 0
        have f0 := hvr.free 0
        have hI1 := intsAt_fresh wr q 3
        go_wp2_with (at_builtin; refine wpList_append_ints rfl (.tmp 16) (.tmp 18) rfl rfl rfl (hOr.ex (Ex.alloc _ _)) hI1 ?c1 ?c2 ?_)
        case c1 => have := hlen.out; simp only [List.length_append, List.length_cons, List.length_nil]; omega
        case c2 => exact Nat.le_trans hwr (by show _ ≤ (wr.heap.push _).size; simp)
        intro v2 w2 hown hg
        have hx2 : Ex w0 w2 := grown_ex (hxr.alloc' _) hg (fun k hk => by have := ownsRow_block hOr k hk; omega)
        have hB2 : Below (B + 1) wr w2 := Below.grown ((Below.refl (B + 1) wr).alloc (by omega) _) hg (by show _ ≤ (wr.heap.push _).size; simp; omega) (fun k hk => by have := ownsRow_block hOr k hk; omega)
        have hv2 : OwnB w2 B [v'] 25 := by
          unfold OwnB at *
          rw [hB2.block B (by omega)]; exact hvr
        have hw2 : base ≤ w2.heap.size := by have := hB2.size; omega
        have hown2 : OwnI w2 base v2 (xs ++ (F ++ [q])) := hown
        clear hg hown hB2 hvr hOr
        obtain ⟨g, gc, rest, rfl, hgb, _, _, _⟩ := OwnI.form hown2 (by simp only [List.length_append, List.length_cons, List.length_nil]; omega)
        generalize hN : (xs ++ (F ++ [q])).length = N at *
        have HN : Hid _ := hN
        clear hN
        have c2 := hv2.cell 0
        have f2 := hv2.free 0
        have hv3 := hv2.set 0 (.slice (some ⟨g, 0, none⟩) N gc)
        have hown3 := OwnI.setOther hown2 hB 0 (.slice (some ⟨g, 0, none⟩) N gc)
        have hx3 := hx2.setCell (p := ⟨B, 0, none⟩) h0 (.slice (some ⟨g, 0, none⟩) N gc)
        go_wp2
        go_roundw
        case rel => exact ⟨k + 1, by omega, by go_num, _, hv3, by rw [← HF'.out, hS2.out]; exact hown3, hx3, by simpa [World.setCell] using hw2⟩
        case measure => simp [intOf]; omega
      · have hq' : (l.getD k 0 != but) = false := by simpa using hq
        rw [if_neg hq, List.append_nil] at hS
        have hS2 : Hid _ := hS
        clear hS hq hlen
        generalize l.getD k 0 = q at *
        go_wp2
        go_roundw
        case rel => exact ⟨k + 1, by omega, by go_num, v', hvr, by rw [hS2.out]; exact hOr, hxr, hwr⟩
        case measure => simp [intOf]; omega
    · obtain rfl : k = l.length := by omega
      rw [List.take_length] at hOr
      go_wp2
      go_end0
      exact ⟨rfl, v', hvr, hOr, hxr, hwr⟩
end Go.Proofs.Yteaidblcjhbjnaa
