/- The reference's Chain: the walk. For valid theories and literals. -/
import Derived.Test.YtnhlfhoeglnajaaChain
namespace Go.Proofs.Ytnhlfhoeglnajaa
set_option linter.unusedSimpArgs false
set_option linter.unusedVariables false
open Go.RowKit
set_option maxRecDepth 20000
theorem row_other {w : World} {base b : Nat} {v : Value} {l : List Int} (h : OwnI w base v l) (hb : b < base) : v.ownBlock ≠ some b := fun e => by
  rcases h.2 with ⟨hn, _⟩ | ⟨g, c, cur, hv, hg, _⟩
  · rw [hn] at e; cases e
  · rw [hv] at e
    simp only [Value.ownBlock, Option.some.injEq] at e
    omega
def ChainRet (w : World) (n : Int) (ll : List (List Int)) (l : Int) (e : Ending) (w' : World) : Prop := ∃ v O, e = .returned v ∧ OwnI w' w.heap.size v O ∧ (∀ z, z ∈ O ↔ Tied n ll l z) ∧ Ex w w'
set_option maxRecDepth 100000 in
set_option maxHeartbeats 8000000 in
theorem r15Chain_any (n : Nat) (lv : Value) (ll : List (List Int)) (l : Int) (w : World) (hn : n ≤ 128) (hR : RowsAt w lv ll) (hl : litValid l n = true) :
    Calls Try.prog 56 #[.agg #[.int .i64 n, lv], .int .i64 l] w (ChainRet w n ll l) := by
  have HMu : Hid (∀ wa x y, Ex w wa → Calls Try.prog 80 #[.agg #[.int .i64 n, lv], .int .i64 x, .int .i64 y] wa fun e w' => e = .returned (.bool (mutB n ll x y)) ∧ Ex wa w') := fun wa x y hx => r15mutual_any n lv ll x y wa (hR.ex hx)
  have HMuG : Hid (∀ wa x y b, Ex w wa → mutB n ll x y = b → Calls Try.prog 80 #[.agg #[.int .i64 n, lv], .int .i64 x, .int .i64 y] wa fun e w' => e = .returned (.bool b) ∧ Ex wa w') := fun wa x y b hx hb => hb ▸ HMu.out wa x y hx
  have HIn : Hid (∀ wa u (m : List Int) (x : Int), IntsAt wa u m → Calls Try.prog 57 #[u, .int .i64 x] wa fun e w' => e = .returned (.bool (m.contains x)) ∧ wa = w') := fun wa u m x h => r15in_any u m x wa h
  obtain ⟨ra, rcap, rfl, r1, r2, r3⟩ := hR
  clear r3
  have oT := (OwnB.new w [.int .i64 n, .slice ra ll.length rcap] 24).ex (Ex.alloc _ (.cells #[.int .i64 l] 3))
  have hxa := (Ex.alloc w (.cells #[.int .i64 n, .slice ra ll.length rcap] 24)).alloc' (.cells #[.int .i64 l] 3)
  have h0 : OwnI ((w.alloc (.cells #[.int .i64 n, .slice ra ll.length rcap] 24)).alloc (.cells #[.int .i64 l] 3)) (w.heap.size + 1) (.slice (some ⟨w.heap.size + 1, 0, none⟩) 1 1) [l] := by
    have := World.ownsRow_lit (base := w.heap.size + 1) (e := 3) (size := 1) (w.alloc (.cells #[.int .i64 n, .slice ra ll.length rcap] 24)) #[.int .i64 l] 1 (by rw [alloc_size]; omega) (by decide) rfl
    rw [alloc_size] at this
    exact this
  have hF0 : Found n ll l [l] := ⟨fun z hz => by rw [List.mem_singleton.1 hz]; exact .refl l, by simp, by simp⟩
  have HFl : Hid (∀ O, Found n ll l O → O.length ≤ 257) := fun O h => h.len hl
  have HFv : Hid (∀ O, Found n ll l O → ∀ z ∈ O, litValid z n = true) := fun O h z hz => (h.tied z hz).valid hl
  have hsz0 : w.heap.size + 1 ≤ ((w.alloc (.cells #[.int .i64 n, .slice ra ll.length rcap] 24)).alloc (.cells #[.int .i64 l] 3)).heap.size := by rw [alloc_size, alloc_size]; omega
  go_enter Try.func56, Try.ntmps56
  go_wp2
  generalize (w.alloc (.cells #[.int .i64 n, .slice ra ll.length rcap] 24)).alloc (.cells #[.int .i64 l] 3) = w1 at *
  go_loopw [5, 6] (fun ov iw wr => ∃ (i : Nat) (O : List Int), i ≤ O.length ∧ iw = .int .i64 i ∧ OwnI wr (w.heap.size + 1) ov O ∧ Hid (Found n ll l O ∧ AtEnd n ll O i) ∧ Ex w wr ∧ OwnB wr w.heap.size [.int .i64 n, .slice ra ll.length rcap] 24 ∧ w.heap.size + 1 ≤ wr.heap.size) (fun _ iw _ => 258 - (intOf iw).toNat)
  case atStart => exact ⟨0, [l], Nat.zero_le _, rfl, h0, ⟨hF0, fun j hj => by omega⟩, hxa, oT, hsz0⟩
  case round =>
    clear h0 hF0 hxa oT hsz0
    obtain ⟨i, O, hi, rfl, hO, hF, hxr, oT, hsz⟩ := hrel
    have hOl := HFl.out O hF.out.1
    have hIO := hO.ints
    obtain ⟨pa, pc, rfl, pp1, pp2, _⟩ := hIO
    unfold maxLen at pp2
    have c0 := oT.cell 0
    have c1 := oT.cell 1
    have z0 := oT.lt
    by_cases hlt : i < O.length
    · have hi257 : i < 257 := by omega
      obtain ⟨z, hz⟩ : ∃ z : Int, z = O.getD i 0 := ⟨_, rfl⟩
      have hzm : z ∈ O := by rw [hz, getD_getElem hlt]; exact List.getElem_mem hlt
      have hzv := (litValid_iff _ _).1 (HFv.out O hF.out.1 z hzm)
      have q1 : -128 ≤ z := by omega
      have q2 : z ≤ 128 := by omega
      have hF1 : Hid (Found n ll l O ∧ AtEnd n ll O i ∧ z = O.getD i 0 ∧ i < O.length ∧ ∀ k' : Int, k' < -(n : Int) → linkB n ll z k' = true → k' ∈ O) := ⟨hF.out.1, hF.out.2, hz, hlt, fun k' hk' hl' => by
        have := (litValid_iff _ _).1 (linkB_valid hl').2
        omega⟩
      clear hzm hzv hF hz
      go_wp2
      go_loopw [5, 7] (fun ov kw wr => ∃ (k : Int) (O : List Int), -(n : Int) ≤ k ∧ k ≤ n + 1 ∧ kw = .int .i64 k ∧ OwnI wr (w.heap.size + 1) ov O ∧ Hid (Found n ll l O ∧ AtEnd n ll O i ∧ z = O.getD i 0 ∧ i < O.length ∧ ∀ k' : Int, k' < k → linkB n ll z k' = true → k' ∈ O) ∧ Ex w wr ∧ OwnB wr w.heap.size [.int .i64 n, .slice ra ll.length rcap] 24 ∧ w.heap.size + 1 ≤ wr.heap.size) (fun _ kw _ => (n + 1 - intOf kw).toNat)
      case atStart => exact ⟨-(n : Int), O, Int.le_refl _, by omega, rfl, hO, hF1, hxr, oT, hsz⟩
      case round =>
        clear hO hF1 hxr oT hsz c0 c1 z0 hOl hlt hi pp1 pp2
        obtain ⟨k, O2, k1, k2, rfl, hO, hF, hxr, oT, hsz⟩ := hrel
        have hOl := HFl.out O2 hF.out.1
        have c0 := oT.cell 0
        have c1 := oT.cell 1
        have z0 := oT.lt
        have hIO := hO.ints
        obtain ⟨pa2, pc2, rfl, pp1, pp2, _⟩ := hIO
        have hIO := hO.ints
        unfold maxLen at pp2
        by_cases hk : k ≤ (n : Int)
        · have hlti := hF.out.2.2.2.1
          have hze := hF.out.2.2.1
          obtain ⟨_, _, hv, _, _, h3⟩ := hIO
          cases hv
          obtain ⟨b, off, rfl, hb, hc⟩ := h3 i hlti
          clear h3
          rw [← hze] at hc
          have hIO := hO.ints
          have c0x := ext_cell c0
          have c1x := ext_cell c1
          have hcx := ext_cell hc
          have q3 : (i : Int) < (O2.length : Int) := by omega
          have q4 : (0 : Int) ≤ (i : Int) := by omega
          have HIO : Hid (IntsAt wr (.slice (some ⟨b, off, none⟩) O2.length pc2) O2) := hIO
          have HXw : Hid (Ex w wr) := hxr
          clear hlti hze hIO

          by_cases hk0 : k = 0
          · have e0 : (k != 0) = false := by simp [hk0]
            have HNext : Hid (Found n ll l O2 ∧ AtEnd n ll O2 i ∧ z = O2.getD i 0 ∧ i < O2.length ∧ ∀ k' : Int, k' < k + 1 → linkB n ll z k' = true → k' ∈ O2) := ⟨hF.out.1, hF.out.2.1, hF.out.2.2.1, hF.out.2.2.2.1, fun k' hk' hl' => by
              by_cases e : k' = k
              · have := (litValid_iff _ _).1 (linkB_valid hl').2; omega
              · exact hF.out.2.2.2.2 k' (by omega) hl'⟩
            clear hF
            go_wp2
            refine wp_region_quiet_ext (by kernel_rfl) (by kernel_rfl) ?_
            repeat (go_big_quiet_step ((first | (go_at_call 57; exact Calls.quiet_ext_same (HIn.out _ _ _ _ (HIO.out.ex (ex_ext _ _)))) | (go_at_call 80; exact Calls.quiet_ext (HMuG.out _ _ _ _ (HXw.out.trans (ex_ext _ _)) (by first | with_reducible exact hm1 | with_reducible exact hm2))) | fail)))
            refine wpQuiet_nil ?_
            intro w9 hx9
            go_wp2
            go_roundw
            case rel => exact ⟨k + 1, O2, by omega, by omega, by go_num, hO.ex hx9, HNext, hxr.trans hx9, oT.ex hx9, Nat.le_trans hsz hx9.size⟩
            case measure => simp [intOf]; omega
          have e0 : (k != 0) = true := by simp [hk0]
          cases hin : O2.contains k with
          | true =>
            have hmem : k ∈ O2 := List.contains_iff_mem.1 hin
            have HNext : Hid (Found n ll l O2 ∧ AtEnd n ll O2 i ∧ z = O2.getD i 0 ∧ i < O2.length ∧ ∀ k' : Int, k' < k + 1 → linkB n ll z k' = true → k' ∈ O2) := ⟨hF.out.1, hF.out.2.1, hF.out.2.2.1, hF.out.2.2.2.1, fun k' hk' hl' => by
              by_cases e : k' = k
              · subst e; exact List.contains_iff_mem.1 hin
              · exact hF.out.2.2.2.2 k' (by omega) hl'⟩
            clear hF
            go_wp2
            refine wp_region_quiet_ext (by kernel_rfl) (by kernel_rfl) ?_
            repeat (go_big_quiet_step ((first | (go_at_call 57; exact Calls.quiet_ext_same (HIn.out _ _ _ _ (HIO.out.ex (ex_ext _ _)))) | (go_at_call 80; exact Calls.quiet_ext (HMuG.out _ _ _ _ (HXw.out.trans (ex_ext _ _)) (by first | with_reducible exact hm1 | with_reducible exact hm2))) | fail)))
            refine wpQuiet_nil ?_
            intro w9 hx9
            go_wp2
            go_roundw
            case rel => exact ⟨k + 1, O2, by omega, by omega, by go_num, hO.ex hx9, HNext, hxr.trans hx9, oT.ex hx9, Nat.le_trans hsz hx9.size⟩
            case measure => simp [intOf]; omega
          | false =>
            have hnin : k ∉ O2 := fun h => by rw [List.contains_iff_mem.2 h] at hin; cases hin
            have HAdd : Hid (linkB n ll z k = true → Found n ll l (O2 ++ [k]) ∧ AtEnd n ll (O2 ++ [k]) i ∧ z = (O2 ++ [k]).getD i 0 ∧ i < (O2 ++ [k]).length ∧ ∀ k' : Int, k' < k + 1 → linkB n ll z k' = true → k' ∈ O2 ++ [k]) := fun hlk => by
              obtain ⟨f1, f2, f3, f4, f5⟩ := hF.out
              have hzm : z ∈ O2 := by rw [f3, getD_getElem f4]; exact List.getElem_mem f4
              have hg : ∀ j, j < O2.length → (O2 ++ [k]).getD j 0 = O2.getD j 0 := fun j hj => by rw [getD_getElem (by simp; omega), List.getElem_append_left hj, getD_getElem hj]
              refine ⟨f1.add hzm hlk hnin, fun j hj k' hl' => ?_, by rw [hg i f4]; exact f3, by simp; omega, fun k' hk' hl' => ?_⟩
              · rw [hg j (by omega)] at hl'
                exact List.mem_append_left _ (f2 j hj k' hl')
              · by_cases e : k' = k
                · subst e; simp
                · exact List.mem_append_left _ (f5 k' (by omega) hl')
            cases hm1 : mutB n ll z k with
            | true =>
              have HNew : Hid _ := HAdd.out (linkB_iff.2 (.inl hm1))
              clear hF HAdd
              go_wp2
              refine wp_region_quiet_ext (by kernel_rfl) (by kernel_rfl) ?_
              repeat (go_big_quiet_step ((first | (go_at_call 57; exact Calls.quiet_ext_same (HIn.out _ _ _ _ (HIO.out.ex (ex_ext _ _)))) | (go_at_call 80; exact Calls.quiet_ext (HMuG.out _ _ _ _ (HXw.out.trans (ex_ext _ _)) (by first | with_reducible exact hm1 | with_reducible exact hm2))) | fail)))
              refine wpQuiet_nil ?_
              intro w9 hx9
              have hO9 := hO.ex hx9
              have hI9 := intsAt_fresh w9 k 3
              have hs9 := hx9.size
              go_wp2_with (at_builtin; refine wpList_append_ints rfl (.tmp 53) (.tmp 55) rfl rfl rfl (hO9.ex (Ex.alloc _ _)) hI9 ?c1 ?c2 ?_)
              case c1 => simp only [List.length_cons, List.length_nil]; omega
              case c2 => rw [alloc_size]; omega
              intro va wa hown hg
              have hxa : Ex w wa := grown_ex ((hxr.trans hx9).alloc' _) hg (ownsRow_block (ownsRow_base hO (by omega)))
              have oTa := own_grown ((oT.ex hx9).ex (Ex.alloc _ _)) hg (row_other hO9 (by omega))
              have hsa := hg.size
              rw [alloc_size] at hsa
              have hOa : OwnI wa (w.heap.size + 1) va (O2 ++ [k]) := hown
              clear hown hg hI9 hO9 hO oT
              go_wp2
              go_roundw
              case rel => exact ⟨k + 1, O2 ++ [k], by omega, by omega, by go_num, hOa, HNew, hxa, oTa, by omega⟩
              case measure => simp [intOf]; omega
            | false =>
              cases hm2 : mutB n ll (-z) (-k) with
              | true =>
                have HNew : Hid _ := HAdd.out (linkB_iff.2 (.inr hm2))
                clear hF HAdd
                go_wp2
                refine wp_region_quiet_ext (by kernel_rfl) (by kernel_rfl) ?_
                repeat (go_big_quiet_step ((first | (go_at_call 57; exact Calls.quiet_ext_same (HIn.out _ _ _ _ (HIO.out.ex (ex_ext _ _)))) | (go_at_call 80; exact Calls.quiet_ext (HMuG.out _ _ _ _ (HXw.out.trans (ex_ext _ _)) (by first | with_reducible exact hm1 | with_reducible exact hm2))) | fail)))
                refine wpQuiet_nil ?_
                intro w9 hx9
                have hO9 := hO.ex hx9
                have hI9 := intsAt_fresh w9 k 3
                have hs9 := hx9.size
                go_wp2_with (at_builtin; refine wpList_append_ints rfl (.tmp 53) (.tmp 55) rfl rfl rfl (hO9.ex (Ex.alloc _ _)) hI9 ?c1 ?c2 ?_)
                case c1 => simp only [List.length_cons, List.length_nil]; omega
                case c2 => rw [alloc_size]; omega
                intro va wa hown hg
                have hxa : Ex w wa := grown_ex ((hxr.trans hx9).alloc' _) hg (ownsRow_block (ownsRow_base hO (by omega)))
                have oTa := own_grown ((oT.ex hx9).ex (Ex.alloc _ _)) hg (row_other hO9 (by omega))
                have hsa := hg.size
                rw [alloc_size] at hsa
                have hOa : OwnI wa (w.heap.size + 1) va (O2 ++ [k]) := hown
                clear hown hg hI9 hO9 hO oT
                go_wp2
                go_roundw
                case rel => exact ⟨k + 1, O2 ++ [k], by omega, by omega, by go_num, hOa, HNew, hxa, oTa, by omega⟩
                case measure => simp [intOf]; omega
              | false =>
                have HNext : Hid (Found n ll l O2 ∧ AtEnd n ll O2 i ∧ z = O2.getD i 0 ∧ i < O2.length ∧ ∀ k' : Int, k' < k + 1 → linkB n ll z k' = true → k' ∈ O2) := ⟨hF.out.1, hF.out.2.1, hF.out.2.2.1, hF.out.2.2.2.1, fun k' hk' hl' => by
                  by_cases e : k' = k
                  · subst e; rw [linkB_iff, hm1, hm2] at hl'; rcases hl' with h | h <;> cases h
                  · exact hF.out.2.2.2.2 k' (by omega) hl'⟩
                clear hF HAdd
                go_wp2
                refine wp_region_quiet_ext (by kernel_rfl) (by kernel_rfl) ?_
                repeat (go_big_quiet_step ((first | (go_at_call 57; exact Calls.quiet_ext_same (HIn.out _ _ _ _ (HIO.out.ex (ex_ext _ _)))) | (go_at_call 80; exact Calls.quiet_ext (HMuG.out _ _ _ _ (HXw.out.trans (ex_ext _ _)) (by first | with_reducible exact hm1 | with_reducible exact hm2))) | fail)))
                refine wpQuiet_nil ?_
                intro w9 hx9
                go_wp2
                go_roundw
                case rel => exact ⟨k + 1, O2, by omega, by omega, by go_num, hO.ex hx9, HNext, hxr.trans hx9, oT.ex hx9, Nat.le_trans hsz hx9.size⟩
                case measure => simp [intOf]; omega
        · have HNx : Hid (Found n ll l O2 ∧ AtEnd n ll O2 (i + 1)) := ⟨hF.out.1, fun j hj k' hl' => by
            by_cases e : j = i
            · subst e
              rw [← hF.out.2.2.1] at hl'
              have := (litValid_iff _ _).1 (linkB_valid hl').2
              exact hF.out.2.2.2.2 k' (by omega) hl'
            · exact hF.out.2.1 j (by omega) k' hl'⟩
          have hil := hF.out.2.2.2.1
          clear hF
          go_wp2
          go_roundw
          case rel => exact ⟨i + 1, O2, by omega, by go_num, hO, HNx, hxr, oT, hsz⟩
          case measure => simp [intOf]; omega
    · obtain rfl : i = O.length := by omega
      have HEnd : Hid (∀ z, z ∈ O ↔ Tied n ll l z) := fun z => ⟨hF.out.1.tied z, found_all hF.out.1 hF.out.2⟩
      clear hF
      go_wp2
      go_ret
      exact ⟨_, O, rfl, hO.base (by omega), HEnd.out, hxr⟩
end Go.Proofs.Ytnhlfhoeglnajaa
