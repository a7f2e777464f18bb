/- slices.Clone and slices.Delete at []int: what each call returns. -/
import Derived.Test.YtagohmpbbbkdjaaDoorOwn
import Derived.Lib.SliceRun
import Derived.Deep.RegionLaw
namespace Go.Proofs.YtagohmpbbbkdjaaDoor
set_option linter.unusedSimpArgs false
set_option linter.unusedVariables false
open Go.RowKit

/-- Cells put one by one. -/
def putL : List Value → Nat → List Value → List Value
  | cs, _, [] => cs
  | cs, o, v :: vs => putL (cs.set o v) (o + 1) vs
theorem putL_eq : ∀ (vs cs : List Value) (o : Nat), o + vs.length ≤ cs.length → putL cs o vs = cs.take o ++ vs ++ cs.drop (o + vs.length)
  | [], cs, o, _ => by simp [putL]
  | v :: vs, cs, o, h => by
    simp only [putL]
    rw [putL_eq vs _ _ (by simp at h ⊢; omega)]
    have ho : o < cs.length := by simp at h; omega
    have e1 : (cs.set o v).take (o + 1) = cs.take o ++ [v] := by
      rw [List.take_succ_eq_append_getElem (by simpa using ho)]
      simp [List.take_set_of_le]
    have e2 : (cs.set o v).drop (o + 1 + vs.length) = cs.drop (o + (v :: vs).length) := by
      rw [List.drop_set_of_lt (by omega)]
      simp only [List.length_cons]; congr 1; omega
    rw [e1, e2]
    simp
theorem putL_length : ∀ (vs cs : List Value) (o : Nat), (putL cs o vs).length = cs.length
  | [], _, _ => rfl
  | v :: vs, cs, o => by simp only [putL]; rw [putL_length vs]; simp
theorem OwnB.setCells {b : Nat} {t : TypeId} : ∀ (vs : List Value) (o : Nat) {w : World} {cs : List Value}, OwnB w b cs t → OwnB (w.setCells b o vs) b (putL cs o vs) t
  | [], _, _, _, h => h
  | v :: vs, o, _, _, h => OwnB.setCells vs (o + 1) (h.set o v)
theorem Ex.setCells {b : Nat} : ∀ (vs : List Value) (o : Nat) {w w' : World}, Ex w w' → w.heap.size ≤ b → Ex w (w'.setCells b o vs)
  | [], _, _, _, h, _ => h
  | v :: vs, o, _, _, h, hb => Ex.setCells vs (o + 1) (h.setCell hb v) hb
/-- A world in which one block alone may have been written, beside new ones. -/
def Wrote (b : Nat) (w w' : World) : Prop := w.grownBy w' (some b)
theorem Wrote.ex {b : Nat} {w0 w w' : World} (h : Ex w0 w) (hw : Wrote b w w') (hb : w0.heap.size ≤ b) : Ex w0 w' := grown_ex h hw (by intro k hk; cases hk; exact hb)
theorem wrote_setCells {b : Nat} : ∀ (vs : List Value) (o : Nat) {w w' : World}, Wrote b w w' → Wrote b w (w'.setCells b o vs)
  | [], _, _, _, h => h
  | v :: vs, o, w, w', h => wrote_setCells vs (o + 1) (w' := w'.setCell ⟨b, o, none⟩ v) ⟨h.os, h.tape, h.output, by simpa [World.setCell] using h.size, fun k hk hne => by
      rw [Below.heap_setCell _ _ _ _ (fun e => hne (by rw [e]))]; exact h.block k hk hne⟩
theorem wrote_drew {b : Nat} {w : World} : Wrote b w w.drew := ⟨rfl, rfl, rfl, Nat.le_refl _, fun _ _ _ => rfl⟩
/-- A list of the call's own that is not nil, its block whole. -/
theorem OwnI.form {w : World} {base : Nat} {v : Value} {l : List Int} (h : OwnI w base v l) (hl : 0 < l.length) :
    ∃ g cap rest, v = .slice (some ⟨g, 0, none⟩) l.length cap ∧ base ≤ g ∧ OwnB w g (intsV l ++ rest) 3 ∧ l.length + rest.length = cap ∧ cap ≤ maxLen := by
  rcases h.2 with ⟨rfl, h0⟩ | ⟨g, cap, cur, hv, hb, hg, hc, hm, hs, ht⟩
  · omega
  · refine ⟨g, cap, cur.toList.drop l.length, hv, hb, ?_, ?_, hm⟩
    · unfold OwnB
      rw [show intsV l = cur.toList.take l.length by rw [← ht]; simp, List.take_append_drop]
      simpa using hg
    · simp only [Nat.mul_one] at hs
      have : cur.toList.length = cap := by rw [Array.length_toList]; exact hs
      rw [List.length_drop, this]; omega
theorem OwnI.of_block {w : World} {base g cap : Nat} {l : List Int} {cs : List Value} (hb : base ≤ g) (h : OwnB w g cs 3) (hc : cs.length = cap) (hm : cap ≤ maxLen) (hl : l.length ≤ cap) (ht : cs.take l.length = intsV l) :
    OwnI w base (.slice (some ⟨g, 0, none⟩) l.length cap) l :=
  ⟨by simp [intsV], .inr ⟨g, cap, cs.toArray, rfl, hb, h, hl, hm, by simp [hc], by simpa using ht⟩⟩

set_option maxHeartbeats 1000000 in
theorem slicesClone_any (av : Value) (l : List Int) (w : World) (hl : IntsAt w av l) (hb : l.length * 8 ≤ 140737488355328) :
    Calls Tryd.prog 35 #[av] w fun e w' => ∃ v, e = .returned v ∧ OwnI w' w.heap.size v l ∧ Ex w w' := by
  have hl0 := hl
  obtain ⟨a, cap, rfl, h1, h2, h3⟩ := hl
  have hnil := fun (w : World) => Lib.run_eql_slice_nil (P := Tryd.prog) w 25 3 a l.length cap 0 0 Tryd.underlying25
  cases a with
  | none =>
    have hy : l = [] := by
      cases l with
      | nil => rfl
      | cons y t => obtain ⟨b, off, h, _⟩ := h3 0 (by simp); cases h
    subst hy
    clear h3
    simp only [List.length_nil, Option.isNone_none] at hnil ⊢
    go_enter Tryd.func35, Tryd.ntmps35
    go_wp2
    go_ret
    exact ⟨_, rfl, OwnI.nil _ _, Ex.refl _⟩
  | some ad =>
    clear h3
    go_enter Tryd.func35, Tryd.ntmps35
    go_wp2_with (at_builtin; refine wpList_append_ints rfl (.tmp 5) (.tmp 6) rfl rfl rfl (OwnI.empty' (base := w.heap.size) rfl (Nat.le_refl _)) (hl0.ex (Ex.alloc _ _)) ?c1 ?c2 ?_)
    case c1 => simpa using hb
    case c2 => simp
    intro v' w5 hown hg
    have hx : Ex w w5 := grown_ex (Ex.alloc _ _) hg (by intro k hk; cases hk; exact Nat.le_refl _)
    have hown2 : OwnI w5 w.heap.size v' l := hown
    clear hown hg
    go_wp2
    go_ret
    exact ⟨_, rfl, hown2, hx⟩
theorem zeroInt (w : World) : (zeroValue 3).run Tryd.prog w = .ok (.int .i64 0) w := by kernel_rfl
set_option maxHeartbeats 1000000 in
theorem slicesDelete_any (v : Value) (base : Nat) (l : List Int) (i : Nat) (w : World) (ho : OwnI w base v l) (hi : i < l.length) :
    Calls Tryd.prog 36 #[v, .int .i64 i, .int .i64 ((i : Int) + 1)] w fun e w' => ∃ v' g, e = .returned v' ∧ base ≤ g ∧ OwnI w' base v' (l.eraseIdx i) ∧ Wrote g w w' := by
  obtain ⟨g, cap, rest, rfl, hbg, hB, hcap, hm⟩ := ho.form (by omega)
  have hm' := hm
  unfold maxLen at hm
  obtain ⟨i0, hi0, hz0, hz1, hz2⟩ := info_parts Tryd.infoInt
  have hne : ((i : Int) == (i : Int) + 1) = false := by simp; omega
  have hlen : (intsV l ++ rest).length = cap := by simp [intsV]; omega
  have hcell : ∀ j, j < cap → (w.cell? ⟨g, j, none⟩).isSome = true := fun j hj => by rw [hB.cell j, List.getElem?_eq_getElem (by rw [hlen]; exact hj)]; rfl
  have hfree : ∀ j, w.frozen? ⟨g, j, none⟩ = false := fun j => hB.free j
  have b1 : (0 : Int) ≤ i := by omega
  have b2 : (i : Int) + 1 ≤ l.length := by omega
  have b3 : (i : Int) ≤ cap := by omega
  have b4 : (0 : Int) ≤ (i : Int) + 1 := by omega
  have b5 : ((i : Int) + 1).toNat = i + 1 := by omega
  have hb6 : (l.drop (i + 1)).length = l.length - (i + 1) := List.length_drop
  have hnews : ∀ j u, (intsV (l.drop (i + 1)))[j]? = some u → w.drew.cell? ((⟨g, i + 1, none⟩ : Addr).add j) = some u := by
    intro j u hu
    have e : (⟨g, i + 1, none⟩ : Addr).add j = ⟨g, i + 1 + j, none⟩ := by unfold Addr.add; split <;> simp_all
    have hj : i + 1 + j < l.length := by
      have := (List.getElem?_eq_some_iff.1 hu).1
      simp [intsV] at this; omega
    rw [e, show w.drew.cell? ⟨g, i + 1 + j, none⟩ = w.cell? ⟨g, i + 1 + j, none⟩ from rfl, hB.cell, List.getElem?_append_left (by simpa [intsV] using hj)]
    simpa [intsV, List.getElem?_drop] using hu
  have hroom : ∀ j, j < (intsV (l.drop (i + 1))).length → (w.drew.cell? ⟨g, 0 + i * 1 + j, none⟩).isSome = true ∧ w.drew.frozen? ⟨g, 0 + i * 1 + j, none⟩ = false := by
    intro j hj
    simp [intsV] at hj
    exact ⟨hcell _ (by omega), hfree _⟩
  -- what the block holds behind the two writes
  obtain ⟨cs2, hcs2⟩ : ∃ cs2, cs2 = putL (putL (intsV l ++ rest) i (intsV (l.drop (i + 1)))) (l.length - 1) [.int .i64 0] := ⟨_, rfl⟩
  have hlen2 : cs2.length = cap := by rw [hcs2, putL_length, putL_length, hlen]
  have htake : cs2.take (l.length - 1) = intsV (l.eraseIdx i) := by
    have hll : (intsV l).length = l.length := by simp [intsV]
    have hld : (intsV (l.drop (i + 1))).length = l.length - (i + 1) := by simp [intsV]
    have e1 := putL_eq (intsV (l.drop (i + 1))) (intsV l ++ rest) i (by rw [hld, hlen]; omega)
    have e2 := putL_eq [.int .i64 0] (putL (intsV l ++ rest) i (intsV (l.drop (i + 1)))) (l.length - 1) (by rw [putL_length, hlen]; simp; omega)
    rw [hcs2, e2, List.append_assoc, List.take_append_of_le_length (by rw [List.length_take_of_le (by rw [putL_length, hlen]; omega)]; exact Nat.le_refl _), List.take_take, Nat.min_self, e1, eraseIdx_pieces]
    rw [List.take_append_of_le_length (by rw [List.length_append, List.length_take_of_le (by rw [hlen]; omega), hld]; omega)]
    rw [List.take_of_length_le (by rw [List.length_append, List.length_take_of_le (by rw [hlen]; omega), hld]; omega)]
    rw [List.take_append_of_le_length (by rw [hll]; omega)]
    simp [intsV]
  have hfin : Hid (∀ w2, OwnB w2 g cs2 3 → OwnI w2 base (.slice (some ⟨g, 0, none⟩) (l.length - 1) cap) (l.eraseIdx i)) := fun w2 h2 => by
    have hll : (l.eraseIdx i).length = l.length - 1 := List.length_eraseIdx_of_lt hi
    have := OwnI.of_block (l := l.eraseIdx i) hbg h2 hlen2 hm' (by rw [hll]; omega) (by rw [hll]; exact htake)
    rwa [hll] at this
  have hB2 : Hid (OwnB (((w.drew).setCells g i (intsV (l.drop (i + 1)))).setCells g (l.length - 1) [.int .i64 0]) g cs2 3) := by
    show OwnB _ _ _ _
    rw [hcs2]
    exact OwnB.setCells _ _ (OwnB.setCells _ _ (show OwnB w.drew g _ _ from hB))
  have hW : Hid (Wrote g w (((w.drew).setCells g i (intsV (l.drop (i + 1)))).setCells g (l.length - 1) [.int .i64 0])) := wrote_setCells _ _ (wrote_setCells _ _ wrote_drew)
  have hc1 : (((w.drew).setCells g i (intsV (l.drop (i + 1)))).cell? ⟨g, l.length - 1, none⟩).isSome = true := by
    rw [(OwnB.setCells _ _ (show OwnB w.drew g _ _ from hB)).cell, List.getElem?_eq_getElem (by rw [putL_length, hlen]; omega)]; rfl
  have hf1 : ((w.drew).setCells g i (intsV (l.drop (i + 1)))).frozen? ⟨g, l.length - 1, none⟩ = false := (OwnB.setCells _ _ (show OwnB w.drew g _ _ from hB)).free _
  have hcl : Hid (∀ ty c, (Builtin.clear_ #[25] ty #[.slice (some ⟨g, l.length - 1, none⟩) 1 c]).run Tryd.prog ((w.drew).setCells g i (intsV (l.drop (i + 1)))) = .ok (.tuple #[]) (((w.drew).setCells g i (intsV (l.drop (i + 1)))).setCells g (l.length - 1) [.int .i64 0])) :=
    fun ty c => Lib.run_clear_slice _ 25 3 ty (.int .i64 0) Tryd.underlying25 zeroInt rfl rfl g (l.length - 1) 1 c (by omega) (fun j hj => (by obtain rfl : j = 0 := (by omega); exact hc1)) (fun j hj => (by obtain rfl : j = 0 := (by omega); exact hf1))
  have hL1 : (intsV (l.drop (i + 1))).length = (l.length - (i + 1)) * 1 := by simp [intsV]
  have HL1 : Hid _ := hL1
  have hone := oneCell_i64 (l.drop (i + 1))
  clear hcell hfree hlen hlen2 htake hcs2 hc1 hf1 hL1 hb6
  generalize intsV (l.drop (i + 1)) = news at *
  generalize l.eraseIdx i = le at *
  obtain ⟨N, hN⟩ : ∃ N, l.length = N + 1 := ⟨l.length - 1, by omega⟩
  rw [hN] at hi hcap b2 HL1 hcl hB2 hW hfin ⊢
  simp only [Nat.add_sub_cancel, Nat.add_sub_add_right] at HL1 hcl hB2 hW hfin
  clear hN ho hB hm' hz0 hz2
  have q1 : i + (N - i) = N := by omega
  have q7 : (N : Int) ≤ (N : Int) + 1 := by omega
  have q8 : (i : Int) ≤ (N : Int) := by omega
  by_cases hci : cap = i + 1
  · have : N = i := by omega
    subst this
    have hn0 : news = [] := List.eq_nil_of_length_eq_zero (by rw [HL1.out]; omega)
    subst hn0
    clear q1
    subst hci
    go_enter Tryd.func36, Tryd.ntmps36
    go_wp2
    go_region_held3 (fun _ => True) (trivial) ((refine step_append_room (by rfl) (.tmp 22) (.tmp 25) 25 (by rfl) 3 i0 1 Tryd.underlying25 hi0 hz1 g 0 N (N + 1) (by rfl) ⟨g, 0, none⟩ 0 0 [] (by rfl) (by rfl) (by intro j u h; cases h) (by intro u h; cases h) (by omega) (by intro j h; cases h) ?_))
    have q6 : N + 1 - N = 1 := by omega
    have q9 : (0 : Int) ≤ N := by omega
    rw [show 0 + N * 1 = N by omega]
    go_wp2_with (simp only [hcl.out])
    go_outline
    go_ret
    exact ⟨_, _, rfl, hbg, hfin.out _ hB2.out, hW.out⟩
  · go_enter Tryd.func36, Tryd.ntmps36
    go_wp2
    go_region_held3 (fun _ => True) (trivial) ((refine step_append_room (by rfl) (.tmp 22) (.tmp 25) 25 (by rfl) 3 i0 1 Tryd.underlying25 hi0 hz1 g 0 i cap (by rfl) ⟨g, i + 1, none⟩ (N - i) (cap - (i + 1)) news (by rfl) HL1.out hnews hone (by omega) hroom ?_))
    rw [q1]
    have q2 : (0 : Int) ≤ N := by omega
    have q3 : (N : Int) ≤ (N : Int) + 1 := by omega
    have q4 : (N : Int) + 1 ≤ cap := by omega
    have q5 : ¬ cap = N := by omega
    have q6 : N + 1 - N = 1 := by omega
    rw [show 0 + i * 1 = i by omega]
    go_wp2_with (simp only [hcl.out])
    go_ret
    exact ⟨_, _, rfl, hbg, hfin.out _ hB2.out, hW.out⟩
end Go.Proofs.YtagohmpbbbkdjaaDoor
