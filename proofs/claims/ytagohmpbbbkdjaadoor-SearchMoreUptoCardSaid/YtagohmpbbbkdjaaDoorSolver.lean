/- The solver's state in memory, and its methods truth, set and back. -/
import Derived.Test.YtagohmpbbbkdjaaDoorSearch1
import Derived.Test.YtagohmpbbbkdjaaDoorSlices
import Derived.Deep.RegionLaw
namespace Go.Proofs.YtagohmpbbbkdjaaDoor
set_option linter.unusedSimpArgs false
set_option linter.unusedVariables false
open Go.RowKit
set_option maxRecDepth 20000

/-- What a literal is: 1 true, -1 false, 0 open. -/
def truthV (vals : List Int) (l : Int) : Int := if l < 0 then -(vals.getD (-l).toNat 0) else vals.getD l.toNat 0
/-- Each value is 1, -1 or 0. -/
def Tri (vals : List Int) : Prop := ∀ i, vals.getD i 0 = 1 ∨ vals.getD i 0 = -1 ∨ vals.getD i 0 = 0
/-- The blocks of K are as they were. -/
structure Keep (K : Nat → Prop) (w w' : World) : Prop where
  os : w'.os = w.os
  tape : w'.tape = w.tape
  output : w'.output = w.output
  size : w.heap.size ≤ w'.heap.size
  block : ∀ b, K b → w'.heap[b]? = w.heap[b]?
theorem Keep.refl (K : Nat → Prop) (w : World) : Keep K w w := ⟨rfl, rfl, rfl, Nat.le_refl _, fun _ _ => rfl⟩
theorem Keep.trans {K : Nat → Prop} {a b c : World} (h : Keep K a b) (k : Keep K b c) : Keep K a c :=
  ⟨k.os.trans h.os, k.tape.trans h.tape, k.output.trans h.output, Nat.le_trans h.size k.size, fun i hi => (k.block i hi).trans (h.block i hi)⟩
theorem Keep.mono {K K' : Nat → Prop} {w w' : World} (h : Keep K w w') (hk : ∀ b, K' b → K b) : Keep K' w w' := ⟨h.os, h.tape, h.output, h.size, fun b hb => h.block b (hk b hb)⟩
theorem Keep.ex {K : Nat → Prop} {w0 w w' : World} (h : Keep K w w') (hx : Ex w0 w) (hk : ∀ b, b < w0.heap.size → K b) : Ex w0 w' :=
  ⟨h.os.trans hx.os, h.tape.trans hx.tape, h.output.trans hx.output, Nat.le_trans hx.size h.size, fun b hb => (h.block b (hk b hb)).trans (hx.block b hb)⟩
theorem Keep.own {K : Nat → Prop} {w w' : World} {b : Nat} {cs : List Value} {t : TypeId} (h : Keep K w w') (hk : K b) (ho : OwnB w b cs t) : OwnB w' b cs t := by unfold OwnB at *; rw [h.block b hk]; exact ho
theorem Keep.cell {K : Nat → Prop} {w w' : World} {b o : Nat} {v : Value} (h : Keep K w w') (hk : K b) (hc : w.cell? ⟨b, o, none⟩ = some v) : w'.cell? ⟨b, o, none⟩ = some v := by
  rw [World.cell?_of_block (w := w) (w' := w') (h.block b hk)]; exact hc
theorem Ex.keep {K : Nat → Prop} {w w' : World} (h : Ex w w') (hk : ∀ b, K b → b < w.heap.size) : Keep K w w' := ⟨h.os, h.tape, h.output, h.size, fun b hb => h.block b (hk b hb)⟩

/-- The solver: its struct in block S, the values in block V, the trail in a block of its own. -/
structure Sol (K : Nat → Prop) (w : World) (S V n : Nat) (lv : Value) (vals tr : List Int) : Prop where
  body : ∃ trv base, OwnB w S [.int .i64 n, lv, .slice (some ⟨V, 0, none⟩) (n + 1) (n + 1), trv] 64 ∧ OwnI w base trv tr ∧ S < base ∧ V < base ∧ base ≤ w.heap.size ∧ ∀ b, K b → trv.ownBlock ≠ some b
  hvals : OwnB w V (intsV vals) 3
  len : vals.length = n + 1
  ne : S ≠ V
  kept : ∀ b, K b → b < w.heap.size ∧ b ≠ S ∧ b ≠ V
theorem Sol.mono {K K' : Nat → Prop} {w : World} {S V n : Nat} {lv : Value} {vals tr : List Int} (h : Sol K w S V n lv vals tr) (hk : ∀ b, K' b → K b) : Sol K' w S V n lv vals tr := by
  obtain ⟨⟨trv, base, h1, h2, h3, h4, h4', h5⟩, h6, h7, h8, h9⟩ := h
  exact ⟨⟨trv, base, h1, h2, h3, h4, h4', fun b hb => h5 b (hk b hb)⟩, h6, h7, h8, fun b hb => h9 b (hk b hb)⟩
theorem own_not_new {w : World} {base : Nat} {v : Value} {l : List Int} (h : OwnI w base v l) {b : Nat} (hb : w.heap.size ≤ b) : v.ownBlock ≠ some b := fun e => by
  have := (h.lt b e).2
  omega
/-- New memory is no trouble; a new block may be kept from now on. -/
theorem Sol.ex {K : Nat → Prop} {w w' : World} {S V n : Nat} {lv : Value} {vals tr : List Int} (h : Sol K w S V n lv vals tr) (hx : Ex w w') : Sol (fun b => K b ∨ (w.heap.size ≤ b ∧ b < w'.heap.size)) w' S V n lv vals tr := by
  obtain ⟨⟨trv, base, h1, h2, h3, h4, h4', h5⟩, h6, h7, h8, h9⟩ := h
  refine ⟨⟨trv, base, h1.ex hx, h2.ex hx, h3, h4, Nat.le_trans h4' hx.size, ?_⟩, h6.ex hx, h7, h8, ?_⟩
  · rintro b (hb | ⟨hb, _⟩)
    · exact h5 b hb
    · exact own_not_new h2 hb
  · rintro b (hb | ⟨hb, hb'⟩)
    · exact ⟨Nat.lt_of_lt_of_le (h9 b hb).1 hx.size, (h9 b hb).2⟩
    · have := h1.lt; have := h6.lt; exact ⟨hb', by omega, by omega⟩

set_option maxHeartbeats 400000 in
theorem truth_any (K : Nat → Prop) (w : World) (S V n : Nat) (lv : Value) (vals tr : List Int) (hs : Sol K w S V n lv vals tr) (ht : Tri vals) (l : Int) (h1 : -(n : Int) ≤ l) (h2 : l ≤ n) (hn : n ≤ 128) :
    Calls Tryd.prog 46 #[.pointer (some ⟨S, 0, none⟩), .int .i64 l] w fun e w' => e = .returned (.int .i64 (truthV vals l)) ∧ w = w' := by
  obtain ⟨trv, base, hS, _, _, _, _, _⟩ := hs.body
  have c2 : w.cell? ⟨S, 2, none⟩ = some (.slice (some ⟨V, 0, none⟩) (n + 1) (n + 1)) := hS.cell 2
  have hv : ∀ j, j < n + 1 → w.cell? ⟨V, j, none⟩ = some (.int .i64 (vals.getD j 0)) := fun j hj => by
    rw [hs.hvals.cell, intsV, List.getElem?_map, List.getElem?_eq_getElem (by rw [hs.len]; exact hj), getD_getElem (by rw [hs.len]; exact hj)]; rfl
  by_cases hl : l < 0
  · have e1 : truthV vals l = -(vals.getD (-l).toNat 0) := if_pos hl
    have hc := hv (-l).toNat (by omega)
    have hb := ht (-l).toNat
    have g1 : -1 ≤ vals.getD (-l).toNat 0 := by omega
    have g2 : vals.getD (-l).toNat 0 ≤ 1 := by omega
    have b1 : (0 : Int) ≤ -l := by omega
    have b2 : -l < (n : Int) + 1 := by omega
    rw [e1]
    clear e1 hb hv hs ht hS
    generalize vals.getD (-l).toNat 0 = x at *
    go_enter Tryd.func46, Tryd.ntmps46
    go_wp2
    go_ret
    exact ⟨rfl, rfl⟩
  · have e1 : truthV vals l = vals.getD l.toNat 0 := if_neg hl
    have hc := hv l.toNat (by omega)
    have b1 : (0 : Int) ≤ l := by omega
    have b2 : l < (n : Int) + 1 := by omega
    rw [e1]
    clear e1 hv hs ht hS
    generalize vals.getD l.toNat 0 = x at *
    go_enter Tryd.func46, Tryd.ntmps46
    go_wp2
    go_ret
    exact ⟨rfl, rfl⟩
theorem intsAt_one (w : World) (x : Int) (t : TypeId) : IntsAt (w.alloc (.cells #[.int .i64 x] t)).drew (.slice (some ⟨w.heap.size, 0, none⟩) 1 1) [x] := by
  refine ⟨_, _, rfl, Nat.le_refl _, by unfold maxLen; omega, fun k hk => ?_⟩
  obtain rfl : k = 0 := by simp at hk; omega
  refine ⟨w.heap.size, 0, rfl, by show _ < (w.heap.push _).size; simp, ?_⟩
  show (w.alloc (.cells #[.int .i64 x] t)).cell? _ = _
  simp
/-- A store into a block that is not kept. -/
theorem Keep.setCell {K : Nat → Prop} {w w' : World} {b : Nat} (h : Keep K w w') (hb : ¬ K b) (i : Nat) (u : Value) : Keep K w (w'.setCell ⟨b, i, none⟩ u) :=
  ⟨h.os, h.tape, h.output, by simpa [World.setCell] using h.size, fun k hk => by
    have hne : k ≠ b := fun e => hb (by rw [← e]; exact hk)
    rw [Below.heap_setCell _ _ _ _ hne]; exact h.block k hk⟩
theorem Keep.grown {K : Nat → Prop} {w w' w'' : World} {row : Option Nat} (h : Keep K w w') (hg : w'.grownBy w'' row) (hr : ∀ b, K b → row ≠ some b) (hk : ∀ b, K b → b < w'.heap.size) : Keep K w w'' :=
  ⟨hg.os.trans h.os, hg.tape.trans h.tape, hg.output.trans h.output, Nat.le_trans h.size hg.size, fun b hb => (hg.block b (hk b hb) (fun e => hr b hb e.symm)).trans (h.block b hb)⟩

theorem intsV_set (l : List Int) (i : Nat) (x : Int) : (intsV l).set i (.int .i64 x) = intsV (l.set i x) := by simp [intsV, List.map_set]
theorem set_done {K : Nat → Prop} {w w1 wx w5 : World} {S V n : Nat} {lv trv v5 : Value} {vals' tr : List Int} {x : Int} {base : Nat} (hk1 : Keep K w w1)
    (hS1 : OwnB w1 S [.int .i64 n, lv, .slice (some ⟨V, 0, none⟩) (n + 1) (n + 1), trv] 64) (hV1 : OwnB w1 V (intsV vals') 3) (hlen : vals'.length = n + 1) (hne : S ≠ V)
    (hK1 : ∀ b, K b → b < w1.heap.size ∧ b ≠ S ∧ b ≠ V) (hown1 : OwnI w1 base trv tr) (hSb : S < base) (hVb : V < base) (hbw1 : base ≤ w1.heap.size) (hKt : ∀ b, K b → trv.ownBlock ≠ some b)
    (hx : Ex w1 wx) (hown5 : OwnI w5 base v5 (tr ++ [x])) (hg5 : wx.grownBy w5 trv.ownBlock) (hat : v5.ownBlock = trv.ownBlock ∨ v5.ownBlock = some wx.heap.size) :
    Sol K (w5.setCell ⟨S, 3, none⟩ v5) S V n lv vals' (tr ++ [x]) ∧ Keep K w (w5.setCell ⟨S, 3, none⟩ v5) := by
  have ob := fun b (hb : trv.ownBlock = some b) => (hown1.lt b hb).1
  have hS5 : OwnB w5 S _ _ := own_grown (hS1.ex hx) hg5 (fun e => by have := ob S e; omega)
  have hV5 : OwnB w5 V _ _ := own_grown (hV1.ex hx) hg5 (fun e => by have := ob V e; omega)
  have hsz : w1.heap.size ≤ w5.heap.size := Nat.le_trans hx.size hg5.size
  have hsz' : (w5.setCell ⟨S, 3, none⟩ v5).heap.size = w5.heap.size := by simp [World.setCell]
  refine ⟨⟨⟨v5, base, by simpa using hS5.set 3 v5, hown5.setOther hSb 3 v5, hSb, hVb, by rw [hsz']; omega, fun b hb => ?_⟩, hV5.set_other 3 v5 hne, hlen, hne, fun b hb => ?_⟩, ?_⟩
  · rcases hat with h | h
    · rw [h]; exact hKt b hb
    · rw [h]; intro e
      have h1 := (hK1 b hb).1
      have h2 := hx.size
      have h3 : wx.heap.size = b := by simpa using e
      omega
  · rw [hsz']; exact ⟨Nat.lt_of_lt_of_le (hK1 b hb).1 hsz, (hK1 b hb).2⟩
  · refine Keep.setCell ?_ (fun h => (hK1 S h).2.1 rfl) _ _
    exact ((hk1.trans (hx.keep fun b hb => (hK1 b hb).1)).grown hg5 hKt fun b hb => Nat.lt_of_lt_of_le (hK1 b hb).1 hx.size)
/-- What 'set' of an open literal does. -/
def setV1 (vals : List Int) (l : Int) : List Int := vals.set l.natAbs (if 0 < l then 1 else -1)
theorem set_decided (K : Nat → Prop) (w : World) (S V n : Nat) (lv : Value) (vals tr : List Int) (hs : Sol K w S V n lv vals tr) (ht : Tri vals) (l : Int) (h1 : -(n : Int) ≤ l) (h2 : l ≤ n) (hn : n ≤ 128) (h0 : truthV vals l ≠ 0) :
    Calls Tryd.prog 37 #[.pointer (some ⟨S, 0, none⟩), .int .i64 l] w fun e w' => e = .returned (.bool (decide (truthV vals l = 1))) ∧ w = w' := by
  have hT : Hid (∀ w', w = w' → _) := fun w' (e : w = w') => truth_any K w S V n lv vals tr hs ht l h1 h2 hn
  have hb : truthV vals l = 1 ∨ truthV vals l = -1 := by
    have a := ht (-l).toNat
    have b := ht l.toNat
    unfold truthV at *
    split at h0 <;> rename_i h <;> simp only [h, if_true, if_false] <;> omega
  clear hs ht h0
  generalize truthV vals l = x at *
  rcases hb with rfl | rfl
  · go_enter Tryd.func37, Tryd.ntmps37
    go_wp2_with (go_at_call 46; refine (hT.out _ rfl).mono ?_; rintro e w' ⟨rfl, rfl⟩)
    go_ret
    exact ⟨rfl, rfl⟩
  · go_enter Tryd.func37, Tryd.ntmps37
    go_wp2_with (go_at_call 46; refine (hT.out _ rfl).mono ?_; rintro e w' ⟨rfl, rfl⟩)
    go_ret
    exact ⟨rfl, rfl⟩
set_option maxHeartbeats 2000000 in
theorem set_open (K : Nat → Prop) (w : World) (S V n : Nat) (lv : Value) (vals tr : List Int) (hs : Sol K w S V n lv vals tr) (ht : Tri vals) (l : Int) (h1 : -(n : Int) ≤ l) (h2 : l ≤ n) (hl : l ≠ 0) (hn : n ≤ 128) (h0 : truthV vals l = 0) (htr : tr.length ≤ 1000) :
    Calls Tryd.prog 37 #[.pointer (some ⟨S, 0, none⟩), .int .i64 l] w fun e w' => e = .returned (.bool true) ∧ Sol K w' S V n lv (setV1 vals l) (tr ++ [(l.natAbs : Int)]) ∧ Keep K w w' := by
  have hT : Hid (∀ w', w = w' → _) := fun w' (e : w = w') => truth_any K w S V n lv vals tr hs ht l h1 h2 hn
  rw [h0] at hT
  have hlv : litVar l = (l.natAbs : Int) := by unfold litVar; (repeat' split) <;> omega
  have hVar : Hid (∀ w : World, Calls Tryd.prog 34 #[.int .i64 l] w fun e w' => e = .returned (.int .i64 (l.natAbs : Int)) ∧ w = w') := fun w => hlv ▸ litVar_any l w
  obtain ⟨trv, base, hS, hown, hSb, hVb, hbw, hKt⟩ := hs.body
  have hVV := hs.hvals
  have hlen := hs.len
  have hne := hs.ne
  have hK := hs.kept
  have c2 : w.cell? ⟨S, 2, none⟩ = some (.slice (some ⟨V, 0, none⟩) (n + 1) (n + 1)) := hS.cell 2
  have hSlt := hS.lt
  have hcv : w.cell? ⟨V, l.natAbs, none⟩ = some (.int .i64 (vals.getD l.natAbs 0)) := by
    rw [hVV.cell, intsV, List.getElem?_map, List.getElem?_eq_getElem (by rw [hlen]; omega), getD_getElem (by rw [hlen]; omega)]; rfl
  have hfv : w.frozen? ⟨V, l.natAbs, none⟩ = false := hVV.free _
  generalize hx : vals.getD l.natAbs 0 = xold at hcv
  clear hx h0 hlv ht hs
  by_cases hpos : 0 < l
  · obtain ⟨a, rfl⟩ : ∃ a : Nat, l = a := ⟨l.natAbs, by omega⟩
    simp only [Int.natAbs_natCast] at *
    have b2 : (a : Int) < (n : Int) + 1 := by omega
    have hR : Hid (setV1 vals a = vals.set a 1) := by show _ = _; unfold setV1; rw [if_pos hpos]; rfl
    generalize setV1 vals a = vals' at *
    go_enter Tryd.func37, Tryd.ntmps37
    go_wp2_with (go_at_call 46; refine (hT.out _ rfl).mono ?_; rintro e w' ⟨rfl, rfl⟩)
    have hV1 : OwnB (w.setCell ⟨V, a, none⟩ (.int .i64 1)) V (intsV vals') 3 := by rw [hR.out]; have := hVV.set a (.int .i64 1); rwa [intsV_set] at this
    have hlen' : vals'.length = n + 1 := by rw [hR.out, List.length_set]; exact hlen
    have hS1 := hS.set_other a (.int .i64 1) hne.symm
    have hown1 := hown.setOther hVb a (.int .i64 1)
    have hk1 : Keep K w (w.setCell ⟨V, a, none⟩ (.int .i64 1)) := (Keep.refl K w).setCell (fun h => (hK V h).2.2 rfl) _ _
    have hbw1 : base ≤ (w.setCell ⟨V, a, none⟩ (.int .i64 1)).heap.size := by simpa [World.setCell] using hbw
    have hK1 : ∀ b, K b → b < (w.setCell ⟨V, a, none⟩ (.int .i64 1)).heap.size ∧ b ≠ S ∧ b ≠ V := fun b hb => ⟨by simpa [World.setCell] using (hK b hb).1, (hK b hb).2⟩
    clear hcv hfv c2 hR hVV hS hown hT hbw hSlt
    generalize w.setCell ⟨V, a, none⟩ (.int .i64 1) = w1 at *
    have c3 : w1.cell? ⟨S, 3, none⟩ = some trv := hS1.cell 3
    have hSlt : S < w1.heap.size := hS1.lt
    have hVlt : V < w1.heap.size := hV1.lt
    go_region_law (first | (refine step_append_ints' (by rfl) (.tmp 31) (.tmp 34) (by rfl) (by rfl) (by rfl) ((hown1.ex ((Ex.alloc w1 _).drew))) (intsAt_one w1 _ _) (by simp only [List.length_cons, List.length_nil]; omega) (by show base ≤ (w1.heap.push _).size; simp; omega) ?_; intro v5 w5 hown5 hg5 hat5; obtain ⟨a5, c5, rfl, _, _, _⟩ := hown5.ints; have hS5 : OwnB w5 S _ _ := own_grown (hS1.ex ((Ex.alloc w1 _).drew)) hg5 (fun e => by have := (hown1.lt S e).1; omega); have c35 : w5.cell? ⟨S, 3, none⟩ = some trv := hS5.cell 3; have f35 : w5.frozen? ⟨S, 3, none⟩ = false := hS5.free 3) | (go_simp; go_at_call 34; refine (hVar.out _).mono ?_; rintro e w' ⟨rfl, rfl⟩))
    all_goals (go_wp2; go_ret; rw [show (tr ++ [(a : Int)]).length = tr.length + 1 by simp] at hown5 hat5; exact ⟨rfl, set_done hk1 hS1 hV1 hlen' hne hK1 hown1 hSb hVb hbw1 hKt ((Ex.alloc w1 _).drew) hown5 hg5 hat5⟩)
  · obtain ⟨a, rfl⟩ : ∃ a : Nat, l = -(a : Int) := ⟨l.natAbs, by omega⟩
    simp only [Int.natAbs_neg, Int.natAbs_natCast] at *
    have b3 : (0 : Int) < a := by omega
    have b2 : (a : Int) < (n : Int) + 1 := by omega
    have hR : Hid (setV1 vals (-(a : Int)) = vals.set a (-1)) := by show _ = _; unfold setV1; rw [if_neg hpos]; simp
    generalize setV1 vals (-(a : Int)) = vals' at *
    go_enter Tryd.func37, Tryd.ntmps37
    go_wp2_with (go_at_call 46; refine (hT.out _ rfl).mono ?_; rintro e w' ⟨rfl, rfl⟩)
    have hV1 : OwnB (w.setCell ⟨V, a, none⟩ (.int .i64 (-1))) V (intsV vals') 3 := by rw [hR.out]; have := hVV.set a (.int .i64 (-1)); rwa [intsV_set] at this
    have hlen' : vals'.length = n + 1 := by rw [hR.out, List.length_set]; exact hlen
    have hS1 := hS.set_other a (.int .i64 (-1)) hne.symm
    have hown1 := hown.setOther hVb a (.int .i64 (-1))
    have hk1 : Keep K w (w.setCell ⟨V, a, none⟩ (.int .i64 (-1))) := (Keep.refl K w).setCell (fun h => (hK V h).2.2 rfl) _ _
    have hbw1 : base ≤ (w.setCell ⟨V, a, none⟩ (.int .i64 (-1))).heap.size := by simpa [World.setCell] using hbw
    have hK1 : ∀ b, K b → b < (w.setCell ⟨V, a, none⟩ (.int .i64 (-1))).heap.size ∧ b ≠ S ∧ b ≠ V := fun b hb => ⟨by simpa [World.setCell] using (hK b hb).1, (hK b hb).2⟩
    clear hcv hfv c2 hR hVV hS hown hT hbw hSlt
    generalize w.setCell ⟨V, a, none⟩ (.int .i64 (-1)) = w1 at *
    have c3 : w1.cell? ⟨S, 3, none⟩ = some trv := hS1.cell 3
    have hSlt : S < w1.heap.size := hS1.lt
    have hVlt : V < w1.heap.size := hV1.lt
    go_region_law (first | (refine step_append_ints' (by rfl) (.tmp 31) (.tmp 34) (by rfl) (by rfl) (by rfl) ((hown1.ex ((Ex.alloc w1 _).drew))) (intsAt_one w1 _ _) (by simp only [List.length_cons, List.length_nil]; omega) (by show base ≤ (w1.heap.push _).size; simp; omega) ?_; intro v5 w5 hown5 hg5 hat5; obtain ⟨a5, c5, rfl, _, _, _⟩ := hown5.ints; have hS5 : OwnB w5 S _ _ := own_grown (hS1.ex ((Ex.alloc w1 _).drew)) hg5 (fun e => by have := (hown1.lt S e).1; omega); have c35 : w5.cell? ⟨S, 3, none⟩ = some trv := hS5.cell 3; have f35 : w5.frozen? ⟨S, 3, none⟩ = false := hS5.free 3) | (go_simp; go_at_call 34; refine (hVar.out _).mono ?_; rintro e w' ⟨rfl, rfl⟩))
    all_goals (go_wp2; go_ret; rw [show (tr ++ [(a : Int)]).length = tr.length + 1 by simp] at hown5 hat5; exact ⟨rfl, set_done hk1 hS1 hV1 hlen' hne hK1 hown1 hSb hVb hbw1 hKt ((Ex.alloc w1 _).drew) hown5 hg5 hat5⟩)
end Go.Proofs.YtagohmpbbbkdjaaDoor
