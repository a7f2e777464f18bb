/- The solver's method back: what was set since the trail had a length is undone. -/
import Derived.Test.YtagohmpbbbkdjaaDoorSolver
namespace Go.Proofs.YtagohmpbbbkdjaaDoor
set_option linter.unusedSimpArgs false
set_option linter.unusedVariables false
open Go.RowKit
set_option maxRecDepth 20000

theorem OwnI.take {w : World} {base n cap : Nat} {a : Option Addr} {l : List Int} (h : OwnI w base (.slice a n cap) l) {i : Nat} (hi : i ≤ l.length) : OwnI w base (.slice a i cap) (l.take i) := by
  have hl : (l.take i).length = i := List.length_take_of_le hi
  unfold OwnI
  rw [hl]
  refine ⟨by simp [intsV]; omega, ?_⟩
  rcases h.2 with ⟨hv, h0⟩ | ⟨g, cap', cur, hv, hb, hg, hc, hm, hs, ht⟩
  · cases hv
    exact .inl ⟨by rw [show i = 0 by omega], by omega⟩
  · cases hv
    refine .inr ⟨g, cap, cur, rfl, hb, hg, by omega, hm, hs, ?_⟩
    have : intsV (l.take i) = (intsV l).take i := by simp [intsV, List.map_take]
    rw [this, ← ht, List.take_take]
    congr 1; omega
/-- The values without those of some variables. -/
def resetV (vals : List Int) (l : List Int) : List Int := l.foldl (fun vs v => vs.set v.toNat 0) vals
theorem resetV_length (l vals : List Int) : (resetV vals l).length = vals.length := by
  induction l generalizing vals with
  | nil => rfl
  | cons v t ih => simp only [resetV, List.foldl_cons] at *; rw [ih]; simp
theorem resetV_snoc (vals l : List Int) (v : Int) : resetV vals (l ++ [v]) = (resetV vals l).set v.toNat 0 := by simp [resetV, List.foldl_append]

theorem back_done {K : Nat → Prop} {w w1 : World} {S V n : Nat} {lv trv v5 : Value} {vals' tr' : List Int} {base : Nat} (hk1 : Keep K w w1)
    (hS1 : OwnB w1 S [.int .i64 n, lv, .slice (some ⟨V, 0, none⟩) (n + 1) (n + 1), trv] 64) (hV1 : OwnB w1 V (intsV vals') 3) (hlen : vals'.length = n + 1) (hne : S ≠ V)
    (hK1 : ∀ b, K b → b < w1.heap.size ∧ b ≠ S ∧ b ≠ V) (hSb : S < base) (hVb : V < base) (hbw1 : base ≤ w1.heap.size)
    (hown5 : OwnI w1 base v5 tr') (hKt : ∀ b, K b → v5.ownBlock ≠ some b) :
    Sol K (w1.setCell ⟨S, 3, none⟩ v5) S V n lv vals' tr' ∧ Keep K w (w1.setCell ⟨S, 3, none⟩ v5) := by
  have hsz' : (w1.setCell ⟨S, 3, none⟩ v5).heap.size = w1.heap.size := by simp [World.setCell]
  refine ⟨⟨⟨v5, base, by simpa using hS1.set 3 v5, hown5.setOther hSb 3 v5, hSb, hVb, by rw [hsz']; omega, hKt⟩, hV1.set_other 3 v5 hne, hlen, hne, fun b hb => by rw [hsz']; exact hK1 b hb⟩, ?_⟩
  exact Keep.setCell hk1 (fun h => (hK1 S h).2.1 rfl) _ _
set_option maxHeartbeats 2000000 in
theorem back_any (K : Nat → Prop) (w : World) (S V n : Nat) (lv : Value) (vals tr : List Int) (hs : Sol K w S V n lv vals tr) (len : Nat) (hl : len ≤ tr.length) (hin : ∀ v ∈ tr.drop len, 1 ≤ v ∧ v ≤ n) (htr : tr.length ≤ 1000) :
    Calls Tryd.prog 40 #[.pointer (some ⟨S, 0, none⟩), .int .i64 len] w fun e w' => e = .returned (.tuple #[]) ∧ Sol K w' S V n lv (resetV vals (tr.drop len)) (tr.take len) ∧ Keep K w w' := by
  obtain ⟨trv, base, hS, hown, hSb, hVb, hbw, hKt⟩ := hs.body
  have hVV := hs.hvals
  have hlen := hs.len
  have hne := hs.ne
  have hK := hs.kept
  have hI := hown.ints
  obtain ⟨a, cap, rfl, h1, h2, h3⟩ := hI
  unfold maxLen at h2
  have hc3 : w.cell? ⟨S, 3, none⟩ = some (.slice a tr.length cap) := hS.cell 3
  have hf3 : w.frozen? ⟨S, 3, none⟩ = false := hS.free 3
  have b1 : (len : Int) ≤ tr.length := by omega
  have b2 : (len : Int) ≤ cap := by omega
  have htk := hown.take (i := len) hl
  have hKt' : ∀ b, K b → (Value.slice a len cap).ownBlock ≠ some b := by
    intro b hb
    have := hKt b hb
    cases a with
    | none => simp [Value.ownBlock]
    | some ad => exact this
  by_cases heq : len = tr.length
  · have hfin := back_done (Keep.refl K w) hS hVV hlen hne hK hSb hVb hbw htk hKt'
    have e1 : tr.drop len = [] := List.drop_eq_nil_of_le (by omega)
    rw [e1]
    have hfin2 : Hid _ := hfin
    clear h3 hs hown hVV hK hKt htk hfin e1 hin
    have e2 : tr.length - len = 0 := by omega
    clear heq hKt'
    go_enter Tryd.func40, Tryd.ntmps40
    go_wp2
    · go_loop [13] (fun i => i = .int .i64 0) (fun _ => 0)
      case atStart => exact rfl
      case round =>
        subst hrel
        have hcl : cap = len := by assumption
        subst hcl
        go_wp2
        go_end0
        exact ⟨rfl, hfin2.out⟩
    · go_loop [13] (fun i => i = .int .i64 0) (fun _ => 0)
      case atStart => exact rfl
      case round =>
        subst hrel
        go_wp2
        go_end0
        exact ⟨rfl, hfin2.out⟩
  · obtain ⟨g, off, rfl, _, _⟩ := h3 0 (by omega)
    have hg0 : off = 0 ∧ base ≤ g := by
      rcases hown.2 with ⟨hv, h0⟩ | ⟨g', cap', cur, hv, hb, _⟩
      · cases hv
      · cases hv; exact ⟨rfl, hb⟩
    obtain ⟨rfl, hgb⟩ := hg0
    have hcl : ¬ cap = len := by omega
    have hIs : Hid (∀ j, j < tr.length → w.cell? ⟨g, j, none⟩ = some (.int .i64 (tr.getD j 0))) := fun j hj => by
      obtain ⟨b', o', hh, _, hc⟩ := h3 j hj
      cases hh
      rwa [Nat.zero_add] at hc
    have hfin : Hid (∀ w1, Keep K w w1 → OwnB w1 S [.int .i64 n, lv, .slice (some ⟨V, 0, none⟩) (n + 1) (n + 1), .slice (some ⟨g, 0, none⟩) tr.length cap] 64 → OwnB w1 V (intsV (resetV vals (tr.drop len))) 3 → OwnI w1 base (.slice (some ⟨g, 0, none⟩) tr.length cap) tr → base ≤ w1.heap.size → Sol K (w1.setCell ⟨S, 3, none⟩ (.slice (some ⟨g, 0, none⟩) len cap)) S V n lv (resetV vals (tr.drop len)) (tr.take len) ∧ Keep K w (w1.setCell ⟨S, 3, none⟩ (.slice (some ⟨g, 0, none⟩) len cap))) :=
      fun w1 hk hS1 hV1 ho1 hb1 => back_done hk hS1 hV1 (by rw [resetV_length]; exact hlen) hne (fun b hb => ⟨Nat.lt_of_lt_of_le (hK b hb).1 hk.size, (hK b hb).2⟩) hSb hVb hb1 (ho1.take (i := len) hl) hKt'
    have hst : ∀ j, j < tr.length - len → resetV vals ((tr.drop len).take (j + 1)) = (resetV vals ((tr.drop len).take j)).set (tr.getD (len + j) 0).toNat 0 := fun j hj => by
      have : j < (tr.drop len).length := by rw [List.length_drop]; omega
      rw [List.take_succ_eq_append_getElem this, resetV_snoc, List.getElem_drop, getD_getElem (by omega)]
    have hst2 : Hid _ := hst
    have hin2 : Hid (∀ j, j < tr.length - len → 1 ≤ tr.getD (len + j) 0 ∧ tr.getD (len + j) 0 ≤ n) := fun j hj => hin _ (by rw [getD_getElem (by omega), ← List.getElem_drop (h := by rw [List.length_drop]; omega)]; exact List.getElem_mem _)
    have hend : Hid ((tr.drop len).take (tr.length - len) = tr.drop len) := List.take_of_length_le (by rw [List.length_drop]; omega)
    have HK : Hid _ := hK
    have HKt : Hid _ := hKt
    have hLen : Hid _ := hlen
    clear h3 hs htk hst hin hK hKt hKt' hlen
    go_enter Tryd.func40, Tryd.ntmps40
    go_wp2
    go_loopw [13] (fun i wr => ∃ (j : Nat) (vs : List Int), j ≤ tr.length - len ∧ i = .int .i64 j ∧ Hid (vs = resetV vals ((tr.drop len).take j)) ∧ OwnB wr S [.int .i64 n, lv, .slice (some ⟨V, 0, none⟩) (n + 1) (n + 1), .slice (some ⟨g, 0, none⟩) tr.length cap] 64 ∧ OwnB wr V (intsV vs) 3 ∧ OwnI wr base (.slice (some ⟨g, 0, none⟩) tr.length cap) tr ∧ Keep K w wr ∧ base ≤ wr.heap.size) (fun i _ => tr.length - len - (intOf i).toNat)
    case atStart => exact ⟨0, vals, by omega, rfl, rfl, hS, hVV, hown, Keep.refl _ _, hbw⟩
    case round =>
      obtain ⟨j, vs, hj, rfl, hvs, hS1, hV1, ho1, hk1, hb1⟩ := hrel
      have c2 : wr.cell? ⟨S, 2, none⟩ = some (.slice (some ⟨V, 0, none⟩) (n + 1) (n + 1)) := hS1.cell 2
      have c3 : wr.cell? ⟨S, 3, none⟩ = some (.slice (some ⟨g, 0, none⟩) tr.length cap) := hS1.cell 3
      have f3 : wr.frozen? ⟨S, 3, none⟩ = false := hS1.free 3
      by_cases hlt : j < tr.length - len
      · have hx := hin2.out j hlt
        have hct : wr.cell? ⟨g, len + j, none⟩ = some (.int .i64 (tr.getD (len + j) 0)) := by
          obtain ⟨_, _, hv, _, _, h3⟩ := ho1.ints
          cases hv
          obtain ⟨b', o', hh, _, hc⟩ := h3 (len + j) (by omega)
          cases hh
          rwa [Nat.zero_add] at hc
        have hvs2 : Hid (vs.set (tr.getD (len + j) 0).toNat 0 = resetV vals ((tr.drop len).take (j + 1))) := by
          show _ = _; rw [hst2.out j hlt, hvs.out]
        have hlen2 : vs.length = n + 1 := by rw [hvs.out, resetV_length]; exact hLen.out
        generalize tr.getD (len + j) 0 = x at *
        obtain ⟨y, rfl⟩ : ∃ y : Nat, x = y := ⟨x.toNat, by omega⟩
        simp only [Int.toNat_natCast] at hvs2
        have hcv : wr.cell? ⟨V, y, none⟩ = some (.int .i64 (vs.getD y 0)) := by
          rw [hV1.cell, intsV, List.getElem?_map, List.getElem?_eq_getElem (by rw [hlen2]; omega), getD_getElem (by rw [hlen2]; omega)]; rfl
        have hfv : wr.frozen? ⟨V, y, none⟩ = false := hV1.free _
        generalize vs.getD y 0 = old at hcv
        have hV2 : OwnB (wr.setCell ⟨V, y, none⟩ (.int .i64 0)) V (intsV (vs.set y 0)) 3 := by have := hV1.set y (.int .i64 0); rwa [intsV_set] at this
        have hS2 := hS1.set_other y (.int .i64 0) hne.symm
        have ho2 := ho1.setOther hVb y (.int .i64 0)
        have hk2 : Keep K w (wr.setCell ⟨V, y, none⟩ (.int .i64 0)) := hk1.setCell (fun h => (HK.out V h).2.2 rfl) _ _
        have hb2 : base ≤ (wr.setCell ⟨V, y, none⟩ (.int .i64 0)).heap.size := by simpa [World.setCell] using hb1
        have hy2 : (y : Int) < (n : Int) + 1 := by omega
        clear hvs hS1 hV1 ho1 hk1 hlen2 hb1
        go_wp2
        go_roundw
        case rel => exact ⟨j + 1, _, by omega, by go_num, hvs2, hS2, hV2, ho2, hk2, hb2⟩
        case measure => simp [intOf]; omega
      · have hvs2 : vs = resetV vals (tr.drop len) := by rw [hvs.out, show j = tr.length - len by omega, hend.out]
        subst hvs2
        have hf := hfin.out wr hk1 hS1 hV1 ho1 hb1
        have hf2 : Hid _ := hf
        clear hvs hf hV1 ho1 hk1 hS1
        go_wp2
        go_end0
        exact ⟨rfl, hf2.out⟩
end Go.Proofs.YtagohmpbbbkdjaaDoor
