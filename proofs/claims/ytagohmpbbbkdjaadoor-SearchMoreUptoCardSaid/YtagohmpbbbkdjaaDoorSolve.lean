/- The least model under assumptions: the unexported solve. -/
import Derived.Test.YtagohmpbbbkdjaaDoorLeast
import Derived.Deep.DeepCutAuto
import Derived.BigRegion
import Derived.Laws.EntriesVeiled
namespace Go.Proofs.YtagohmpbbbkdjaaDoor
set_option linter.unusedSimpArgs false
set_option linter.unusedVariables false
open Go.RowKit
set_option maxRecDepth 20000

theorem own_three (w : World) (A B C : List Value) (ta tb tc : TypeId) :
    OwnB (((w.alloc (.cells A.toArray ta)).alloc (.cells B.toArray tb)).alloc (.cells C.toArray tc)).drew w.heap.size A ta ∧
    OwnB (((w.alloc (.cells A.toArray ta)).alloc (.cells B.toArray tb)).alloc (.cells C.toArray tc)).drew (w.heap.size + 1) B tb ∧
    OwnB (((w.alloc (.cells A.toArray ta)).alloc (.cells B.toArray tb)).alloc (.cells C.toArray tc)).drew (w.heap.size + 1 + 1) C tc ∧
    Ex w (((w.alloc (.cells A.toArray ta)).alloc (.cells B.toArray tb)).alloc (.cells C.toArray tc)).drew := by
  have e1 := OwnB.new w A ta
  have e2 := OwnB.new (w.alloc (.cells A.toArray ta)) B tb
  have e3 := OwnB.new ((w.alloc (.cells A.toArray ta)).alloc (.cells B.toArray tb)) C tc
  rw [World.size_alloc] at e2 e3
  rw [World.size_alloc] at e3
  exact ⟨(e1.ex ((Ex.alloc _ _).alloc' _)).ex (Ex.refl _).drew, (e2.ex (Ex.alloc _ _)).ex (Ex.refl _).drew, e3.ex (Ex.refl _).drew, (((Ex.alloc _ _).alloc' _).alloc' _).drew⟩
/-- The first assumptions are made. -/
structure AssumeI (n : Nat) (l : List Int) (j : Nat) (vs tr : List Int) : Prop where
  grow : Grow n (List.replicate (n + 1) 0) [] vs tr
  bound : tr.length + zeros vs ≤ 1000
  agree : ∀ α, (∀ i, i < j → trueL α (l.getD i 0) = true) → Agree n vs α
  holds : ∀ α, Agree n vs α → ∀ i, i < j → trueL α (l.getD i 0) = true
theorem rep_getD (n i : Nat) : (List.replicate n (0 : Int)).getD i 0 = 0 := by
  rw [List.getD_eq_getElem?_getD, List.getElem?_replicate]; split <;> rfl
theorem AssumeI.start (n : Nat) (hn : n ≤ 128) (l : List Int) : AssumeI n l 0 (List.replicate (n + 1) 0) [] :=
  ⟨Grow.refl fun i => by rw [rep_getD]; simp, by simp [zeros]; omega, fun α _ v _ _ => by rw [rep_getD]; exact ⟨fun e => (by cases e), fun e => (by cases e)⟩, fun α _ i hi => by omega⟩
theorem AssumeI.len {n j : Nat} {l vs tr : List Int} (h : AssumeI n l j vs tr) : vs.length = n + 1 := by have := h.grow.len; simpa using this
theorem AssumeI.yes {n j : Nat} {l vs tr : List Int} (h : AssumeI n l j vs tr) (hx : l.getD j 0 ≠ 0) (hn : (l.getD j 0).natAbs ≤ n) (ht : truthV vs (l.getD j 0) = 1) : AssumeI n l (j + 1) vs tr :=
  ⟨h.grow, h.bound, fun α ha => h.agree α fun i hi => ha i (by omega), fun α ha i hi => by
    by_cases e : i = j
    · subst e; exact true_of_truth ha hx hn ht
    · exact h.holds α ha i (by omega)⟩
theorem AssumeI.no {n j : Nat} {l vs tr : List Int} (h : AssumeI n l j vs tr) (hj : j < l.length) (hx : l.getD j 0 ≠ 0) (hn : (l.getD j 0).natAbs ≤ n) (ht : truthV vs (l.getD j 0) = -1) : ∀ α, ¬ ∀ x ∈ l, trueL α x = true := fun α ha => by
  have hall : ∀ i, i < l.length → trueL α (l.getD i 0) = true := fun i hi => ha _ (by rw [getD_getElem hi]; exact List.getElem_mem hi)
  have := false_of_truth (h.agree α fun i hi => hall i (by omega)) hx hn ht
  rw [hall j hj] at this; cases this
theorem AssumeI.set {n j : Nat} {l vs tr : List Int} (h : AssumeI n l j vs tr) (hx : l.getD j 0 ≠ 0) (hn : (l.getD j 0).natAbs ≤ n) (ht : truthV vs (l.getD j 0) = 0) : AssumeI n l (j + 1) (setV1 vs (l.getD j 0)) (tr ++ [((l.getD j 0).natAbs : Int)]) := by
  have hg := Grow.set (tr := tr) h.grow.tri h.len hn hx ht
  have h1 : vs.getD (l.getD j 0).natAbs 0 = 0 := by rw [truthV_abs] at ht; split at ht <;> omega
  have hz : zeros (setV1 vs (l.getD j 0)) + 1 = zeros vs := zeros_set (by rw [h.len]; omega) h1 (by split <;> decide)
  refine ⟨h.grow.trans hg, by have := h.bound; simp only [List.length_append, List.length_singleton]; omega, fun α ha => agree_unit h.len hn (h.agree α fun i hi => ha i (by omega)) (ha j (by omega)), fun α ha i hi => ?_⟩
  by_cases e : i = j
  · subst e
    have h2 := setV1_get h.len hn (l.getD i 0).natAbs
    rw [if_pos rfl] at h2
    refine true_of_truth ha hx hn ?_
    rw [truthV_abs, h2]
    by_cases hp : 0 < l.getD i 0
    · rw [if_pos hp, if_neg (by omega)]
    · rw [if_neg hp, if_pos (by omega)]; rfl
  · exact h.holds α (agree_of_set h.len hn ht ha) i (by omega)
theorem AssumeI.all {n j : Nat} {l vs tr : List Int} (h : AssumeI n l j vs tr) (hj : l.length = j) (α : Nat → Bool) : Agree n vs α ↔ ∀ x ∈ l, trueL α x = true := by
  constructor
  · intro ha x hx
    obtain ⟨i, hi, rfl⟩ := List.getElem_of_mem hx
    have := h.holds α ha i (by omega)
    rwa [getD_getElem hi] at this
  · intro ha
    exact h.agree α fun i hi => ha _ (by rw [getD_getElem (by omega)]; exact List.getElem_mem _)
/-- The solver as it is made. -/
def Made (wb wx : World) (n : Nat) (lv : Value) (Z : List Value) (s6 : Value) : Prop :=
  ∃ pb Sb Vb : Nat, s6 = .pointer (some ⟨pb, 0, none⟩) ∧ OwnB wx pb [.pointer (some ⟨Sb, 0, none⟩)] 62 ∧ OwnB wx Sb [.int .i64 n, lv, .slice (some ⟨Vb, 0, none⟩) (n + 1) (n + 1), .slice none 0 0] 64 ∧ OwnB wx Vb Z 3 ∧
    wb.heap.size ≤ pb ∧ wb.heap.size ≤ Sb ∧ wb.heap.size ≤ Vb ∧ Sb ≠ Vb ∧ pb ≠ Sb ∧ pb ≠ Vb ∧ Ex wb wx
def zerosV (n : Nat) : List Int := List.replicate (n + 1) 0
theorem run_make_zeros (n : Nat) (hn : n ≤ 128) (w : World) : (Instr.makeSlice 25 (.int .i64 ((n : Int) + 1)) (.int .i64 ((n : Int) + 1))).run Tryd.prog w = .ok (.slice (some ⟨w.heap.size, 0, none⟩) (n + 1) (n + 1)) (w.alloc (.cells (intsV (zerosV n)).toArray 3)) := by
  obtain ⟨i0, hi, hz0, hz1, hz2⟩ := info_parts Tryd.infoInt
  have h := run_make (P := Tryd.prog) w 25 3 i0 (.int .i64 0) Tryd.underlying25 hi hz0 .i64 .i64 ((n : Int) + 1) ((n : Int) + 1) (by omega) (Int.le_refl _) (by rw [hz2]; omega) (by omega)
  rw [h, hz1]
  have e1 : ((n : Int) + 1).toNat = n + 1 := by omega
  rw [e1, Nat.mul_one]
  have e2 : madeCells (Value.int .i64 0).cells (n + 1) = (intsV (zerosV n)).toArray := by
    apply Array.toList_inj.1
    rw [show (Value.int .i64 0).cells = #[.int .i64 0] from rfl, toList_madeCells_one]
    simp [intsV, zerosV]
  rw [e2]
theorem solved {n : Nat} {ll : List (List Int)} {l vs tr v' : List Int} (hn : n ≤ 128) (he : theoryErr n ll = 0) (hl : ∀ x ∈ l, litValid x n = true) (ha : AssumeI n l l.length vs tr) (tr' : List Int) (hg : Grow n vs tr v' tr') (h : Least n ll vs v') :
    least n ll l = some (accF v' (n + 1)) := by
  have h0 : v'.getD 0 0 = 0 := by
    obtain ⟨e, _, h1, h2⟩ := (ha.grow.trans hg).ext
    have : (0 : Int) ∉ e := fun hm => by have := (h1 0 hm).1; omega
    rw [h2 0 this, rep_getD]
  rw [accF_assign hn h0]
  refine least_some hn he hl h.sat ((ha.all rfl _).1 h.agree) fun β hs ht => h.least β ((ha.all rfl β).2 ht) hs
theorem unsolved {n : Nat} {ll : List (List Int)} {l vs tr : List Int} (hn : n ≤ 128) (he : theoryErr n ll = 0) (hl : ∀ x ∈ l, litValid x n = true) (ha : AssumeI n l l.length vs tr) (h : ∀ α, Agree n vs α → ¬ satT α ll) : least n ll l = none :=
  least_none hn he hl fun α hs ht => h α ((ha.all rfl α).2 ht) hs
set_option maxHeartbeats 4000000 in
theorem solve_any (n : Nat) (lv av : Value) (ll : List (List Int)) (l : List Int) (w : World) (hR : RowsAt w lv ll) (hl : IntsAt w av l) (he : theoryErr n ll = 0) (hlv : ∀ x ∈ l, litValid x n = true) :
    Calls Tryd.prog 20 #[.agg #[.int .i64 n, lv], av] w fun e w' => e = .returned (.tuple #[setV ((least n ll l).getD (0, 0)).1 ((least n ll l).getD (0, 0)).2, .bool (least n ll l).isSome]) ∧ Ex w w' := by
  unfold setV
  have hn : n ≤ 128 := by have := (theoryErr_zero he).2.1; omega
  have hv : ∀ c ∈ ll, ∀ x ∈ c, litValid x n = true := fun c hc => ((theoryErr_zero he).2.2.2 c hc).2
  have HV : Hid _ := hv
  have hN1 : Hid (∀ j vs tr, AssumeI n l j vs tr → j < l.length → l.getD j 0 ≠ 0 → (l.getD j 0).natAbs ≤ n → truthV vs (l.getD j 0) = -1 → least n ll l = none) := fun j vs tr ha hj h0 hnn ht => least_none hn he hlv fun α _ h => ha.no hj h0 hnn ht α h
  have hN2 : Hid (∀ vs tr, AssumeI n l l.length vs tr → (∀ α, Agree n vs α → ¬ satT α ll) → least n ll l = none) := fun vs tr ha h => unsolved hn he hlv ha h
  have hS1 : Hid (∀ vs tr v' tr', AssumeI n l l.length vs tr → Grow n vs tr v' tr' → Least n ll vs v' → least n ll l = some (accF v' (n + 1))) := fun vs tr v' tr' ha hg h => solved hn he hlv ha tr' hg h
  have HLV : Hid (∀ j, j < l.length → l.getD j 0 ≠ 0 ∧ (l.getD j 0).natAbs ≤ n) := fun j hj => by
    have := hlv _ (show l.getD j 0 ∈ l by rw [getD_getElem hj]; exact List.getElem_mem hj)
    rw [litValid_iff] at this; omega
  have HB : Hid _ := box_theory_set (n := n) hR hl 24 30
  have HR0 : Hid (RowsAt w lv ll) := hR
  have HL0 : Hid (IntsAt w av l) := hl
  obtain ⟨a, cap, rfl, h1, h2, _⟩ := hR
  obtain ⟨a', cap', rfl, h1', h2', _⟩ := hl
  unfold maxLen at h2 h2'
  have hmk := run_make_zeros n hn
  obtain ⟨Z, hZ⟩ : ∃ Z, Z = intsV (zerosV n) := ⟨_, rfl⟩
  rw [← hZ] at hmk
  have HZ : Hid _ := hZ
  have hA0 : Hid (AssumeI n l 0 (zerosV n) []) := AssumeI.start n hn l
  clear hZ hlv hv he
  generalize least n ll l = F at *
  go_enter Tryd.func20, Tryd.ntmps20
  go_upto_region 1 with fail
  obtain ⟨wb, hwb, hxb, hRb, hIb, hT, hO⟩ := HB.out
  rw [← hwb]; clear HB hwb
  have b0 := hT.1
  have b1 := hT.2
  have hlt : w.heap.size < wb.heap.size := cell_lt b0
  have hw : IntKind.i64.wrap ((n : Int) + 1) = (n : Int) + 1 := IntWalk.i64_in _ (by omega)
  go_cut [6] (fun s6 wx => Made wb wx n (.slice a ll.length cap) Z s6)
  case first =>
    go_region
    · go_wp2_with fail
      go_meet
      obtain ⟨o1, o2, o3, hx⟩ := own_three wb Z [.int .i64 n, .slice a ll.length cap, .slice (some ⟨wb.heap.size, 0, none⟩) (n + 1) (n + 1), .slice none 0 0] [.pointer (some ⟨wb.heap.size + 1, 0, none⟩)] 3 64 62
      exact ⟨_, _, _, rfl, o3, o2, o1, by omega, by omega, by omega, by omega, by omega, by omega, hx⟩
    · go_wp2_with fail
      go_meet
      obtain ⟨o1, o2, o3, hx⟩ := own_three wb Z [.pointer (some ⟨wb.heap.size + 1 + 1, 0, none⟩)] [.int .i64 n, .slice a ll.length cap, .slice (some ⟨wb.heap.size, 0, none⟩) (n + 1) (n + 1), .slice none 0 0] 3 62 64
      exact ⟨_, _, _, rfl, o2, o3, o1, by omega, by omega, by omega, by omega, by omega, by omega, hx⟩
    · go_wp2_with fail
      go_meet
      obtain ⟨o1, o2, o3, hx⟩ := own_three wb [.pointer (some ⟨wb.heap.size + 1 + 1, 0, none⟩)] Z [.int .i64 n, .slice a ll.length cap, .slice (some ⟨wb.heap.size + 1, 0, none⟩) (n + 1) (n + 1), .slice none 0 0] 62 3 64
      exact ⟨_, _, _, rfl, o1, o3, o2, by omega, by omega, by omega, by omega, by omega, by omega, hx⟩
  case rest =>
    obtain ⟨pb, Sb, Vb, rfl, oP, oS, oV, g1, g2, g3, g4, g5, g6, hxc⟩ := hcut
    have hxw : Ex w wc := hxb.trans hxc
    have hTc := hT.ex hxc
    have hOc := hO.ex hxc
    have hIc := hIb.ex hxc
    have hbs : w.heap.size + 1 < wb.heap.size := hO.lt
    have hs0 : Sol (fun b => b < wb.heap.size ∨ b = pb) wc Sb Vb n (.slice a ll.length cap) (zerosV n) [] := by
      have hsz := hxc.size
      have o1 := oS.lt
      have o2 := oV.lt
      have o3 := oP.lt
      refine ⟨⟨.slice none 0 0, wc.heap.size, oS, OwnI.nil _ _, o1, o2, Nat.le_refl _, fun b _ => by simp [Value.ownBlock]⟩, by rw [← HZ.out]; exact oV, by simp [zerosV], g4, ?_⟩
      rintro b (hb | rfl)
      · exact ⟨by omega, by omega, by omega⟩
      · exact ⟨o3, g5, g6⟩
    have hKx : Hid (∀ wr, Keep (fun b => b < wb.heap.size ∨ b = pb) wc wr → Ex w wr) := fun wr h => h.ex hxw fun b hb => .inl (by omega)
    clear hT hO hIb hRb b0 b1 hmk hw HZ oS oV hxc hxb
    go_wp2_with fail
    go_loopw [21] (fun ix wr => ∃ (j : Nat) (vs tr : List Int), j ≤ l.length ∧ ix = .int .i64 j ∧ Sol (fun b => b < wb.heap.size ∨ b = pb) wr Sb Vb n (.slice a ll.length cap) vs tr ∧ Keep (fun b => b < wb.heap.size ∨ b = pb) wc wr ∧ Hid (AssumeI n l j vs tr)) (fun ix _ => l.length - (intOf ix).toNat)
    case atStart => exact ⟨0, _, _, Nat.zero_le _, rfl, hs0, Keep.refl _ _, hA0⟩
    case round =>
      obtain ⟨j, vs, tr, hj, rfl, hs, hk, hA⟩ := hrel
      have oPr := hk.own (.inr rfl) oP
      have hOr := hk.own (.inl hbs) hOc
      have p0 : wr.cell? ⟨pb, 0, none⟩ = some (.pointer (some ⟨Sb, 0, none⟩)) := oPr.cell 0
      have s0 : wr.cell? ⟨w.heap.size + 1, 0, none⟩ = some (.int .u64 0) := hOr.cell 0
      have s1 : wr.cell? ⟨w.heap.size + 1, 1, none⟩ = some (.int .u64 0) := hOr.cell 1
      have f0 := hOr.free 0
      have f1 := hOr.free 1
      have hxr := hKx.out wr hk
      by_cases hlt2 : j < l.length
      · have hx := HLV.out j hlt2
        obtain ⟨_, _, hv, _, _, h3⟩ := HL0.out.ex hxr
        cases hv
        obtain ⟨xb, xo, rfl, hxb, hxc⟩ := h3 j hlt2
        clear h3
        rcases truthV_tri hA.out.grow.tri (l.getD j 0) with ht | ht | ht
        · have hset := set_decided _ wr Sb Vb n _ vs tr hs hA.out.grow.tri (l.getD j 0) (by omega) (by omega) hn (by omega)
          rw [ht] at hset
          have HS : Hid _ := hset
          have hA2 : Hid (AssumeI n l (j + 1) vs tr) := hA.out.yes hx.1 hx.2 ht
          clear hset hA ht hx
          generalize l.getD j 0 = x at *
          go_wp2_with (go_at_call 37; refine Calls.mono HS.out ?_; rintro e w' ⟨rfl, rfl⟩)
          go_roundw
          case rel => exact ⟨j + 1, vs, tr, by omega, by go_num, hs, hk, hA2⟩
          case measure => simp [intOf]; omega
        · have hset := set_decided _ wr Sb Vb n _ vs tr hs hA.out.grow.tri (l.getD j 0) (by omega) (by omega) hn (by omega)
          rw [ht] at hset
          have HS : Hid _ := hset
          have hF : F = none := hN1.out j vs tr hA.out hlt2 hx.1 hx.2 ht
          subst hF
          clear hset hA ht hx hN1 hN2 hS1
          generalize l.getD j 0 = x at *
          go_wp2_with (go_at_call 37; refine Calls.mono HS.out ?_; rintro e w' ⟨rfl, rfl⟩)
          refine bodyPost_ret (v := .tuple #[.agg #[.int .u64 0, .int .u64 0], .bool false]) (by simp [results, Tryd.results20, go_sem, s0, s1]) rfl ⟨rfl, ?_⟩
          refine Ex.setCell (Ex.setCell hxr ?_ _) ?_ _ <;> exact Nat.le_succ _
        · have hset := set_open _ wr Sb Vb n _ vs tr hs hA.out.grow.tri (l.getD j 0) (by omega) (by omega) hx.1 hn ht (by have := hA.out.bound; omega)
          have HS : Hid _ := hset
          have hA2 : Hid (AssumeI n l (j + 1) (setV1 vs (l.getD j 0)) (tr ++ [((l.getD j 0).natAbs : Int)])) := hA.out.set hx.1 hx.2 ht
          clear hset hA ht hx
          generalize l.getD j 0 = x at *
          go_wp2_with (go_at_call 37; refine Calls.mono HS.out ?_; rintro e w' ⟨rfl, hs', hk'⟩)
          go_roundw
          case rel => exact ⟨j + 1, _, _, by omega, by go_num, hs', hk.trans hk', hA2⟩
          case measure => simp [intOf]; omega
      · obtain rfl : j = l.length := by omega
        have hTr := hTc.c0
        have t0 := hk.cell (.inl hlt) hTc.c0
        clear hTr
        have hTry := try_any w Sb Vb n _ ll HR0.out hn HV.out pb w.heap.size wr.heap.size (n + 1) 1 (fun b => (b < wb.heap.size ∨ b = pb) ∨ b = wr.heap.size)
          (wr.alloc (.cells #[.func (.func 38) #[] #[.pointer (some ⟨pb, 0, none⟩), .pointer (some ⟨w.heap.size, 0, none⟩), .pointer (some ⟨wr.heap.size, 0, none⟩)]] 58)) vs tr (by omega) (by omega) (by omega) (hxr.alloc' _)
          (fun b hb => .inl (.inl (by omega))) (.inl (.inr rfl)) (.inl (.inl hlt)) (.inr rfl) (ex_cell p0 (Ex.alloc _ _)) (ex_cell t0 (Ex.alloc _ _)) (by simp)
          ((hs.ex (Ex.alloc _ _)).mono fun b hb => hb.imp id fun e => by subst e; exact ⟨Nat.le_refl _, by show _ < (wr.heap.push _).size; simp⟩) hA.out.grow.tri hA.out.bound (fun u a b => by omega)
        have HT : Hid _ := hTry
        have ho3 := (hk.own (.inl hbs) hOc).ex (Ex.alloc wr (.cells #[.func (.func 38) #[] #[.pointer (some ⟨pb, 0, none⟩), .pointer (some ⟨w.heap.size, 0, none⟩), .pointer (some ⟨wr.heap.size, 0, none⟩)]] 58))
        have op3 := oPr.ex (Ex.alloc wr (.cells #[.func (.func 38) #[] #[.pointer (some ⟨pb, 0, none⟩), .pointer (some ⟨w.heap.size, 0, none⟩), .pointer (some ⟨wr.heap.size, 0, none⟩)]] 58))
        have hx3 := hxr.alloc' (.cells #[.func (.func 38) #[] #[.pointer (some ⟨pb, 0, none⟩), .pointer (some ⟨w.heap.size, 0, none⟩), .pointer (some ⟨wr.heap.size, 0, none⟩)]] 58)
        clear hTry
        go_wp2_with fail
        generalize wr.alloc (.cells #[.func (.func 38) #[] #[.pointer (some ⟨pb, 0, none⟩), .pointer (some ⟨w.heap.size, 0, none⟩), .pointer (some ⟨wr.heap.size, 0, none⟩)]] 58) = w3 at *
        refine Calls.mono HT.out ?_
        rintro e w4 ⟨ok, v4, t4, rfl, hs4, hk4, hg4, _, hn4, hl4⟩
        clear HT hOr s0 s1 f0 f1 p0 t0
        have hO4 := hk4.own (.inl (.inl hbs)) ho3
        have oP4 := hk4.own (.inl (.inr rfl)) op3
        have hx4 := hk4.ex hx3 fun b hb => .inl (.inl (by omega))
        cases ok
        · have hF : F = none := hN2.out vs tr hA.out (hn4 rfl)
          subst hF
          clear hn4 hl4 hN1 hN2 hS1
          have s0 : w4.cell? ⟨w.heap.size + 1, 0, none⟩ = some (.int .u64 0) := hO4.cell 0
          have s1 : w4.cell? ⟨w.heap.size + 1, 1, none⟩ = some (.int .u64 0) := hO4.cell 1
          have f0 := hO4.free 0
          have f1 := hO4.free 1
          go_wp2
          refine bodyPost_ret (v := .tuple #[.agg #[.int .u64 0, .int .u64 0], .bool false]) (by simp [results, Tryd.results20, go_sem, s0, s1]) rfl ⟨rfl, ?_⟩
          refine Ex.setCell (Ex.setCell hx4 ?_ _) ?_ _ <;> exact Nat.le_succ _
        · have hF : F = some (accF v4 (n + 1)) := hS1.out vs tr v4 t4 hA.out hg4 (hl4 rfl)
          subst hF
          clear hn4 hl4 hN1 hN2 hS1
          have p4 : w4.cell? ⟨pb, 0, none⟩ = some (.pointer (some ⟨Sb, 0, none⟩)) := oP4.cell 0
          obtain ⟨trv, base, oS4, _⟩ := hs4.body
          have oV4 := hs4.hvals
          have hlen4 : v4.length = n + 1 := hs4.len
          have plt := oP4.lt
          have slt := oS4.lt
          have c2 : w4.cell? ⟨Sb, 2, none⟩ = some (.slice (some ⟨Vb, 0, none⟩) (n + 1) (n + 1)) := oS4.cell 2
          have hz4 : Hid (v4.getD 0 0 = 0) := by
            obtain ⟨e, _, q1, q2⟩ := (hA.out.grow.trans hg4).ext
            have : (0 : Int) ∉ e := fun hm => by have := (q1 0 hm).1; omega
            show _ = _
            rw [q2 0 this, rep_getD]
          have hAcc : Hid (∀ j, j ≤ 129 → (accF v4 j).1 < 18446744073709551616 ∧ (accF v4 j).2 < 18446744073709551616) := fun j hj => by
            obtain ⟨q1, q2, _⟩ := accF_spec hz4.out j hj
            exact ⟨by omega, by omega⟩
          have hV4 : Hid (∀ j, j < n + 1 → OwnB w4 Vb (intsV v4) 3 → (intsV v4)[j]? = some (.int .i64 (v4.getD j 0))) := fun j hj _ => by
            rw [intsV, List.getElem?_map, List.getElem?_eq_getElem (by rw [hlen4]; exact hj), getD_getElem (by rw [hlen4]; exact hj)]; rfl
          have hvlt := oV4.lt
          clear hlen4 hA hg4
          go_wp2_with fail
          have hO5 := OwnB.new w4 [.int .u64 0, .int .u64 0] 30
          have hxA := Ex.alloc w4 (.cells #[.int .u64 0, .int .u64 0] 30)
          have hsz5 : w4.heap.size ≤ (w4.alloc (.cells #[.int .u64 0, .int .u64 0] 30)).heap.size := hxA.size
          generalize hAb : w4.heap.size = A at *
          have hO5' : OwnB (w4.alloc (.cells #[.int .u64 0, .int .u64 0] 30)) A [.int .u64 0, .int .u64 0] 30 := hO5
          have oS5 := oS4.ex hxA
          have oV5 := oV4.ex hxA
          have oP5 := oP4.ex hxA
          have oR5 := hO4.ex hxA
          have hx5 := hx4.trans hxA
          clear hO5 hxA hO4 oP4 oS4 p4 c2
          generalize w4.alloc (.cells #[.int .u64 0, .int .u64 0] 30) = w5 at *
          have hle5 : w.heap.size ≤ A := by rw [← hAb]; exact hx4.size
          clear hAb
          obtain ⟨wq, rfl⟩ : ∃ wo : World, wo = wr := ⟨_, rfl⟩
          go_loopw [41] (fun ix wz => ∃ j : Nat, j ≤ n + 1 ∧ ix = .int .i64 j ∧ OwnB wz A [.int .u64 (accF v4 j).1, .int .u64 (accF v4 j).2] 30 ∧ Keep (fun b => b < A) w5 wz) (fun ix _ => n + 1 - (intOf ix).toNat)
          case atStart => exact ⟨0, Nat.zero_le _, rfl, hO5', Keep.refl _ _⟩
          case round =>
            obtain ⟨j, hj, rfl, hOa, hkz⟩ := hrel
            have oSz := hkz.own slt oS5
            have oVz := hkz.own hvlt oV5
            have oPz := hkz.own plt oP5
            have oRz := hkz.own (by omega) oR5
            have p0 : wr.cell? ⟨pb, 0, none⟩ = some (.pointer (some ⟨Sb, 0, none⟩)) := oPz.cell 0
            have c2 : wr.cell? ⟨Sb, 2, none⟩ = some (.slice (some ⟨Vb, 0, none⟩) (n + 1) (n + 1)) := oSz.cell 2
            have a0 : wr.cell? ⟨A, 0, none⟩ = some (.int .u64 (accF v4 j).1) := hOa.cell 0
            have a1 : wr.cell? ⟨A, 1, none⟩ = some (.int .u64 (accF v4 j).2) := hOa.cell 1
            have fa0 := hOa.free 0
            have fa1 := hOa.free 1
            have s0 : wr.cell? ⟨w.heap.size + 1, 0, none⟩ = some (.int .u64 0) := oRz.cell 0
            have s1 : wr.cell? ⟨w.heap.size + 1, 1, none⟩ = some (.int .u64 0) := oRz.cell 1
            have f0 := oRz.free 0
            have f1 := oRz.free 1
            have hxz := hkz.ex hx5 (fun b hb => by omega)
            by_cases hlt3 : j < n + 1
            · have cv : wr.cell? ⟨Vb, j, none⟩ = some (.int .i64 (v4.getD j 0)) := by rw [oVz.cell]; exact hV4.out j hlt3 oV4
              have hj3 : (j : Int) < (n : Int) + 1 := by omega
              by_cases h1v : v4.getD j 0 = 1
              · have hj0 : 1 ≤ j := by
                  cases j with
                  | zero => rw [hz4.out] at h1v; cases h1v
                  | succ j => omega
                have hW := varsWith_any (accF v4 j) j (by omega) (by omega) (hAcc.out j (by omega)).1 (hAcc.out j (by omega)).2
                have hac : accF v4 (j + 1) = withV (accF v4 j) j := by simp only [accF]; rw [if_pos h1v]
                have HW : Hid _ := hW
                have HAC : Hid _ := hac
                rw [h1v] at cv
                clear hW hac h1v s0 s1 f0 f1
                generalize accF v4 j = sj at *
                go_wp2_with fail
                refine (HW.out _).mono ?_
                rintro e w6 ⟨rfl, hx6⟩
                have hOa6 := hOa.ex hx6
                have q0 : w6.cell? ⟨A, 0, none⟩ = some (.int .u64 sj.1) := hOa6.cell 0
                have q1 : w6.cell? ⟨A, 1, none⟩ = some (.int .u64 sj.2) := hOa6.cell 1
                have fq0 := hOa6.free 0
                have fq1 := hOa6.free 1
                have hOf := (hOa6.set 0 (.int .u64 (withV sj j).1)).set 1 (.int .u64 (withV sj j).2)
                have hkf : Keep (fun b => b < A) w5 ((w6.setCell ⟨A, 0, none⟩ (.int .u64 (withV sj j).1)).setCell ⟨A, 1, none⟩ (.int .u64 (withV sj j).2)) :=
                  ((hkz.trans (hx6.keep fun b hb => by have := hOa.lt; omega)).setCell (by omega) _ _).setCell (by omega) _ _
                clear hOa6 hx6
                go_wp2
                go_roundw
                case rel => exact ⟨j + 1, by omega, by go_num, by rw [HAC.out]; exact hOf, hkf⟩
                case measure => simp [intOf]; omega
              · have hvb : ((v4.getD j 0 : Int) == 1) = false := by simp only [beq_eq_false_iff_ne]; exact h1v
                have hac : Hid (accF v4 (j + 1) = accF v4 j) := by show _ = _; simp only [accF]; rw [if_neg h1v]
                clear h1v
                generalize v4.getD j 0 = x at *
                go_wp2
                go_roundw
                case rel => exact ⟨j + 1, by omega, by go_num, by rw [hac.out]; exact hOa, hkz⟩
                case measure => simp [intOf]; omega
            · obtain rfl : j = n + 1 := by omega
              have hal : A ≠ w.heap.size + 1 := by omega
              go_wp2
              refine bodyPost_ret (v := .tuple #[.agg #[.int .u64 (accF v4 (n + 1)).1, .int .u64 (accF v4 (n + 1)).2], .bool true]) (by simp [results, Tryd.results20, go_sem, s0, s1]) rfl ⟨rfl, ?_⟩
              refine Ex.setCell (Ex.setCell hxz ?_ _) ?_ _ <;> exact Nat.le_succ _
end Go.Proofs.YtagohmpbbbkdjaaDoor
