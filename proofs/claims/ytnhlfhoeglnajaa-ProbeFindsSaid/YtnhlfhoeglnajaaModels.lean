/- The models of a theory in the references, in order; the least one under assumptions. -/
import Derived.Test.YtnhlfhoeglnajaaEval
import Derived.Test.YtnhlfhoeglnajaaG2
namespace Go.Proofs.Ytnhlfhoeglnajaa
set_option linter.unusedSimpArgs false
set_option linter.unusedVariables false
open Go.RowKit
set_option maxRecDepth 20000

theorem wrap_add {x p : Nat} (h : x + p < 2 ^ 64) : IntKind.u64.wrap ((x : Int) + (p : Int)) = ((x + p : Nat) : Int) := by
  rw [IntKind.wrap_u64]; omega
set_option maxHeartbeats 1000000 in
theorem r05Assign_any (k n : Nat) (hn : n ≤ 128) (hk : k < 2 ^ 62) (w : World) :
    Calls Try.prog 76 #[.int .i64 k, .int .i64 n] w fun e w' => e = .returned (setV (assign k n).1 (assign k n).2) ∧ Ex w w' := by
  unfold setV
  have hfin : Hid (assignF n k (0, 0) = assign k n) := rfl
  generalize assign k n = fin at *
  go_enter Try.func76, Try.ntmps76
  go_wp2
  go_loopw [0, 6] (fun q i wr => ∃ (v c x y : Nat), v ≤ n ∧ q = .int .i64 c ∧ c < 2 ^ 62 ∧ i = .int .i64 v ∧ Hid (Beyond v (x, y)) ∧ Hid (assignF v c (x, y) = fin) ∧
    wr = (w.alloc (.cells #[.int .u64 0, .int .u64 0] 28)).alloc (.cells #[.int .u64 x, .int .u64 y] 28)) (fun _ i _ => (intOf i).toNat)
  case atStart => exact ⟨n, k, 0, 0, Nat.le_refl _, rfl, hk, rfl, Beyond.zero _, hfin, rfl⟩
  case round =>
    obtain ⟨v, c, x, y, hv, rfl, hc, rfl, hB, hF, rfl⟩ := hrel
    by_cases hv0 : v = 0
    · subst hv0
      go_wp2
      refine bodyPost_ret (v := .agg #[.int .u64 x, .int .u64 y]) (by simp [results, Try.results76, go_sem]) rfl ⟨?_, ?_⟩
      · rw [← hF.out]; rfl
      · repeat (first | exact Ex.refl _ | exact Ex.alloc _ _ | refine Ex.setCell ?_ (by simp) _ | refine Ex.alloc' ?_ _)
    · obtain ⟨u, rfl⟩ : ∃ u, v = u + 1 := ⟨v - 1, by omega⟩
      have hu : u < 128 := by omega
      by_cases hp : c % 2 = 1
      · have hB2 : Hid (Beyond u (addVar (u + 1) (x, y))) := addVar_beyond hB.out hu
        have hF2 : Hid (assignF u (c / 2) (addVar (u + 1) (x, y)) = fin) := by have := hF.out; simp only [assignF, hp, if_true] at this; exact this
        have hpar : ((((c : Int) % 2 == 1)) = true) := by simp; omega
        have hv1 : ((u : Int) + 1 - 1) = u := by omega
        obtain ⟨h1, h2, h3, h4⟩ := hB.out
        simp only at h1 h2 h3 h4
        by_cases h64 : u < 64
        · have hq : (u : Int) / 64 = 0 := by omega
          have hr : (u : Int) % 64 = u := by omega
          have hx : x % 2 ^ (u + 1) = 0 := by
            by_cases h : u + 1 < 64
            · exact h3 h
            · rw [(h4 (by omega)).1]; simp
          have hj := (join_bit hx h1 h64).1
          have hw1 := wrap_bit h64
          have hw2 := wrap_add hj
          have e2 : addVar (u + 1) (x, y) = (x + 2 ^ u, y) := by unfold addVar; rw [if_pos (by omega)]; rfl
          rw [e2] at hB2 hF2
          generalize 2 ^ u = p at *
          generalize x + p = x' at *
          clear hj hx h3 h4 h1 h2 e2 hB hF
          go_wp2
          go_roundw
          case rel => exact ⟨u, c / 2, x', y, by omega, by go_num, by omega, by go_num, hB2, hF2, by simp⟩
          case measure => simp [intOf] <;> omega
        · have hq : (u : Int) / 64 = 1 := by omega
          obtain ⟨t, rfl⟩ : ∃ t, u = t + 64 := ⟨u - 64, by omega⟩
          have hr : ((t : Int) + 64) % 64 = t := by omega
          have hq' : ((t : Int) + 64) / 64 = 1 := by omega
          have ht : t < 64 := by omega
          obtain ⟨e0, e1⟩ := h4 (by omega)
          have hx : y % 2 ^ (t + 1) = 0 := by rw [show t + 1 = t + 64 + 1 - 64 by omega]; exact e1
          have hj := (join_bit hx h2 ht).1
          have hw1 := wrap_bit ht
          have hw2 := wrap_add hj
          have e2 : addVar (t + 64 + 1) (x, y) = (x, y + 2 ^ t) := by
            unfold addVar; rw [if_neg (by omega)]
            simp only [show t + 64 + 1 - 65 = t by omega]
          rw [e2] at hB2 hF2
          generalize 2 ^ t = p at *
          generalize y + p = y' at *
          have hv2 : ((t : Int) + 64 + 1 - 1) = (t : Int) + 64 := by omega
          clear hj hx h3 h4 h1 h2 e2 hB hF e0 e1 hv1 hq
          go_wp2
          go_roundw
          case rel => exact ⟨t + 64, c / 2, x, y', by omega, by go_num, by omega, by go_num, hB2, hF2, by simp⟩
          case measure => simp [intOf] <;> omega
      · have hpar : ((((c : Int) % 2 == 1)) = false) := by simp; omega
        have hB2 : Hid (Beyond u (x, y)) := hB.out.down
        have hF2 : Hid (assignF u (c / 2) (x, y) = fin) := by have := hF.out; simp only [assignF, hp, if_false] at this; exact this
        clear hB hF
        go_wp2
        go_roundw
        case rel => exact ⟨u, c / 2, x, y, by omega, by go_num, by omega, by go_num, hB2, hF2, by simp⟩
        case measure => simp [intOf] <;> omega
theorem Try.infoSet : (Try.prog.info? 28).map (fun i => (i.zero, i.size, i.bytes)) = some (some (.agg #[.int .u64 0, .int .u64 0]), 2, 16) := by kernel_rfl
theorem wrap_pow {n : Nat} (h : n ≤ 12) : IntKind.i64.wrap (2 ^ n) = ((2 ^ n : Nat) : Int) := by
  have h1 : 2 ^ n ≤ 2 ^ 12 := Nat.pow_le_pow_right (by decide) h
  have e : ((2 : Int) ^ n) = ((2 ^ n : Nat) : Int) := by simp
  rw [e]
  generalize 2 ^ n = p at *
  exact IntWalk.i64_in _ (by omega)
set_option maxHeartbeats 2000000 in
theorem r05Models_any (n : Nat) (lv : Value) (ll : List (List Int)) (w : World) (hR : RowsAt w lv ll) (he : theoryErr n ll = 0) (hn : n ≤ 12) :
    Calls Try.prog 52 #[.agg #[.int .i64 n, lv]] w fun e w' => ∃ v, e = .returned v ∧ SetsAt w' v (modelsL n ll) ∧ Ex w w' := by
  have hR0 := hR
  obtain ⟨a, cap, rfl, h1, h2, h3⟩ := hR
  unfold maxLen at h2
  clear h3
  obtain ⟨wa, hwa⟩ : ∃ wa : World, wa = w.alloc (.cells #[.int .i64 n, .slice a ll.length cap] 24) := ⟨_, rfl⟩
  have hxa : Ex w wa := hwa ▸ Ex.alloc _ _
  have hA : RowsAt wa (.slice a ll.length cap) ll := hR0.ex hxa
  have hT : BoxT wa w.heap.size n (.slice a ll.length cap) := ⟨by rw [hwa]; simp, by rw [hwa]; simp⟩
  have hwb : Hid _ := hwa
  have he' : (theoryErr n ll != 0) = false := by simp [he]
  have hP := wrap_pow hn
  have hP2 : 2 ^ n ≤ 4096 := Nat.pow_le_pow_right (n := 2) (by decide) hn
  have hM : Hid (modelsL n ll = ((List.range (2 ^ n)).map fun k => assign k n).filter fun s => evalB n ll s.1 s.2) := rfl
  generalize hp : 2 ^ n = p at *
  clear hp he hwa
  generalize modelsL n ll = M at *
  obtain ⟨i0, hi, hz0, hz1, hz2⟩ := info_parts Try.infoSet
  go_enter Try.func52, Try.ntmps52
  go_wp2_with fail
  rw [← hwb.out]; clear hwb
  refine (r05Check_any _ _ _ _ hA).mono ?_
  rintro e w2 ⟨rfl, hx2⟩
  replace hA := hA.ex hx2
  replace hxa := hxa.trans hx2
  replace hT := hT.ex hx2
  clear hx2
  have b0 := hT.1
  go_wp2_with fail
  clear b0
  go_loopw [3, 4] (fun v i wr => ∃ k : Nat, k ≤ p ∧ i = .int .i64 k ∧ (∃ L : List (Nat × Nat), L.length ≤ k ∧ Hid (L = ((List.range k).map fun k => assign k n).filter fun s => evalB n ll s.1 s.2) ∧ wr.ownsRow w2.heap.size 28 2 v L.length (setsV L)) ∧ Ex w2 wr) (fun _ i _ => p - (intOf i).toNat)
  case atStart => exact ⟨0, Nat.zero_le _, rfl, ⟨[], Nat.le_refl _, rfl, World.ownsRow_nil _ _ _ _⟩, Ex.refl _⟩
  case round =>
    obtain ⟨k, hk, rfl, ⟨L, hLk, hL, hown⟩, hxr⟩ := hrel
    have hTr := hT.ex hxr
    have hAr := hA.ex hxr
    have b0 := hTr.1
    by_cases hlt : k < p
    · go_wp2_with fail
      refine (r05Assign_any _ _ (by omega) (by omega) _).mono ?_
      rintro e w3 ⟨rfl, hx3⟩
      have hown3 := ownsRow_ex hown hx3
      replace hTr := hTr.ex hx3
      replace hAr := hAr.ex hx3
      have hL2 : Hid (((List.range (k + 1)).map fun k => assign k n).filter (fun s => evalB n ll s.1 s.2) = if evalB n ll (assign k n).1 (assign k n).2 then L ++ [assign k n] else L) := by
        show _ = _
        rw [hL.out, List.range_succ, List.map_append, List.filter_append]
        simp only [List.map_cons, List.map_nil, List.filter_cons, List.filter_nil]
        split <;> simp_all
      clear b0 hown hL
      generalize assign k n = st at *
      have b0 := hTr.1
      have b1 := hTr.2
      have hb : w.heap.size < w3.heap.size := cell_lt hTr.1
      go_wp2_with fail
      refine (r05Eval_any _ _ _ _ _ _ (hAr.ex (Ex.alloc _ _))).mono ?_
      rintro e w4 ⟨rfl, hx4⟩
      have hx34 := (Ex.alloc _ _).trans hx4
      have hown4 := ownsRow_ex hown3 hx34
      have hS : BoxS w4 w3.heap.size st.1 st.2 := BoxS.ex ⟨by simp, by simp⟩ hx4
      have hx24 : Ex w2 w4 := hxr.trans (hx3.trans hx34)
      have hTr4 := hTr.ex hx34
      clear hown3 hx4 hx34 b0 b1 hb hTr hAr
      have b0 := hTr4.1
      have s0 := hS.1
      have s1 := hS.2
      have z0 := cell_lt s0
      generalize hev : evalB n ll st.1 st.2 = ev at *
      cases ev
      · have hL3 : Hid (L = List.filter (fun s => evalB n ll s.1 s.2) (List.map (fun k => assign k n) (List.range (k + 1)))) := hL2.out.symm
        clear hL2 hev
        go_wp2
        go_roundw
        case rel => exact ⟨k + 1, by omega, by go_num, ⟨L, by omega, hL3, hown4⟩, hx24⟩
        case measure => simp [intOf] <;> omega
      · have hL3 : Hid (L ++ [st] = List.filter (fun s => evalB n ll s.1 s.2) (List.map (fun k => assign k n) (List.range (k + 1)))) := hL2.out.symm
        clear hL2 hev
        go_wp2_with (at_builtin; refine wpList_append_own _ rfl _ _ 63 rfl w2.heap.size 28 i0 (.agg #[.int .u64 0, .int .u64 0]) 2 16 Try.underlying63 hi hz0 hz1 hz2 rfl (by decide) _ _ _ rfl (hown4.alloc _) ⟨w4.heap.size, 0, none⟩ 1 1 [.int .u64 st.1, .int .u64 st.2] rfl rfl ?c1 ?c2 ?c3 ?c4 ?c5 ?_)
        case c1 => exact cells_new _ [_, _] _
        case c2 => exact oneCell_u64 _ _
        case c3 => unfold maxLen; omega
        case c4 => omega
        case c5 => exact Nat.le_trans hx24.size (by simp)
        · intro v' w5 hown5 hgrow _
          have hx25 : Ex w2 w5 := grown_ex (hx24.alloc' _) hgrow (ownsRow_block hown4)
          rw [← setsV_append, show L.length + 1 = (L ++ [st]).length by simp] at hown5
          have hlen : (L ++ [st]).length ≤ k + 1 := by simp; omega
          clear hown4 hgrow hx24 hS hTr4 b0 s0 s1 z0 hxr hx3
          generalize L ++ [st] = L' at *
          go_wp2
          go_roundw
          case rel => exact ⟨k + 1, by omega, by go_num, ⟨L', by omega, hL3, hown5⟩, hx25⟩
          case measure => simp [intOf] <;> omega
    · obtain rfl : k = p := by omega
      have hR : SetsAt wr u3 M := by rw [hM.out, ← hL.out]; exact setsAt_of_owns hown
      clear hL hM hown
      go_wp2
      go_ret
      exact ⟨_, rfl, hR, hxa.trans hxr⟩
end Go.Proofs.Ytnhlfhoeglnajaa
