/- The reference of the chapter on literals: Order, Opposite, Subsumes: what each call returns; old memory stays. -/
import Derived.Test.YtlaejhmpnlcceaaRef04
namespace Go.Proofs.Ytlaejhmpnlcceaa
set_option linter.unusedSimpArgs false
set_option linter.unusedVariables false
open Go.RowKit
def pieceL (l : List Int) (v : Nat) : List Int := (if l.contains (-((v : Int) + 1)) then [-((v : Int) + 1)] else []) ++ (if l.contains ((v : Int) + 1) then [(v : Int) + 1] else [])
def orderTo (l : List Int) (k : Nat) : List Int := (List.range k).flatMap (pieceL l)
theorem orderTo_all (l : List Int) : orderTo l 128 = orderL l := rfl
theorem orderTo_succ (l : List Int) (k : Nat) : orderTo l (k + 1) = orderTo l k ++ pieceL l k := by
  unfold orderTo; rw [List.range_succ, List.flatMap_append]; simp
theorem orderTo_length (l : List Int) : ∀ k, (orderTo l k).length ≤ 2 * k
  | 0 => by simp [orderTo]
  | k + 1 => by
    have := orderTo_length l k
    rw [orderTo_succ, List.length_append]
    have : (pieceL l k).length ≤ 2 := by unfold pieceL; split <;> split <;> simp
    omega
/-- What Order hands back: a list of the call's own. -/
def OrdRet (w : World) (L : List Int) (e : Ending) (w' : World) : Prop := ∃ v, e = .returned v ∧ OwnI w' w.heap.size v L ∧ Ex w w'
set_option maxHeartbeats 2000000 in
theorem r04Order_any (lv : Value) (l : List Int) (w : World) (hl : IntsAt w lv l) :
    Calls Try.prog 39 #[lv] w (OrdRet w (orderL l)) := by
  have HH : Hid (∀ wa x, Ex w wa → Calls Try.prog 54 #[lv, .int .i64 x] wa fun e w' => e = .returned (.bool (l.contains x)) ∧ wa = w') := fun wa x hx => r04has_any lv l x wa (hl.ex hx)
  obtain ⟨a, cap, rfl, _, _, h3⟩ := hl
  clear h3
  rw [← orderTo_all]
  go_enter Try.func39, Try.ntmps39
  go_wp2
  go_loopw [3, 4] (fun out i wr => ∃ k : Nat, k ≤ 128 ∧ i = .int .i64 (k + 1 : Nat) ∧ OwnI wr w.heap.size out (orderTo l k) ∧ Ex w wr) (fun out i _ => 129 - (intOf i).toNat)
  case atStart => exact ⟨0, Nat.zero_le _, rfl, OwnI.nil _ _, Ex.refl _⟩
  case round =>
    obtain ⟨k, hk, rfl, hO, hxr⟩ := hrel
    by_cases hlt : k < 128
    · have H1 := HH.out wr (-((k + 1 : Nat) : Int)) hxr
      have H2 : Hid (∀ wa, Ex w wa → Calls Try.prog 54 #[.slice a l.length cap, .int .i64 ((k + 1 : Nat) : Int)] wa fun e w' => e = .returned (.bool (l.contains ((k + 1 : Nat) : Int))) ∧ wa = w') := fun wa hx => HH.out wa _ hx
      have hS := orderTo_succ l k
      have hlen : Hid ((orderTo l k).length ≤ 2 * k) := orderTo_length l k
      have hs := hxr.size
      unfold pieceL at hS
      rw [show ((k : Int) + 1) = ((k + 1 : Nat) : Int) by omega] at hS
      have q1 : ((k + 1 : Nat) : Int) ≤ 128 := by omega
      have q0 : (0 : Int) ≤ ((k + 1 : Nat) : Int) := by omega
      have q2 : Hid (((k + 1 : Nat) : Int) + 1 = ((k + 1 + 1 : Nat) : Int)) := by show _ = _; omega
      obtain ⟨v, hv⟩ : ∃ v : Int, v = ((k + 1 : Nat) : Int) := ⟨_, rfl⟩
      rw [← hv] at H1 H2 hS q1 q0 q2 ⊢
      have Hv : Hid _ := hv
      clear hv HH
      by_cases hn : l.contains (-v) = true
      · by_cases hp : l.contains v = true
        · have hF : Hid (orderTo l (k + 1) = orderTo l k ++ [-v, v]) := by
            show _ = _
            rw [hS, if_pos hn, if_pos hp]
            simp
          rw [hn] at H1
          rw [hp] at H2
          have H1' : Hid _ := H1
          clear H1 hn hp hS
          generalize hL1 : orderTo l (k + 1) = L1 at *
          have HL1 : Hid _ := hL1
          clear hL1
          generalize orderTo l k = L0 at *
          go_wp2_with fail
          refine Calls.mono H1'.out ?_
          rintro e w' ⟨rfl, rfl⟩
          have hI1 := intsAt_fresh wr (-v) 3
          go_wp2_with (at_builtin; refine wpList_append_ints rfl (.tmp 13) (.tmp 16) rfl rfl rfl (hO.ex (Ex.alloc _ _)) hI1 ?c1 ?c2 ?_)
          case c1 => have := hlen.out; simp only [List.length_cons, List.length_nil]; omega
          case c2 => exact Nat.le_trans hs (by show _ ≤ (wr.heap.push _).size; simp)
          intro v1 w1 hown hg
          have hx1 : Ex w w1 := grown_ex (hxr.alloc' _) hg (ownsRow_block hO)
          have hO1 : OwnI w1 w.heap.size v1 (L0 ++ [-v]) := hown
          have hs1 := hx1.size
          clear hg hI1 hown hO hxr hs
          go_wp2_with fail
          refine Calls.mono (H2.out w1 hx1) ?_
          rintro e w' ⟨rfl, rfl⟩
          have hI2 := intsAt_fresh w1 v 3
          go_wp2_with (at_builtin; refine wpList_append_ints rfl (.tmp 21) (.tmp 23) rfl rfl rfl (hO1.ex (Ex.alloc _ _)) hI2 ?c1 ?c2 ?_)
          case c1 => have := hlen.out; simp only [List.length_append, List.length_cons, List.length_nil]; omega
          case c2 => exact Nat.le_trans hs1 (by show _ ≤ (w1.heap.push _).size; simp)
          intro v2 w2 hown2 hg2
          have hx2 : Ex w w2 := grown_ex (hx1.alloc' _) hg2 (ownsRow_block hO1)
          have hO2 : OwnI w2 w.heap.size v2 (L0 ++ [-v, v]) := hown2
          clear hg2 hI2 hown2
          go_wp2
          go_roundw
          case rel => exact ⟨k + 1, by omega, by rw [q2.out], by rw [HL1.out, hF.out]; exact hO2, hx2⟩
          case measure => simp [intOf]; have := Hv.out; omega
        · have hF : Hid (orderTo l (k + 1) = orderTo l k ++ [-v]) := by
            show _ = _
            rw [hS, if_pos hn, if_neg hp]
            simp
          rw [hn] at H1
          rw [Bool.eq_false_iff.2 hp] at H2
          have H1' : Hid _ := H1
          clear H1 hn hp hS
          generalize hL1 : orderTo l (k + 1) = L1 at *
          have HL1 : Hid _ := hL1
          clear hL1
          generalize orderTo l k = L0 at *
          go_wp2_with fail
          refine Calls.mono H1'.out ?_
          rintro e w' ⟨rfl, rfl⟩
          have hI1 := intsAt_fresh wr (-v) 3
          go_wp2_with (at_builtin; refine wpList_append_ints rfl (.tmp 13) (.tmp 16) rfl rfl rfl (hO.ex (Ex.alloc _ _)) hI1 ?c1 ?c2 ?_)
          case c1 => have := hlen.out; simp only [List.length_cons, List.length_nil]; omega
          case c2 => exact Nat.le_trans hs (by show _ ≤ (wr.heap.push _).size; simp)
          intro v1 w1 hown hg
          have hx1 : Ex w w1 := grown_ex (hxr.alloc' _) hg (ownsRow_block hO)
          have hO1 : OwnI w1 w.heap.size v1 (L0 ++ [-v]) := hown
          have hs1 := hx1.size
          clear hg hI1 hown hO hxr hs
          go_wp2_with fail
          refine Calls.mono (H2.out w1 hx1) ?_
          rintro e w' ⟨rfl, rfl⟩
          go_wp2
          go_roundw
          case rel => exact ⟨k + 1, by omega, by rw [q2.out], by rw [HL1.out, hF.out]; exact hO1, hx1⟩
          case measure => simp [intOf]; have := Hv.out; omega
      · by_cases hp : l.contains v = true
        · have hF : Hid (orderTo l (k + 1) = orderTo l k ++ [v]) := by
            show _ = _
            rw [hS, if_neg hn, if_pos hp]
            simp
          rw [Bool.eq_false_iff.2 hn] at H1
          rw [hp] at H2
          have H1' : Hid _ := H1
          clear H1 hn hp hS
          generalize hL1 : orderTo l (k + 1) = L1 at *
          have HL1 : Hid _ := hL1
          clear hL1
          generalize orderTo l k = L0 at *
          go_wp2_with fail
          refine Calls.mono H1'.out ?_
          rintro e w' ⟨rfl, rfl⟩
          have hs1 := hs
          go_wp2_with fail
          refine Calls.mono (H2.out wr hxr) ?_
          rintro e w' ⟨rfl, rfl⟩
          have hI2 := intsAt_fresh wr v 3
          go_wp2_with (at_builtin; refine wpList_append_ints rfl (.tmp 21) (.tmp 23) rfl rfl rfl (hO.ex (Ex.alloc _ _)) hI2 ?c1 ?c2 ?_)
          case c1 => have := hlen.out; simp only [List.length_append, List.length_cons, List.length_nil]; omega
          case c2 => exact Nat.le_trans hs1 (by show _ ≤ (wr.heap.push _).size; simp)
          intro v2 w2 hown2 hg2
          have hx2 : Ex w w2 := grown_ex (hxr.alloc' _) hg2 (ownsRow_block hO)
          have hO2 : OwnI w2 w.heap.size v2 (L0 ++ [v]) := hown2
          clear hg2 hI2 hown2
          go_wp2
          go_roundw
          case rel => exact ⟨k + 1, by omega, by rw [q2.out], by rw [HL1.out, hF.out]; exact hO2, hx2⟩
          case measure => simp [intOf]; have := Hv.out; omega
        · have hF : Hid (orderTo l (k + 1) = orderTo l k) := by
            show _ = _
            rw [hS, if_neg hn, if_neg hp]
            simp
          rw [Bool.eq_false_iff.2 hn] at H1
          rw [Bool.eq_false_iff.2 hp] at H2
          have H1' : Hid _ := H1
          clear H1 hn hp hS
          generalize hL1 : orderTo l (k + 1) = L1 at *
          have HL1 : Hid _ := hL1
          clear hL1
          generalize orderTo l k = L0 at *
          go_wp2_with fail
          refine Calls.mono H1'.out ?_
          rintro e w' ⟨rfl, rfl⟩
          have hs1 := hs
          go_wp2_with fail
          refine Calls.mono (H2.out wr hxr) ?_
          rintro e w' ⟨rfl, rfl⟩
          go_wp2
          go_roundw
          case rel => exact ⟨k + 1, by omega, by rw [q2.out], by rw [HL1.out, hF.out]; exact hO, hxr⟩
          case measure => simp [intOf]; have := Hv.out; omega
    · obtain rfl : k = 128 := by omega
      go_wp2
      go_ret
      exact ⟨_, rfl, hO, hxr⟩
end Go.Proofs.Ytlaejhmpnlcceaa
