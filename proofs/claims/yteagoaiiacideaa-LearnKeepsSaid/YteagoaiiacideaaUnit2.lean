/- The program's look at a clause (open), and what follows at a level (propagate). No condition but that the theory is valid. -/
import Derived.Test.YteagoaiiacideaaUnit1
namespace Go.Proofs.Yteagoaiiacideaa
set_option linter.unusedSimpArgs false
set_option linter.unusedVariables false
open Go.RowKit
/-- What 'open' hands back. -/
def OpenRet (w : World) (o : Option Int) (e : Ending) (w' : World) : Prop := e = .returned (.tuple #[.int .i64 (o.getD 0), .bool o.isSome]) ∧ Ex w w'
set_option maxHeartbeats 4000000 in
theorem unitOpen_any (w : World) (S : Nat) (n : Int) (lv sv cv : Value) (tr : List St) (c : List Int) (hS : OwnB w S (stateV n lv sv tr) 97) (hc : IntsAt w cv c) (hl : ∀ l ∈ c, -128 ≤ l ∧ l ≤ 128 ∧ l ≠ 0) :
    Calls Try.prog 73 #[.pointer (some ⟨S, 0, none⟩), cv] w (OpenRet w (scanF tr c 0)) := by
  have hc0 := hc
  obtain ⟨a, cap, rfl, h1, h2, h3⟩ := hc
  unfold maxLen at h2
  clear h3
  have HL : Hid (∀ k, k < c.length → -128 ≤ c.getD k 0 ∧ c.getD k 0 ≤ 128 ∧ c.getD k 0 ≠ 0) := fun k hk => by rw [getD_getElem hk]; exact hl _ (List.getElem_mem hk)
  have HR : Hid (∀ k x, k < c.length → scanF tr (c.drop k) x = (see1 tr x (c.getD k 0)).bind (scanF tr (c.drop (k + 1)))) := fun k x hk => by
    rw [List.drop_eq_getElem_cons hk, getD_getElem hk]; exact scan_see tr _ _ _
  have HS : Hid (∀ (wa : World) (B1 B2 B3 : Nat) (x l : Int), Ex w wa → w.heap.size ≤ B1 → w.heap.size ≤ B2 → w.heap.size ≤ B3 → B1 ≠ B2 → B1 ≠ B3 → B2 ≠ B3 → OwnB wa B1 [.pointer (some ⟨S, 0, none⟩)] 94 → OwnB wa B2 [.int .i64 x] 3 → OwnB wa B3 [.bool true] 4 → (-128 ≤ l ∧ l ≤ 128 ∧ l ≠ 0) →
      Calls Try.prog 83 #[.int .i64 l, .pointer (some ⟨B1, 0, none⟩), .pointer (some ⟨B2, 0, none⟩), .pointer (some ⟨B3, 0, none⟩)] wa (SeeRet w S B1 B2 B3 (see1 tr x l))) := fun wa B1 B2 B3 x l q1 q2 q3 q4 q5 q6 q7 q8 q9 q10 q11 =>
    unitSee_any w wa S B1 B2 B3 n lv sv tr x l hS q1 q2 q3 q4 q5 q6 q7 q8 q9 q10 q11.1 q11.2.1 q11.2.2
  have oB1 := OwnB.new w [.pointer (some ⟨S, 0, none⟩)] 94
  have oB2 := OwnB.new (w.alloc (.cells #[.pointer (some ⟨S, 0, none⟩)] 94)) [.int .i64 0] 3
  have oB3 := OwnB.new ((w.alloc (.cells #[.pointer (some ⟨S, 0, none⟩)] 94)).alloc (.cells #[.int .i64 0] 3)) [.bool true] 4
  simp only [alloc_size] at oB2 oB3
  replace oB1 := (oB1.ex (Ex.alloc _ (.cells #[.int .i64 0] 3))).ex (Ex.alloc _ (.cells #[.bool true] 4))
  replace oB2 := oB2.ex (Ex.alloc _ (.cells #[.bool true] 4))
  have hx0 : Ex w _ := ((Ex.alloc w (.cells #[.pointer (some ⟨S, 0, none⟩)] 94)).alloc' (.cells #[.int .i64 0] 3)).alloc' (.cells #[.bool true] 4)
  clear hS hl
  go_enter Try.func73, Try.ntmps73
  go_wp2
  have b1 : w.heap.size ≤ w.heap.size := Nat.le_refl _
  have b2 : w.heap.size ≤ w.heap.size + 1 := Nat.le_succ _
  have b3 : w.heap.size ≤ w.heap.size + 1 + 1 := by omega
  have n12 : w.heap.size ≠ w.heap.size + 1 := by omega
  have n13 : w.heap.size ≠ w.heap.size + 1 + 1 := by omega
  have n23 : w.heap.size + 1 ≠ w.heap.size + 1 + 1 := by omega
  generalize ((w.alloc (.cells #[.pointer (some ⟨S, 0, none⟩)] 94)).alloc (.cells #[.int .i64 0] 3)).alloc (.cells #[.bool true] 4) = w1 at *
  generalize w.heap.size + 1 + 1 = B3 at *
  generalize w.heap.size + 1 = B2 at *
  clear b1
  go_loopw [13] (fun i wr => ∃ (k : Nat) (x : Int), k ≤ c.length ∧ i = .int .i64 k ∧ Ex w wr ∧ OwnB wr w.heap.size [.pointer (some ⟨S, 0, none⟩)] 94 ∧ OwnB wr B2 [.int .i64 x] 3 ∧ OwnB wr B3 [.bool true] 4 ∧ Hid (scanF tr c 0 = scanF tr (c.drop k) x)) (fun i _ => c.length - (intOf i).toNat)
  case atStart => exact ⟨0, 0, Nat.zero_le _, rfl, hx0, oB1, oB2, oB3, rfl⟩
  case round =>
    obtain ⟨k, x, hk, rfl, hx, g1, g2, g3, hd⟩ := hrel
    by_cases hlt : k < c.length
    · obtain ⟨_, _, hv, _, _, h3⟩ := hc0.ex hx
      cases hv
      obtain ⟨b, off, rfl, hb, hcell⟩ := h3 k hlt
      have hq := HL.out k hlt
      have hr := HR.out k x hlt
      rw [← hd.out] at hr
      have HC := HS.out wr w.heap.size B2 B3 x (c.getD k 0) hx (Nat.le_refl _) b2 b3 n12 n13 n23 g1 g2 g3 hq
      have HC' : Hid _ := HC
      clear h3 HC hd HS HR HL hq
      generalize see1 tr x (c.getD k 0) = o at *
      generalize c.getD k 0 = l at *
      cases o with
      | none =>
        have hr' : scanF tr c 0 = none := hr
        rw [hr']
        clear hr hr'
        go_wp2_with fail
        refine Calls.mono HC'.out ?_
        rintro e w2 ⟨rfl, hx2, k1, ⟨u, k2⟩, k3⟩
        have e2 := k2.cell 0
        have f2 := k2.free 0
        have z2 := k2.lt
        have k4 := k2.set 0 (.int .i64 0)
        have e4 := k4.cell 0
        have hx4 := hx2.setCell (p := ⟨B2, 0, none⟩) b2 (.int .i64 0)
        clear k3 HC' g1 g2 g3 oB1 oB2 oB3 k1 k2 k4
        go_wp2
        exact bodyPost_ret (v := .tuple #[.int .i64 0, .bool false]) (by simp [results, Try.results73, go_sem, e4]) rfl ⟨rfl, hx4⟩
      | some x2 =>
        have hr' : Hid (scanF tr c 0 = scanF tr (c.drop (k + 1)) x2) := hr
        clear hr
        go_wp2_with fail
        refine Calls.mono HC'.out ?_
        rintro e w2 ⟨rfl, hx2, k1, ⟨u, k2⟩, k3⟩
        obtain ⟨k4, k5⟩ := k3 x2 rfl
        clear k3 k2 HC' g1 g2 g3 oB1 oB2 oB3
        go_wp2
        go_roundw
        case rel => exact ⟨k + 1, x2, by omega, by go_num, hx2, k1, k4, k5, hr'⟩
        case measure => simp [intOf]; omega
    · have hend : Hid (scanF tr c 0 = some x) := by show _ = _; rw [hd.out, List.drop_eq_nil_of_le (by omega)]; rfl
      have e2 := g2.cell 0
      have e3 := g3.cell 0
      have f2 := g2.free 0
      have z2 := g2.lt
      have z3 := g3.lt
      have k4 := g2.set 0 (.int .i64 x)
      have hx4 := hx.setCell (p := ⟨B2, 0, none⟩) b2 (.int .i64 x)
      have e4 := k4.cell 0
      clear hd HS HR HL g1 oB1 oB2 oB3 k4
      go_wp2
      go_region
      go_wp2
      exact bodyPost_ret (v := .tuple #[.int .i64 x, .bool true]) (by simp [results, Try.results73, go_sem, e4]) rfl ⟨by rw [hend.out]; rfl, hx4.drew⟩
/-- What 'propagate' leaves. -/
def PropU (w0 : World) (S : Nat) (n : Int) (lv : Value) (r : List St × Int) (e : Ending) (w' : World) : Prop := e = .returned (.int .i64 r.2) ∧ Uni w0 w' S n lv r.1
set_option maxHeartbeats 4000000 in
theorem unitPropagate_any (w0 w : World) (S : Nat) (n : Int) (lv : Value) (ll : List (List Int)) (tr : List St) (lev : Int) (hR : RowsAt w0 lv ll) (ht : theoryErr n ll = 0) (hu : Uni w0 w S n lv tr) (hg : Good n tr) :
    Calls Try.prog 58 #[.pointer (some ⟨S, 0, none⟩), .int .i64 lev] w (PropU w0 S n lv (propL ll tr lev)) := by
  have HT : Hid (theoryErr n ll = 0) := ht
  have hR0 := hR
  obtain ⟨ra, rcap, rfl, r1, r2, r3⟩ := hR
  unfold maxLen at r2
  have HR : Hid (RowsAt w0 (.slice ra ll.length rcap) ll) := hR0
  have hll : ll.length ≤ 4096 := (theoryErr_zero ht).2.2.1
  clear r3 hR0 ht
  generalize hres : propL ll tr lev = res at *
  have Hres : Hid (propL ll tr lev = res) := hres
  clear hres
  go_enter Try.func58, Try.ntmps58
  go_wp2
  go_step3
  go_wp2
  go_step3
  go_wp2
  go_loopg [4] (300) (fun g r wr => ∃ t1 : List St, Uni w0 wr S n (.slice ra ll.length rcap) t1 ∧ Hid (Good n t1) ∧ Hid (propL ll t1 lev = res) ∧ 300 - t1.length ≤ g)
  case atStart => exact ⟨tr, hu, hg, Hres, by omega⟩
  case round =>
    obtain ⟨t1, hu1, hg1, hr1, hlen⟩ := hrel
    have hglen := hg1.out.length
    obtain ⟨⟨sv, hS, hown⟩, hx1, hlow⟩ := hu1
    have c1 : wr.cell? ⟨S, 1, none⟩ = some (.slice ra ll.length rcap) := hS.cell 1
    have hSlt := hS.lt
    go_wp2
    obtain ⟨wo, rfl⟩ : ∃ wo : World, wo = wr := ⟨_, rfl⟩
    have hu1 : Uni w0 wo S n (.slice ra ll.length rcap) t1 := ⟨⟨sv, hS, hown⟩, hx1, hlow⟩
    clear hS hown hx1 c1
    go_loopw [15] (fun ix wq => ∃ k : Nat, k ≤ ll.length ∧ ix = .int .i64 k ∧ Uni w0 wq S n (.slice ra ll.length rcap) t1 ∧ Hid (∀ j, j < k → liveT t1 (ll.getD j []) = false)) (fun ix _ => ll.length - (intOf ix).toNat)
    case atStart => exact ⟨0, Nat.zero_le _, rfl, hu1, fun j hj => (by omega)⟩
    case round =>
      obtain ⟨k, hk, rfl, hu2, hnl⟩ := hrel
      by_cases hlt : k < ll.length
      · obtain ⟨_, _, hv, _, _, h3⟩ := HR.out.ex hu2.ex
        cases hv
        obtain ⟨rb, roff, rv, rfl, hrb, hrc, hrr⟩ := h3 k hlt
        have hmem : ll.getD k [] ∈ ll := by rw [getD_getElem hlt]; exact List.getElem_mem hlt
        have hlv : ∀ l ∈ ll.getD k [], -128 ≤ l ∧ l ≤ 128 ∧ l ≠ 0 := fun l hl => by
          have := ((theoryErr_zero HT.out).2.2.2 _ hmem).2 l hl
          rw [litValid_iff] at this; omega
        have hz : ∀ l ∈ ll.getD k [], l ≠ 0 := fun l hl => (hlv l hl).2.2
        obtain ⟨⟨sv2, hS2, hown2⟩, hx2, _⟩ := hu2
        have HO := unitOpen_any wr S n _ sv2 rv t1 (ll.getD k []) hS2 hrr hlv
        have HO' : Hid _ := HO
        obtain ⟨ca, ccap, rfl, q1, q2, q3⟩ := hrr
        clear h3 HO q3
        have hu2 : Uni w0 wr S n (.slice (some ⟨rb, roff, none⟩) ll.length rcap) t1 := ⟨⟨sv2, hS2, hown2⟩, hx2, hlow⟩
        clear hS2 hown2 hx2 hu1
        cases hsc : scanF t1 (ll.getD k []) 0 with
        | none =>
          have hnl2 : Hid (∀ j, j < k + 1 → liveT t1 (ll.getD j []) = false) := fun j hj => by
            by_cases e : j = k
            · subst e; exact scan_none hg1.out hz hsc
            · exact hnl.out j (by omega)
          rw [hsc] at HO'
          clear hnl hsc hmem hlv hz
          generalize ll.getD k [] = row at *
          go_wp2_with fail
          refine Calls.mono HO'.out ?_
          rintro e w2 ⟨rfl, hx⟩
          have hu3 := hu2.more hx
          clear HO' hu2
          go_wp2
          go_roundw
          case rel => exact ⟨k + 1, by omega, by go_num, hu3, hnl2⟩
          case measure => simp [intOf]; omega
        | some x =>
          obtain ⟨s1, s2, s3⟩ := scan_some hg1.out hz hsc
          have hf := firstT_some hlt hnl.out s1
          rw [hsc] at HO'
          by_cases hx0 : x = 0
          · subst hx0
            have hres : Hid (res = (t1, (k : Int))) := by
              show _ = _
              rw [← hr1.out]
              exact prop_false (by omega) hf (by rw [s2]; rfl)
            clear hnl hsc hmem hlv hz s1 s2 s3 hf
            generalize ll.getD k [] = row at *
            go_wp2_with fail
            refine Calls.mono HO'.out ?_
            rintro e w2 ⟨rfl, hx⟩
            have hu3 := hu2.more hx
            clear HO' hu2
            go_wp2
            rw [Exit.noGoto_ret]
            go_ret
            obtain rfl : res = (t1, (k : Int)) := hres.out
            exact ⟨rfl, hu3⟩
          · have hxb : (x == 0) = false := by simp [hx0]
            have hff : falseT t1 (ll.getD k []) = false := by rw [s2]; simp [hx0]
            have hst := prop_step (lev := lev) (by omega) hf hff
            obtain ⟨g1, g2, g3⟩ := hg1.out.step HT.out (why := (k : Int)) (lev := lev) hf hff
            rw [s3] at hst g1 g3
            have hxl := hlv x g3
            have hr2 : Hid (propL ll (t1 ++ [⟨x, (k : Int), lev⟩]) lev = res) := by show _ = _; rw [← hst]; exact hr1.out
            have hg2 : Hid (Good n (t1 ++ [⟨x, (k : Int), lev⟩])) := g1
            have HA : Hid (∀ wa, Uni w0 wa S n (.slice (some ⟨rb, roff, none⟩) ll.length rcap) t1 → Calls Try.prog 60 #[.pointer (some ⟨S, 0, none⟩), .agg #[.int .i64 x, .int .i64 k, .int .i64 lev]] wa fun e w' => e = .returned (.tuple #[]) ∧ Uni w0 w' S n (.slice (some ⟨rb, roff, none⟩) ll.length rcap) (t1 ++ [⟨x, (k : Int), lev⟩])) := fun wa h =>
              unitAdd_any w0 wa S n _ t1 ⟨x, (k : Int), lev⟩ h hxl.1 hxl.2.1 hxl.2.2 (by omega)
            clear hnl hsc hmem hlv hz s1 s2 s3 hf hff hst g1 g2 g3 hxl hx0
            generalize ll.getD k [] = row at *
            go_wp2_with fail
            refine Calls.mono HO'.out ?_
            rintro e w2 ⟨rfl, hx⟩
            have hu3 := hu2.more hx
            clear HO' hu2
            go_wp2_with fail
            refine (HA.out _ hu3).mono ?_
            rintro e w3 ⟨rfl, hu4⟩
            have hlen2 : 300 - (t1 ++ [(⟨x, (k : Int), lev⟩ : St)]).length < 300 - t1.length := by rw [List.length_append]; simp only [List.length_cons, List.length_nil]; omega
            generalize t1 ++ [(⟨x, (k : Int), lev⟩ : St)] = t2 at *
            clear HA hu3
            go_wp2
            go_roundg (300 - t2.length)
            case measure => omega
            case rel => exact ⟨t2, hu4, hg2, hr2, Nat.le_refl _⟩
      · have hres : Hid (res = (t1, -1)) := by
          show _ = _
          rw [← hr1.out]
          exact prop_none (firstT_none fun j hj => hnl.out j (by omega))
        clear hnl
        go_wp2
        rw [Exit.noGoto_ret]
        go_ret
        obtain rfl : res = (t1, -1) := hres.out
        exact ⟨rfl, hu2⟩
end Go.Proofs.Yteagoaiiacideaa
