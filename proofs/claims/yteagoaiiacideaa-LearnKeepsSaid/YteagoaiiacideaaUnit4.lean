/- unit.Closure and the reference's: the closure of a term. No condition. -/
import Derived.Test.YteagoaiiacideaaUnit3
import Derived.Test.YteagoaiiacideaaRef12b
import Derived.Test.YteagoaiiacideaaG5
import Derived.Test.YteagoaiiacideaaG4
namespace Go.Proofs.Yteagoaiiacideaa
set_option linter.unusedSimpArgs false
set_option linter.unusedVariables false
open Go.RowKit
theorem clos_term {n : Int} {tr : List St} (hg : Good n tr) : termB (tr.map St.lit) n = true ∧ termL (tr.map St.lit) n = orderL (tr.map St.lit) := by
  have hv : (tr.map St.lit).all (litValid · n) = true := List.all_eq_true.2 fun x hx => by
    obtain ⟨s, hs, rfl⟩ := List.mem_map.1 hx
    exact hg.val s hs
  have ho : oppB (orderL (tr.map St.lit)) = false := by
    rw [opp_order (valid_vars hv), List.any_eq_false]
    intro x hx h
    rw [List.contains_iff_mem] at h
    obtain ⟨s, hs, rfl⟩ := List.mem_map.1 hx
    obtain ⟨t, ht, e⟩ := List.mem_map.1 h
    have := hg.con s.lit (trueT_iff.2 ⟨s, hs, rfl⟩)
    rw [trueT_iff.2 ⟨t, ht, e⟩] at this; cases this
  unfold termB termL
  rw [hv, ho]
  exact ⟨rfl, rfl⟩
theorem trail_good {n : Int} {ll : List (List Int)} {ds : List Int} : Good n (trailL n ll ds) := by
  by_cases h : trailE n ll ds = 0
  · obtain ⟨ha, ho⟩ := trailE_zero h
    obtain ⟨ht, hv⟩ := askB_iff.1 ha
    obtain ⟨i, _, q, _⟩ := (trail_ind ht hv (P := fun _ _ => True) trivial (fun _ _ _ _ _ _ _ _ => trivial) (fun _ _ _ _ _ _ => trivial) (fun _ _ _ _ _ _ => trivial)).1 _ ho
    exact q
  · rw [(trail_bad h).1]; exact Good.nil n
theorem map_take_succ {tr : List St} {k : Nat} (h : k < tr.length) : (tr.map St.lit).take k ++ [(tr.getD k default).lit] = (tr.map St.lit).take (k + 1) := by
  rw [List.take_succ_eq_append_getElem (by simpa using h), List.getElem_map, getD_getElem h]
set_option maxRecDepth 100000 in
set_option maxHeartbeats 4000000 in
theorem unitClosure_any (n : Int) (lv av : Value) (ll : List (List Int)) (ds : List Int) (w : World) (hR : RowsAt w lv ll) (hl : IntsAt w av ds) :
    Calls Try.prog 50 #[.agg #[.int .i64 n, lv], av] w (TermRet w (closL n ll ds) (closB n ll ds)) := by
  have HTr : Hid (∀ wa, Ex w wa → Calls Try.prog 31 #[.agg #[.int .i64 n, lv], av] wa (TrailRet 55 wa (trailL n ll ds) (trailC n ll ds) (trailE n ll ds))) := fun wa hx => unitTrail_any n lv av ll ds wa (hR.ex hx) (hl.ex hx)
  have hgood : Hid (Good n (trailL n ll ds)) := trail_good
  have HE : Hid (closB n ll ds = (decide (trailE n ll ds = 0) && decide (trailC n ll ds < 0)) ∧ closL n ll ds = if closB n ll ds then orderL ((trailL n ll ds).map St.lit) else []) := ⟨rfl, rfl⟩
  obtain ⟨ra, rcap, rfl, _, _, r3⟩ := hR
  obtain ⟨a, cap, rfl, _, _, h3⟩ := hl
  clear r3 h3
  generalize closB n ll ds = CB at *
  generalize closL n ll ds = CL at *
  generalize trailE n ll ds = TE at *
  generalize trailC n ll ds = TC at *
  generalize trailL n ll ds = tr at *
  have hbox := OwnB.new w [.int .i64 n, .slice ra ll.length rcap] 24
  have hxa := Ex.alloc w (.cells #[.int .i64 n, .slice ra ll.length rcap] 24)
  by_cases he : TE = 0
  rotate_left
  · have hb : CB = false := by rw [HE.out.1]; simp [he]
    have hL : CL = [] := by rw [HE.out.2, hb]; rfl
    have heb : (TE != 0) = true := by simp [he]
    subst hb hL
    clear HE he hgood hbox
    go_enter Try.func50, Try.ntmps50
    go_wp2_with fail
    refine (HTr.out _ hxa).mono ?_
    rintro e w2 ⟨sv, rfl, ho, hx2⟩
    go_wp2
    go_ret2
    exact ⟨_, rfl, OwnI.nil _ _, hxa.trans hx2⟩
  subst he
  by_cases hc : TC < 0
  rotate_left
  · have hb : CB = false := by rw [HE.out.1]; simp; omega
    have hL : CL = [] := by rw [HE.out.2, hb]; rfl
    subst hb hL
    clear HE hgood hbox
    go_enter Try.func50, Try.ntmps50
    go_wp2_with fail
    refine (HTr.out _ hxa).mono ?_
    rintro e w2 ⟨sv, rfl, ho, hx2⟩
    go_wp2
    go_ret2
    exact ⟨_, rfl, OwnI.nil _ _, hxa.trans hx2⟩
  have hb : CB = true := by rw [HE.out.1]; simp [hc]
  have hL : CL = orderL (tr.map St.lit) := by rw [HE.out.2, hb]; rfl
  subst hb hL
  have hgl := hgood.out.length
  have HTe : Hid (∀ wa lv, IntsAt wa lv (tr.map St.lit) → Calls Try.prog 67 #[lv, .int .i64 n] wa (TermRet wa (orderL (tr.map St.lit)) true)) := fun wa lv h => by
    have := litTerm_any lv (tr.map St.lit) n wa h (by rw [List.length_map]; omega)
    rwa [(clos_term hgood.out).1, (clos_term hgood.out).2] at this
  clear HE hgood
  go_enter Try.func50, Try.ntmps50
  go_wp2_with fail
  refine (HTr.out _ hxa).mono ?_
  rintro e w2 ⟨sv, rfl, ho, hx2⟩
  have hst := ho.steps
  obtain ⟨pa, pc, rfl, _, _, _⟩ := hst
  have hst := ho.steps
  have hxw := hxa.trans hx2
  have hbox2 := hbox.ex hx2
  clear ho HTr hbox hxa hx2
  have hw0 : w.heap.size ≤ w2.heap.size := hxw.size
  have zB0 := hbox2.lt
  generalize w.heap.size = B at *
  generalize orderL (tr.map St.lit) = OL at *
  go_wp2
  go_loopw [9, 27] (fun out i wr => ∃ k : Nat, k ≤ tr.length ∧ i = .int .i64 k ∧ OwnI wr w2.heap.size out ((tr.map St.lit).take k) ∧ Ex w2 wr) (fun _ i _ => tr.length - (intOf i).toNat)
  case atStart => exact ⟨0, Nat.zero_le _, rfl, OwnI.nil _ _, Ex.refl _⟩
  case round =>
    obtain ⟨k, hk, rfl, hO, hxr⟩ := hrel
    by_cases hlt : k < tr.length
    · obtain ⟨_, _, hv, _, _, h3⟩ := hst.ex hxr
      cases hv
      obtain ⟨b, off, rfl, hb, c0, c1, c2⟩ := h3 k hlt
      clear h3
      have hS : Hid ((tr.map St.lit).take k ++ [(tr.getD k default).lit] = (tr.map St.lit).take (k + 1)) := map_take_succ hlt
      have hlen : Hid (((tr.map St.lit).take k).length ≤ k) := List.length_take_le _ _
      obtain ⟨F', hF'⟩ : ∃ F', F' = (tr.map St.lit).take (k + 1) := ⟨_, rfl⟩
      rw [← hF'] at hS
      have HF' : Hid _ := hF'
      clear hF'
      generalize (tr.map St.lit).take k = F at *
      generalize (tr.getD k default).lit = x0 at *
      generalize (tr.getD k default).why = x1 at *
      generalize (tr.getD k default).lev = x2 at *
      have hsz := hxr.size
      have hxs := Ex.alloc wr (.cells #[.int .i64 x0, .int .i64 x1, .int .i64 x2] 55)
      have hI1 := intsAt_fresh (wr.alloc (.cells #[.int .i64 x0, .int .i64 x1, .int .i64 x2] 55)) x0 3
      rw [alloc_size] at hI1
      go_wp2_with (at_builtin; refine wpList_append_ints rfl (.tmp 31) (.tmp 34) rfl rfl rfl ((hO.ex hxs).ex (Ex.alloc _ _)) hI1 ?c1 ?c2 ?_)
      case c1 => have := hlen.out; simp only [List.length_cons, List.length_nil]; omega
      case c2 => rw [alloc_size, alloc_size]; omega
      intro v5 w5 hown hg
      have hx5 : Ex w2 w5 := grown_ex ((hxr.trans hxs).alloc' _) hg (ownsRow_block hO)
      rw [hS.out] at hown
      have hown2 : OwnI w5 w2.heap.size v5 F' := hown
      clear hg hown hO hxs hI1 c0 c1 c2
      go_wp2
      go_roundw
      case rel => exact ⟨k + 1, by omega, by go_num, by rw [← HF'.out]; exact hown2, hx5⟩
      case measure => simp [intOf]; omega
    · obtain rfl : k = tr.length := by omega
      rw [List.take_of_length_le (by simp)] at hO
      have hI := hO.ints
      obtain ⟨qa, qc, rfl, _, _, _⟩ := hI
      have hI := hO.ints
      have HTf := HTe.out wr _ hI
      have HTf' : Hid _ := HTf
      have c0 := (hbox2.ex hxr).cell 0
      have zB := (hbox2.ex hxr).lt
      have hxx := hxw.trans hxr
      clear hO hI HTf HTe hst
      generalize (tr.map St.lit).length = LL at *
      go_wp2_with fail
      refine Calls.mono HTf'.out ?_
      rintro e w6 ⟨v6, rfl, ho6, hx6⟩
      go_wp2
      go_ret2
      exact ⟨_, rfl, ho6.base hxx.size, hxx.trans hx6⟩
end Go.Proofs.Yteagoaiiacideaa
