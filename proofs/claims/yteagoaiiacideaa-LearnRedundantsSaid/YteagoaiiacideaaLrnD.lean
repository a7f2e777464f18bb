/- The reference of learning: Conflicts and Implied. No condition but that the theory is valid and the clause short. -/
import Derived.Test.YteagoaiiacideaaLrnB
import Derived.Test.YteagoaiiacideaaG2
namespace Go.Proofs.Yteagoaiiacideaa
set_option linter.unusedSimpArgs false
set_option linter.unusedVariables false
open Go.RowKit
set_option maxRecDepth 20000
theorem nodup_valid_len {n : Int} {f : List Int} (nd : f.Nodup) (hv : ∀ x ∈ f, litValid x n = true) : f.length ≤ 256 := by
  have := len_le_of_sub f ((List.range 128).flatMap fun k : Nat => [(k : Int) + 1, -((k : Int) + 1)]) nd fun x hx => by
    have hi := (litValid_iff _ _).1 (hv x hx)
    rw [List.mem_flatMap]
    by_cases hp : 0 < x
    · exact ⟨x.toNat - 1, List.mem_range.2 (by omega), List.mem_cons.2 (.inl (by omega))⟩
    · exact ⟨(-x).toNat - 1, List.mem_range.2 (by omega), List.mem_cons.2 (.inr (List.mem_singleton.2 (by omega)))⟩
  exact Nat.le_trans this (by decide)
/-- What the reference's list is: the term and further literals, each once. -/
structure Grown (n : Int) (ll : List (List Int)) (term is : List Int) : Prop where
  on : OnConf n ll term is
  ext : ∃ e, is = term ++ e ∧ e.Nodup ∧ ∀ x ∈ e, litValid x n = true
theorem termB_con {l : List Int} {n : Int} (h : termB l n = true) : (∀ x ∈ l, litValid x n = true) ∧ ∀ x ∈ l, -x ∉ l := by
  rw [termB_eq, List.all_eq_true] at h
  refine ⟨fun x hx => ?_, fun x hx hn => ?_⟩
  · have := h x hx; rw [Bool.and_eq_true] at this; exact this.1
  · have := h x hx
    rw [Bool.and_eq_true, Bool.not_eq_true', ← Bool.not_eq_true, List.contains_iff_mem] at this
    exact this.2 hn
theorem grown_start {n : Int} {ll : List (List Int)} {term : List Int} (h : termB term n = true) : Grown n ll term term := by
  obtain ⟨h1, h2⟩ := termB_con h
  exact ⟨⟨h1, h2, fun x hx => hx, fun S hS x hx => hS.has x hx⟩, [], by simp, by simp, fun x hx => by cases hx⟩
theorem Grown.term {n : Int} {ll : List (List Int)} {term is : List Int} (h : Grown n ll term is) : termB is n = true := by
  rw [termB_eq, List.all_eq_true]
  intro x hx
  rw [Bool.and_eq_true, Bool.not_eq_true', ← Bool.not_eq_true, List.contains_iff_mem]
  exact ⟨h.on.val x hx, h.on.con x hx⟩
theorem Grown.len {n : Int} {ll : List (List Int)} {term is : List Int} (h : Grown n ll term is) : is.length ≤ term.length + 256 := by
  obtain ⟨e, h1, h2, h3⟩ := h.ext
  have := nodup_valid_len h2 h3
  rw [h1, List.length_append]; omega
theorem Grown.more {n : Int} {ll : List (List Int)} {term is : List Int} (h : Grown n ll term is) (ht : theoryErr n ll = 0) (hm : moreF is ll 0 ≠ 0) : Grown n ll term (is ++ [moreF is ll 0]) := by
  obtain ⟨h1, h2, h3⟩ := onconf_add ht h.on hm
  obtain ⟨e, e1, e2, e3⟩ := h.ext
  refine ⟨h1, e ++ [moreF is ll 0], by rw [e1, List.append_assoc], ?_, fun x hx => ?_⟩
  · refine List.nodup_append.2 ⟨e2, by simp, fun a ha b hb g => ?_⟩
    rw [List.mem_singleton] at hb
    subst hb; subst g
    refine h2 ?_
    have : moreF is ll 0 ∈ term ++ e := List.mem_append_right _ ha
    rwa [← e1] at this
  · rcases List.mem_append.1 hx with hx | hx
    · exact e3 x hx
    · rw [List.mem_singleton.1 hx]; exact h3
theorem Grown.yes {n : Int} {ll : List (List Int)} {term is : List Int} (h : Grown n ll term is) (ht : theoryErr n ll = 0) (hm : moreF is ll 0 = 0) (he : ∀ j, j < ll.length → conE is (ll.getD j []) = false) : closB n ll term = true :=
  clos_of_fits (askB_iff.2 ⟨ht, fun d hd => h.on.val d (h.on.has d hd)⟩) (onconf_yes ht h.on hm fun c hc => by
    obtain ⟨j, hj, rfl⟩ := List.getElem_of_mem hc
    have := he j hj
    rwa [getD_getElem hj] at this)
theorem Grown.no {n : Int} {ll : List (List Int)} {term is : List Int} (h : Grown n ll term is) {j : Nat} (hj : j < ll.length) (he : conE is (ll.getD j []) = true) : closB n ll term = false := by
  cases hb : closB n ll term with
  | false => rfl
  | true => exact absurd (clos_member hb) (onconf_no h.on (by rw [getD_getElem hj]; exact List.getElem_mem hj) he _)
theorem opensL_take {is c : List Int} {k : Nat} (hk : k < c.length) : opensL is (c.take (k + 1)) = if is.contains (-(c.getD k 0)) = true then opensL is (c.take k) else addL (opensL is (c.take k)) (c.getD k 0) := by
  unfold opensL
  rw [List.take_succ_eq_append_getElem hk, List.filter_append, getD_getElem hk]
  by_cases h : is.contains (-c[k]) = true
  · rw [if_pos h]; simp only [List.filter_cons, h, List.filter_nil]; simp
  · rw [if_neg h]
    rw [Bool.not_eq_true] at h
    simp only [List.filter_cons, h, List.filter_nil, Bool.not_false, if_true]
    exact addsL_snoc _ _ _
theorem any_take {is c : List Int} {k : Nat} (hk : k < c.length) : (c.take (k + 1)).any (is.contains ·) = ((c.take k).any (is.contains ·) || is.contains (c.getD k 0)) := by
  rw [List.take_succ_eq_append_getElem hk, List.any_append, getD_getElem hk]; simp
theorem moreF_take {is : List Int} {ll : List (List Int)} {i : Nat} (hi : i < ll.length) : moreF is (ll.take (i + 1)) 0 = if conU is (ll.getD i []) = true then (opensL is (ll.getD i [])).headD 0 else moreF is (ll.take i) 0 := by
  rw [List.take_succ_eq_append_getElem hi, moreF_append, getD_getElem hi]
theorem opensL_len (is c : List Int) : (opensL is c).length ≤ c.length := by
  unfold opensL
  have := addsL_len (c.filter fun x => !is.contains (-x)) []
  have := List.length_filter_le (fun x => !is.contains (-x)) c
  simp only [List.length_nil] at *
  omega
theorem opensL_in {is c : List Int} {x : Int} (h : x ∈ opensL is c) : x ∈ c := (opensL_mem.1 h).1
def lenV13 : Value → Nat | .slice _ n _ => n | _ => 0
set_option maxRecDepth 100000 in
set_option maxHeartbeats 8000000 in
theorem r13Conflicts_any (n : Int) (lv av : Value) (ll : List (List Int)) (term : List Int) (w : World) (hR : RowsAt w lv ll) (hl : IntsAt w av term) (ht : theoryErr n ll = 0) (htm : termB term n = true) (hlen : term.length ≤ 1000) :
    Calls Try.prog 52 #[.agg #[.int .i64 n, lv], av] w fun e w' => e = .returned (.bool (!closB n ll term)) ∧ Ex w w' := by
  have hn := theoryErr_zero ht
  have HCo : Hid (∀ wa u (m : List Int) (x : Int), IntsAt wa u m → Calls Try.prog 48 #[u, .int .i64 x] wa fun e w' => e = .returned (.bool (m.contains x)) ∧ wa = w') := fun wa u m x h => r05Contains_any u m x wa h
  have HAd : Hid (∀ wa base u (m : List Int) (x : Int), OwnI wa base u m → base ≤ wa.heap.size → m.length ≤ 1000 → Calls Try.prog 39 #[u, .int .i64 x] wa (AddRet wa base u m x)) := fun wa base u m x h hb hm => r13add_any base u m x wa h hb (by omega)
  have HTe : Hid (∀ wa u (m : List Int), IntsAt wa u m → Calls Try.prog 51 #[u, .int .i64 n] wa fun e w' => e = .returned (.bool (termB m n)) ∧ wa = w') := fun wa u m h => r05Term_any u m n hn.1 hn.2.1 wa h
  have hR0 := hR
  have hl0 := hl
  obtain ⟨ra, rcap, rfl, r1, r2, r3⟩ := hR
  obtain ⟨pa, pcap, rfl, p1, p2, p3⟩ := hl
  unfold maxLen at r2 p2
  have HRo : Hid (∀ q, q < ll.length → ∃ b off rv, ra = some ⟨b, off, none⟩ ∧ b < w.heap.size ∧ w.cell? ⟨b, off + q, none⟩ = some rv ∧ IntsAt w rv (ll.getD q []) ∧ (ll.getD q []).length ≤ 128 ∧ ∀ k, k < (ll.getD q []).length → -1000 ≤ (ll.getD q []).getD k 0 ∧ (ll.getD q []).getD k 0 ≤ 1000) := fun q hq => by
    obtain ⟨b, off, rv, e2, hb, hc, hi⟩ := r3 q hq
    refine ⟨b, off, rv, e2, hb, hc, hi, (hn.2.2.2 _ (by rw [getD_getElem hq]; exact List.getElem_mem hq)).1, fun k hk => ?_⟩
    have := (litValid_iff _ _).1 (theory_lit ht hq hk)
    omega
  clear r3 p3
  have oT := OwnB.new w [.int .i64 n, .slice ra ll.length rcap] 24
  have hxa := Ex.alloc w (.cells #[.int .i64 n, .slice ra ll.length rcap] 24)
  have HT : Hid (theoryErr n ll = 0) := ht
  have HG0 : Hid (Grown n ll term term) := grown_start htm
  clear ht htm hn
  obtain ⟨CB, hCB⟩ : ∃ CB, CB = closB n ll term := ⟨_, rfl⟩
  have HCB : Hid _ := hCB
  rw [← hCB]
  clear hCB
  have hI0 := (hl0.ex hxa).ex (Ex.alloc _ (.cells #[] 3))
  go_enter Try.func52, Try.ntmps52
  go_wp2_with (at_builtin; refine wpList_append_ints rfl (.tmp 12) (.tmp 13) rfl rfl rfl (OwnI.empty' (base := w.heap.size + 1) (by rw [alloc_size]) (Nat.le_refl _)) hI0 ?c1 ?c2 ?_)
  case c1 => simp only [List.length_nil]; omega
  case c2 => rw [alloc_size, alloc_size]; omega
  intro v4 w4 hown hg
  have hx4 : Ex (w.alloc (.cells #[.int .i64 n, .slice ra ll.length rcap] 24)) w4 := grown_ex ((Ex.refl _).alloc' (.cells #[] 3)) hg (by intro k hk; simp [Value.ownBlock] at hk; rw [alloc_size]; omega)
  have oT4 := oT.ex hx4
  have hxw := hxa.trans hx4
  have hown4 : OwnI w4 (w.heap.size + 1) v4 term := hown
  clear hown hg hI0 hl0 oT hxa hx4
  go_wp2
  go_loopw [5] (fun iv wr => ∃ is : List Int, OwnI wr (w.heap.size + 1) iv is ∧ Hid (Grown n ll term is) ∧ Ex w wr ∧ OwnB wr w.heap.size [.int .i64 n, .slice ra ll.length rcap] 24) (fun iv _ => 1400 - lenV13 iv)
  case atStart => exact ⟨term, hown4, HG0, hxw, oT4⟩
  case round =>
    clear hown4 HG0 hxw oT4
    obtain ⟨is, hO, HG, hxr, oTr⟩ := hrel
    have hil := HG.out.len
    have hbr : w.heap.size + 1 ≤ wr.heap.size := oTr.lt
    obtain ⟨ia, icap, rfl, i1, i2, _⟩ := hO.ints
    unfold maxLen at i2
    generalize hwo : wr = wo at *
    clear hwo
    go_wp2
    go_loopw [6, 7] (fun mv jv wr => ∃ (i : Nat) (m : Int), i ≤ ll.length ∧ jv = .int .i64 i ∧ mv = .int .i64 m ∧ Hid (m = moreF is (ll.take i) 0) ∧ Ex wo wr ∧ Hid (∀ j, j < i → conE is (ll.getD j []) = false)) (fun _ jv _ => ll.length - (intOf jv).toNat)
    case atStart => exact ⟨0, 0, Nat.zero_le _, rfl, rfl, rfl, Ex.refl _, fun j hj => by omega⟩
    case round =>
      obtain ⟨i, m, hi, rfl, rfl, hm, hxq, HE⟩ := hrel
      have oTq := oTr.ex hxq
      have c0 := oTq.cell 0
      have c1 := oTq.cell 1
      have z0 := oTq.lt
      have hOq := hO.ex hxq
      have hxw2 := hxr.trans hxq
      by_cases hlt : i < ll.length
      · obtain ⟨b, off, rv, rfl, hb, hc, hri, hcl, hlit⟩ := HRo.out i hlt
        have HLt : Hid (∀ k, k < (ll.getD i []).length → -1000 ≤ (ll.getD i []).getD k 0 ∧ (ll.getD i []).getD k 0 ≤ 1000) := hlit
        have HEi : Hid (conE is (ll.getD i []) = false → ∀ j, j < i + 1 → conE is (ll.getD j []) = false) := fun h j hj => by
          by_cases e : j = i
          · subst e; exact h
          · exact HE.out j (by omega)
        have HEn : Hid (conE is (ll.getD i []) = true → CB = false) := fun h => by rw [HCB.out]; exact HG.out.no hlt h
        have HMi : Hid (moreF is (ll.take (i + 1)) 0 = if conU is (ll.getD i []) = true then (opensL is (ll.getD i [])).headD 0 else m) := by show _ = _; rw [moreF_take hlt, hm.out]
        clear HRo hlit HCB HG HE hm HTe
        generalize ll.getD i [] = c at *
        have hri2 := hri.ex hxw2
        have hcw := ex_cell hc hxw2
        have hbw := Nat.lt_of_lt_of_le hb hxw2.size
        clear hri hc hb
        obtain ⟨ca, ccap, rfl, c11, c12, _⟩ := id hri2
        unfold maxLen at c12
        have hIq := hOq.ints
        generalize hwq : wr = wq at *
        clear hwq
        go_wp2
        go_loopw [8, 9, 10] (fun ov hv kv wr => ∃ (k : Nat) (O : List Int) (z : Bool), k ≤ c.length ∧ kv = .int .i64 k ∧ hv = .bool z ∧ OwnI wr wq.heap.size ov O ∧ Ex wq wr ∧ Hid (O = opensL is (c.take k)) ∧ Hid (z = (c.take k).any (is.contains ·))) (fun _ _ kv _ => c.length - (intOf kv).toNat)
        case atStart => exact ⟨0, [], false, Nat.zero_le _, rfl, rfl, OwnI.nil _ _, Ex.refl _, rfl, rfl⟩
        case round =>
          obtain ⟨k, O, z, hk, rfl, rfl, hOo, hxs, HO, HZ⟩ := hrel
          have oTs := oTq.ex hxs
          have d0 := oTs.cell 0
          have d1 := oTs.cell 1
          have y0 := oTs.lt
          have hcs := ex_cell hcw hxs
          have hbs := Nat.lt_of_lt_of_le hbw hxs.size
          have hIs := hIq.ex hxs
          have hls : wq.heap.size ≤ wr.heap.size := hxs.size
          obtain ⟨oa, ocap, rfl, o1, o2, _⟩ := hOo.ints
          unfold maxLen at o2
          by_cases hkt : k < c.length
          · obtain ⟨_, _, ev, _, _, c3⟩ := hri2.ex hxs
            cases ev
            obtain ⟨cb, coff, rfl, hcb, hcell⟩ := c3 k hkt
            have hol : O.length ≤ 128 := by rw [HO.out]; have := opensL_len is (c.take k); rw [List.length_take] at this; omega
            obtain ⟨y1, y2⟩ := HLt.out k hkt
            have hO2 := opensL_take (is := is) hkt
            rw [← HO.out] at hO2
            have hZ2 := any_take (is := is) hkt
            rw [← HZ.out] at hZ2
            have HC1 := HCo.out wr _ is (c.getD k 0) hIs
            have HC2 := HCo.out wr _ is (-(c.getD k 0)) hIs
            have HA1 : Hid _ := HAd.out wr wq.heap.size _ O (c.getD k 0) hOo hls (by omega)
            have hwy : IntKind.i64.wrap (-(c.getD k 0)) = -(c.getD k 0) := IntWalk.i64_in _ (by omega)
            clear c3 HLt HEi HEn HMi HCo HAd HO HZ hO hOq hIq hri2
            generalize c.getD k 0 = y at *
            generalize is.contains y = C1 at *
            generalize is.contains (-y) = C2 at *
            have HC1' : Hid _ := HC1
            have HC2' : Hid _ := HC2
            have HZ2 : Hid _ := hZ2
            clear HC1 HC2 hZ2
            have hxs0 : Ex wq wr := hxs
            cases z with
            | true =>
              have HZ3 : Hid (true = (c.take (k + 1)).any (is.contains ·)) := by show _ = _; rw [HZ2.out]; rfl
              cases C2 with
              | true =>
                have HO3 : Hid (O = opensL is (c.take (k + 1))) := by show _ = _; rw [hO2]; rfl
                clear hO2 HZ2
                go_wp2_with fail
                refine Calls.mono HC2'.out ?_
                rintro e w5 ⟨rfl, rfl⟩
                go_wp2
                go_roundw
                case rel => exact ⟨k + 1, O, true, by omega, by go_num, rfl, hOo, hxs, HO3, HZ3⟩
                case measure => simp [intOf]; omega
              | false =>
                have HO3 : Hid (addL O y = opensL is (c.take (k + 1))) := by show _ = _; rw [hO2]; rfl
                clear hO2 HZ2
                go_wp2_with fail
                refine Calls.mono HC2'.out ?_
                rintro e w5 ⟨rfl, rfl⟩
                go_wp2_with fail
                refine Calls.mono HA1.out ?_
                rintro e w6 ⟨v6, rfl, ho6, hg6⟩
                have hx6 : Ex wq w6 := grown_ex hxs hg6 (ownsRow_block hOo)
                go_wp2
                go_roundw
                case rel => exact ⟨k + 1, addL O y, true, by omega, by go_num, rfl, ho6, hx6, HO3, HZ3⟩
                case measure => simp [intOf]; omega
            | false =>
              have HZ3 : Hid (C1 = (c.take (k + 1)).any (is.contains ·)) := by show _ = _; rw [HZ2.out]; rfl
              cases C2 with
              | true =>
                have HO3 : Hid (O = opensL is (c.take (k + 1))) := by show _ = _; rw [hO2]; rfl
                clear hO2 HZ2
                go_wp2_with fail
                refine Calls.mono HC1'.out ?_
                rintro e w5 ⟨rfl, rfl⟩
                go_wp2_with fail
                refine Calls.mono HC2'.out ?_
                rintro e w5 ⟨rfl, rfl⟩
                go_wp2
                go_roundw
                case rel => exact ⟨k + 1, O, C1, by omega, by go_num, rfl, hOo, hxs, HO3, HZ3⟩
                case measure => simp [intOf]; omega
              | false =>
                have HO3 : Hid (addL O y = opensL is (c.take (k + 1))) := by show _ = _; rw [hO2]; rfl
                clear hO2 HZ2
                go_wp2_with fail
                refine Calls.mono HC1'.out ?_
                rintro e w5 ⟨rfl, rfl⟩
                go_wp2_with fail
                refine Calls.mono HC2'.out ?_
                rintro e w5 ⟨rfl, rfl⟩
                go_wp2_with fail
                refine Calls.mono HA1.out ?_
                rintro e w6 ⟨v6, rfl, ho6, hg6⟩
                have hx6 : Ex wq w6 := grown_ex hxs hg6 (ownsRow_block hOo)
                go_wp2
                go_roundw
                case rel => exact ⟨k + 1, addL O y, C1, by omega, by go_num, rfl, ho6, hx6, HO3, HZ3⟩
                case measure => simp [intOf]; omega
          · obtain rfl : k = c.length := by omega
            have HO2 : Hid (O = opensL is c) := by show _ = _; rw [HO.out, List.take_length]
            have HZ2 : Hid (z = c.any (is.contains ·)) := by show _ = _; rw [HZ.out, List.take_length]
            have hE : conE is c = (O.length == 0) := by rw [HO2.out]; rfl
            have hU : conU is c = (!z && O.length == 1) := by rw [HO2.out, HZ2.out]; rfl
            rw [hE] at HEi HEn
            rw [hU, ← HO2.out] at HMi
            have hx3 := hxq.trans hxs
            clear HO HZ HO2 HZ2 hE hU HLt HCo HAd hO hOq hIq hri2
            by_cases ho0 : O.length = 0
            · have hcb : Hid (CB = false) := HEn.out (by simp [ho0])
              have hl0 : ((O.length : Nat) : Int) = 0 := by omega
              clear HEi HEn HMi
              go_wp2
              go_ret
              exact ⟨ret_bool (by rw [hcb.out]; rfl), hxw2.trans hxs⟩
            have HE2 : Hid _ := HEi.out (by simp [ho0])
            clear HEi HEn
            cases z with
            | true =>
              have HM2 : Hid (m = moreF is (ll.take (i + 1)) 0) := by show _ = _; rw [HMi.out]; rfl
              clear HMi
              go_wp2
              go_roundw
              case rel => exact ⟨i + 1, m, by omega, by go_num, rfl, HM2, hx3, HE2⟩
              case measure => simp [intOf]; omega
            | false =>
              by_cases ho1 : O.length = 1
              · obtain ⟨_, _, ev, _, _, c3⟩ := hOo.ints
                cases ev
                obtain ⟨cb, coff, rfl, hcb, hcell⟩ := c3 0 (by omega)
                rw [Nat.add_zero] at hcell
                have HM2 : Hid (O.getD 0 0 = moreF is (ll.take (i + 1)) 0) := by
                  show _ = _
                  rw [HMi.out, ho1]
                  show O.getD 0 0 = O.headD 0
                  cases O <;> rfl
                clear HMi c3 hOo
                generalize O.getD 0 0 = y at *
                go_wp2
                go_roundw
                case rel => exact ⟨i + 1, y, by omega, by go_num, rfl, HM2, hx3, HE2⟩
                case measure => simp [intOf]; omega
              · have HM2 : Hid (m = moreF is (ll.take (i + 1)) 0) := by
                  show _ = _
                  have hb1 : (O.length == 1) = false := by simp [ho1]
                  rw [HMi.out, hb1]; rfl
                clear HMi
                go_wp2
                go_roundw
                case rel => exact ⟨i + 1, m, by omega, by go_num, rfl, HM2, hx3, HE2⟩
                case measure => simp [intOf]; omega
      · obtain rfl : i = ll.length := by omega
        have hm2 : Hid (m = moreF is ll 0) := by show _ = _; rw [hm.out, List.take_length]
        clear hm HRo
        by_cases hz : m = 0
        · have hcb : Hid (CB = true) := by show _ = _; rw [HCB.out]; exact HG.out.yes HT.out (by rw [← hm2.out]; exact hz) HE.out
          have HT2 := HTe.out wr _ is hOq.ints
          have hte := HG.out.term
          rw [hte] at HT2
          have HT3 : Hid _ := HT2
          clear HCB HG HE hm2 HTe HAd HCo hO hte hOq HT2
          subst hz
          go_wp2_with fail
          refine Calls.mono HT3.out ?_
          rintro e w6 ⟨rfl, rfl⟩
          go_wp2
          go_ret
          exact ⟨ret_bool (by rw [hcb.out]; rfl), hxw2⟩
        · have hzb : (m == 0) = false := by simp [hz]
          have HG2 : Hid (Grown n ll term (is ++ [m])) := by
            have := HG.out.more HT.out (by rw [← hm2.out]; exact hz)
            rw [← hm2.out] at this; exact this
          have hI := intsAt_fresh wr m 3
          have hil2 : is.length ≤ 1300 := by omega
          have hl2 : w.heap.size + 1 ≤ wr.heap.size := oTq.lt
          clear HCB HG HE hm2 HTe HAd HCo hO hz
          go_wp2_with (at_builtin; refine wpList_append_ints rfl (.tmp 74) (.tmp 76) rfl rfl rfl (hOq.ex (Ex.alloc _ _)) hI ?c1 ?c2 ?_)
          case c1 => simp only [List.length_cons, List.length_nil]; omega
          case c2 => rw [alloc_size]; omega
          intro v6 w6 hown6 hg6
          have hx6 : Ex w w6 := grown_ex (hxw2.alloc' _) hg6 (fun k hk => by have := ownsRow_block hOq k hk; omega)
          have oT6 : OwnB w6 w.heap.size _ _ := own_grown (oTq.ex (Ex.alloc _ _)) hg6 (fun e => by have := ownsRow_block hOq _ e; omega)
          obtain ⟨a6, c6, rfl, _, _, _⟩ := hown6.ints
          clear hg6 hI hOq
          go_wp2
          go_roundw
          case rel => exact ⟨is ++ [m], hown6, HG2, hx6, oT6⟩
          case measure => simp [lenV13]; omega
end Go.Proofs.Yteagoaiiacideaa
