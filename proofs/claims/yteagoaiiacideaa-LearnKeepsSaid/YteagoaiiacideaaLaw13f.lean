/- Chapter 13: the setting of a question: a theory over at most ten variables, and a trail of it (draft). -/
import Derived.Test.YteagoaiiacideaaLaw13e
import Derived.Test.YteagoaiiacideaaLearnS
import Derived.Test.YteagoaiiacideaaCopy
import Derived.Test.YteagoaiiacideaaUnit4
import Derived.Test.YteagoaiiacideaaAppOld
namespace Go.Proofs.Yteagoaiiacideaa
set_option linter.unusedSimpArgs false
set_option linter.unusedVariables false
open Go.RowKit
set_option maxRecDepth 20000
theorem theoryErr_of {n : Int} {ll : List (List Int)} (h0 : 0 ≤ n) (h1 : n ≤ 128) (h2 : ll.length ≤ 4096) (h3 : ∀ c ∈ ll, c.length ≤ 128 ∧ ∀ x ∈ c, litValid x n = true) : theoryErr n ll = 0 := by
  have key : ∀ l : List (List Int), (∀ c ∈ l, c.length ≤ 128 ∧ ∀ x ∈ c, litValid x n = true) → rowsErr n l = 0 := by
    intro l
    induction l with
    | nil => intro _; rfl
    | cons c t ih =>
      intro h
      have hc := h c (List.mem_cons_self ..)
      have e : clauseErr n c = 0 := by
        unfold clauseErr
        rw [if_neg (by omega), if_pos (List.all_eq_true.2 hc.2)]
      show (if clauseErr n c = 0 then rowsErr n t else clauseErr n c) = 0
      rw [if_pos e]
      exact ih fun d hd => h d (List.mem_cons_of_mem _ hd)
  unfold theoryErr
  rw [if_neg (by omega), if_neg (by omega)]
  exact key ll h3
theorem trailE_nil {n : Int} {ll : List (List Int)} (h : theoryErr n ll = 0) : trailE n ll [] = 0 := by
  have ha : askB n ll [] = true := by unfold askB; rw [decide_eq_true h]; rfl
  unfold trailE
  rw [if_pos ha]
  cases ho : trailO ll [] with
  | some _ => rfl
  | none => unfold trailO at ho; simp [trailF] at ho
/-- A list of steps of the call's own stays while a slice of integers grows. -/
theorem OwnS.besideI {w w' : World} {base base' : Nat} {v ov : Value} {tr : List St} {l : List Int} (h : OwnS w 55 base v tr) (ho : OwnI w base' ov l) (hg : w.grownBy w' ov.ownBlock) : OwnS w' 55 base v tr := by
  refine World.ownsRow.kept h hg ?_
  rcases h.2 with ⟨hn, _⟩ | ⟨g, c, cur, hv, _, hc, _⟩
  · left; rw [hn]; rfl
  · rcases ho.2 with ⟨hn', _⟩ | ⟨g', c', cur', hv', _, hc', _⟩
    · right; rw [hv, hn']; simp [Value.ownBlock]
    · right
      rw [hv, hv']
      simp only [Value.ownBlock, ne_eq, Option.some.injEq]
      rintro rfl
      rw [hc] at hc'
      simp only [Option.some.injEq, Obj.cells.injEq] at hc'
      exact absurd hc'.2.1 (by decide)
theorem wpList_append_row {w : World} {ops : Array Oper} {rest : List Oper} {o : Oper} {a : Act} {Q : Exit → Act → World → Prop} (hgd : o.guard = none) (s x : Operand)
    (ho : o.op = .call { callee := .builtin .append, args := #[s, x], argTypes := #[22, 22] })
    {base b : Nat} {v u : Value} {vs : List Value} (hs : a.eval s = v) (hx : a.eval x = .slice (some ⟨b, 0, none⟩) 1 1) (hown : OwnR w base v vs) (hu : u.oneCell' = true)
    (hn : w.cell? ⟨b, 0, none⟩ = some u) (hlen : vs.length ≤ 100000) (hbase : base ≤ w.heap.size)
    (h : ∀ v' w', OwnR w' base v' (vs ++ [u]) → w.grownBy w' v.ownBlock → wpList Try.prog ops Q rest (a.put o.dst v') w') : wpList Try.prog ops Q (o :: rest) a w :=
  wpList_plain hgd fun _ hK => by
    obtain ⟨v', w', hr, h2, h3⟩ := run_append_row (ty := o.type) hown hu hn hlen hbase
    unfold Oper.wp execOp
    simp only [ho, resolve, invoke, builtin, Sem.run_bind, Sem.run_pure, Result.andThen_ok, List.map_toArray, List.map_cons, List.map_nil, hs, hx, hr]
    exact hK _ _ (h v' w' h2 h3)
theorem wf_range {y : Int} (h : (Lit.int .i64 y).wf = true) : -9223372036854775808 ≤ y ∧ y ≤ 9223372036854775807 := by
  have h2 : (decide (IntKind.i64.min ≤ y) && decide (y ≤ IntKind.i64.max)) = true := h
  rw [Bool.and_eq_true, decide_eq_true_eq, decide_eq_true_eq] at h2
  exact h2
/-- The distance that setting makes of a literal. -/
theorem ask_dist {y : Int} (h : -9223372036854775808 ≤ y ∧ y ≤ 9223372036854775807) : ∃ W1 W2 M : Int, IntKind.i64.wrap (y + 1) = W1 ∧ IntKind.i64.wrap (-W1) = W2 ∧ max y W2 = M ∧ 0 ≤ M ∧ M ≤ 9223372036854775807 := by
  refine ⟨_, _, _, rfl, rfl, rfl, ?_, ?_⟩
  · rw [IntKind.wrap_i64, IntKind.wrap_i64]; omega
  · rw [IntKind.wrap_i64, IntKind.wrap_i64]; omega
/-- What setting hands back. -/
def SetRet (w : World) (e : Ending) (w' : World) : Prop := ∃ (N : Nat) (lv sv : Value) (ll : List (List Int)) (ds : List Int), e = .returned (.tuple #[.agg #[.int .i64 N, lv], sv, .int .i64 (trailC N ll ds), .bool true]) ∧ N ≤ 10 ∧ theoryErr N ll = 0 ∧ (ds.length ≤ 30 ∧ ll.length ≤ 60) ∧ trailE N ll ds = 0 ∧ RowsAt w' lv ll ∧ StepsAt w' sv (trailL N ll ds) ∧ Ex w w'
/-- A row whose literals are brought into n variables. -/
def RowOk (n : Nat) (d : List Int) : Prop := d.length ≤ 20 ∧ ∀ y ∈ d, litValid y n = true
set_option maxRecDepth 100000 in
set_option maxHeartbeats 4000000 in
theorem setting13_any (n nb : Int) (lv kv : Value) (ll : List (List Int)) (ks : List Int) (w : World) (hR : RowsAt w lv ll) (hk : BytesAt w kv ks) (hnb : 0 ≤ nb ∧ nb < 256) (hks : ∀ k ∈ ks, 0 ≤ k ∧ k < 256)
    (hl : ll.length ≤ 60 ∧ ∀ c ∈ ll, c.length ≤ 140) (hkl : ks.length ≤ 30) (hbig : ∀ c ∈ ll, ∀ y ∈ c, (Lit.int .i64 y).wf = true) :
    Calls Try.prog 25 #[.agg #[.int .i64 n, lv, .int .u8 nb, kv]] w (SetRet w) := by
  obtain ⟨N, hN⟩ : ∃ N : Nat, nb % 11 = (N : Int) := ⟨(nb % 11).toNat, by omega⟩
  have hN10 : N ≤ 10 := by omega
  have hR0 := hR
  have hk0 := hk
  obtain ⟨ra, rcap, rfl, r1, r2, r3⟩ := hR
  obtain ⟨pa, pcap, rfl, p1, p2, p3⟩ := hk
  unfold maxLen at r2 p2
  clear r3 p3
  have HBig : Hid (∀ c ∈ ll, ∀ y ∈ c, (Lit.int .i64 y).wf = true) := hbig
  have HL : Hid (ll.length ≤ 60 ∧ ∀ c ∈ ll, c.length ≤ 140) := hl
  have HKs : Hid (∀ k ∈ ks, 0 ≤ k ∧ k < 256) := hks
  have o := OwnB.new w [.int .i64 n, .slice ra ll.length rcap, .int .u8 nb, .slice pa ks.length pcap] 46
  have oR := OwnB.new (w.alloc (.cells #[.int .i64 n, .slice ra ll.length rcap, .int .u8 nb, .slice pa ks.length pcap] 46)) [.int .i64 0, .slice none 0 0] 24
  have oO := OwnB.new ((w.alloc (.cells #[.int .i64 n, .slice ra ll.length rcap, .int .u8 nb, .slice pa ks.length pcap] 46)).alloc (.cells #[.int .i64 0, .slice none 0 0] 24)) [.int .i64 N, .slice none 0 0] 24
  have hx0 := ((Ex.alloc w (.cells #[.int .i64 n, .slice ra ll.length rcap, .int .u8 nb, .slice pa ks.length pcap] 46)).alloc' (.cells #[.int .i64 0, .slice none 0 0] 24)).alloc' (.cells #[.int .i64 N, .slice none 0 0] 24)
  replace o := (o.ex (Ex.alloc _ (.cells #[.int .i64 0, .slice none 0 0] 24))).ex (Ex.alloc _ (.cells #[.int .i64 N, .slice none 0 0] 24))
  replace oR := oR.ex (Ex.alloc _ (.cells #[.int .i64 N, .slice none 0 0] 24))
  simp only [alloc_size] at oR oO
  clear hbig hl hks
  go_enter Try.func25, Try.ntmps25
  go_wp2
  clear hN
  generalize hw1 : ((w.alloc (.cells #[.int .i64 n, .slice ra ll.length rcap, .int .u8 nb, .slice pa ks.length pcap] 46)).alloc (.cells #[.int .i64 0, .slice none 0 0] 24)).alloc (.cells #[.int .i64 N, .slice none 0 0] 24) = w1 at *
  have hsz : w1.heap.size = w.heap.size + 3 := by rw [← hw1, alloc_size, alloc_size, alloc_size]
  clear hw1
  obtain ⟨OB, hOB⟩ : ∃ OB, OB = w.heap.size + 1 + 1 := ⟨_, rfl⟩
  obtain ⟨RB, hRB⟩ : ∃ RB, RB = w.heap.size + 1 := ⟨_, rfl⟩
  rw [← hOB] at oO ⊢
  rw [← hRB] at oR ⊢
  have HOB : Hid (OB = w.heap.size + 1 + 1 ∧ RB = w.heap.size + 1) := ⟨hOB, hRB⟩
  have hne : RB ≠ OB := by omega
  clear hOB hRB
  go_loopw [34] (fun i wr => ∃ k : Nat, k ≤ ll.length ∧ i = .int .i64 k ∧ Ex w wr ∧ w.heap.size + 3 ≤ wr.heap.size ∧ OwnB wr w.heap.size [.int .i64 n, .slice ra ll.length rcap, .int .u8 nb, .slice pa ks.length pcap] 46 ∧ OwnB wr RB [.int .i64 0, .slice none 0 0] 24 ∧ ∃ ov vs ld, vs.length = k ∧ ld.length = k ∧ OwnB wr OB [.int .i64 N, ov] 24 ∧ OwnR wr (w.heap.size + 3) ov vs ∧ CopiesAt wr (w.heap.size + 3) vs ld ∧ Hid (∀ d ∈ ld, RowOk N d)) (fun i _ => ll.length - (intOf i).toNat)
  case atStart => exact ⟨0, Nat.zero_le _, rfl, hx0, by omega, o, oR, _, [], [], rfl, rfl, oO, OwnR.nil _ _, (fun j hj => by cases hj), fun d hd => by cases hd⟩
  case round =>
    clear o oR oO hx0 hsz
    obtain ⟨k, hk, rfl, hxr, hsz, o, oR, ov, vs, ld, hvk, hlk, oO, hO, hCp, hRo⟩ := hrel
    by_cases hlt : k < ll.length
    · obtain ⟨_, _, hv, _, _, h3⟩ := hR0.ex hxr
      cases hv
      obtain ⟨b, off, rv, rfl, hb, hcell, hrow⟩ := h3 k hlt
      clear h3
      have hrl : (ll.getD k []).length ≤ 140 := HL.out.2 _ (by rw [getD_getElem hlt]; exact List.getElem_mem hlt)
      have HWf : Hid (∀ y ∈ ll.getD k [], (Lit.int .i64 y).wf = true) := HBig.out _ (by rw [getD_getElem hlt]; exact List.getElem_mem hlt)
      have q1 : (k : Int) < (ll.length : Int) := by omega
      have HO : Hid (vs.length = k ∧ ld.length = k ∧ OwnB wr OB [.int .i64 N, ov] 24 ∧ OwnR wr (w.heap.size + 3) ov vs ∧ CopiesAt wr (w.heap.size + 3) vs ld) := ⟨hvk, hlk, oO, hO, hCp⟩
      have hl60 : ll.length ≤ 60 := HL.out.1
      clear hvk hlk oO hO hCp HBig HL HKs
      generalize ll.getD k [] = row at *
      have hrow0 := hrow
      obtain ⟨rpa, rpc, rfl, rp1, rp2, _⟩ := hrow
      unfold maxLen at rp2
      generalize hwo : wr = wo at *
      clear hwo
      go_wp2
      go_loopw [10, 40] (fun dv jv ws => ∃ (j : Nat) (d : List Int), j ≤ row.length ∧ jv = .int .i64 j ∧ OwnI ws wo.heap.size dv d ∧ Hid (RowOk N d) ∧ Ex wo ws) (fun _ jv _ => row.length - (intOf jv).toNat)
      case atStart => exact ⟨0, [], Nat.zero_le _, rfl, OwnI.nil _ _, ⟨Nat.zero_le _, fun y hy => by cases hy⟩, Ex.refl _⟩
      case round =>
        obtain ⟨j, d, hj, rfl, hD, hRd, hxs⟩ := hrel
        by_cases hjl : j < row.length
        · obtain ⟨_, _, ev, _, _, e3⟩ := hrow0.ex hxs
          cases ev
          obtain ⟨cb, coff, rfl, hcb, hcc⟩ := e3 j hjl
          have hwf := HWf.out (row.getD j 0) (by rw [getD_getElem hjl]; exact List.getElem_mem hjl)
          clear e3
          generalize row.getD j 0 = y at *
          have hjj : ((j : Nat) : Int) < row.length := by omega
          have hwr := wf_range hwf
          obtain ⟨ea, ec, rfl, e1, e2, _⟩ := id hD.ints
          unfold maxLen at e2
          have hRd0 := hRd.out
          clear hwf HWf hrow0 HO
          by_cases hN0 : N = 0
          · subst hN0
            go_wp2
            go_roundw
            case rel => exact ⟨j + 1, d, by omega, by go_num, hD, hRd, hxs⟩
            case measure => simp [intOf]; omega
          have hNp : (0 : Int) < (N : Int) := by omega
          by_cases hy0 : y = 0
          · subst hy0
            go_wp2
            go_roundw
            case rel => exact ⟨j + 1, d, by omega, by go_num, hD, hRd, hxs⟩
            case measure => simp [intOf]; omega
          by_cases hd20 : d.length < 20
          rotate_left
          · have hd21 : decide (d.length < 20) = false := decide_eq_false hd20
            go_wp2
            go_roundw
            case rel => exact ⟨j + 1, d, by omega, by go_num, hD, hRd, hxs⟩
            case measure => simp [intOf]; omega
          have hyb : (y != 0) = true := bne_iff_ne.2 hy0
          have hd20i : ((d.length : Nat) : Int) < 20 := by omega
          have hwos := hxs.size
          obtain ⟨W1, W2, M, hW1, hW2, hMx, hM0, hM1⟩ := ask_dist hwr
          obtain ⟨m, hm⟩ : ∃ m : Nat, M % (N : Int) = m := ⟨(M % (N : Int)).toNat, by have := Int.emod_nonneg M (show (N : Int) ≠ 0 by omega); omega⟩
          have hmN : (m : Int) < N := by rw [← hm]; exact Int.emod_lt_of_pos _ hNp
          have hmt : M.tmod (N : Int) = m := by rw [Int.tmod_eq_emod_of_nonneg hM0, hm]
          have hu1 : IntKind.u64.wrap M = M := IntWalk.u64_in _ (by omega)
          have hu2 : IntKind.u64.wrap (N : Int) = N := IntWalk.u64_in _ (by omega)
          have hu3 : IntKind.u64.wrap (m : Int) = m := IntWalk.u64_in _ (by omega)
          have hi3 : IntKind.i64.wrap (m : Int) = m := IntWalk.i64_in _ (by omega)
          have hi4 : IntKind.i64.wrap (1 + (m : Int)) = 1 + m := IntWalk.i64_in _ (by omega)
          have hi5 : IntKind.i64.wrap (-(1 + (m : Int))) = -(1 + m) := IntWalk.i64_in _ (by omega)
          clear hwr hM1
          have hok : ∀ z : Int, z ≠ 0 → -(1 + (m : Int)) ≤ z → z ≤ 1 + m → RowOk N (d ++ [z]) := fun z h1 h2 h3 => ⟨by rw [List.length_append, List.length_cons, List.length_nil]; omega, fun t ht => by
            rcases List.mem_append.1 ht with h | h
            · exact hRd0.2 t h
            · rw [List.mem_singleton] at h; rw [h, litValid_iff]; omega⟩
          have HOk : Hid _ := hok
          clear hok hRd0 hRd
          by_cases hyn : y < 0
          · have hR2 : Hid (RowOk N (d ++ [-(1 + (m : Int))])) := HOk.out _ (by omega) (by omega) (by omega)
            have hI := intsAt_fresh wr (-(1 + (m : Int))) 3
            clear HOk
            go_wp2_with (at_builtin; refine wpList_append_ints rfl (.tmp 70) (.tmp 72) rfl rfl rfl (hD.ex (Ex.alloc _ _)) hI ?c1 ?c2 ?_)
            case c1 => first | (simp only [List.length_cons, List.length_nil]; omega) | omega
            case c2 => first | (rw [alloc_size]; exact Nat.le_succ_of_le hxs.size) | omega
            intro v9 w9 hown9 hg9
            have hx9 : Ex wo w9 := grown_ex (hxs.alloc' _) hg9 (ownsRow_block hD)
            clear hg9 hI hD
            go_wp2
            go_roundw
            case rel => exact ⟨j + 1, d ++ [-(1 + (m : Int))], by omega, by go_num, hown9, hR2, hx9⟩
            case measure => simp [intOf]; omega
          · have hR2 : Hid (RowOk N (d ++ [1 + (m : Int)])) := HOk.out _ (by omega) (by omega) (by omega)
            have hI := intsAt_fresh wr (1 + (m : Int)) 3
            clear HOk
            go_wp2_with (at_builtin; refine wpList_append_ints rfl (.tmp 70) (.tmp 72) rfl rfl rfl (hD.ex (Ex.alloc _ _)) hI ?c1 ?c2 ?_)
            case c1 => first | (simp only [List.length_cons, List.length_nil]; omega) | omega
            case c2 => first | (rw [alloc_size]; exact Nat.le_succ_of_le hxs.size) | omega
            intro v9 w9 hown9 hg9
            have hx9 : Ex wo w9 := grown_ex (hxs.alloc' _) hg9 (ownsRow_block hD)
            clear hg9 hI hD
            go_wp2
            go_roundw
            case rel => exact ⟨j + 1, d ++ [1 + (m : Int)], by omega, by go_num, hown9, hR2, hx9⟩
            case measure => simp [intOf]; omega
        · obtain rfl : j = row.length := by omega
          obtain ⟨hvk, hlk, oO, hO, hCp⟩ := HO.out
          obtain ⟨oa, ol, oc, rfl⟩ := ownR_shape hO
          obtain ⟨da, dc, rfl, _, _, _⟩ := id hD.ints
          have hs2 := hxs.size
          have hOBw := HOB.out
          have hOBlt : OB < w.heap.size + 3 := by omega
          have hRBlt : RB < w.heap.size + 3 := by omega
          have hO5 := hO.ex hxs
          have oO5 := oO.ex hxs
          have c1 := oO5.cell 1
          have z1 := oO5.lt
          have hvl : vs.length ≤ 100000 := by omega
          have HVk : Hid (vs.length = k ∧ ld.length = k) := ⟨hvk, hlk⟩
          clear HO hOBw hvk hlk HWf hrow0
          go_wp2_with (at_builtin; refine wpList_append_row (u := .slice da d.length dc) rfl (.tmp 76) (.tmp 78) rfl rfl rfl (hO5.ex (Ex.alloc _ _)) rfl ((OwnB.new wr [.slice da d.length dc] _).cell 0) ?c1 ?c2 ?_)
          case c1 => omega
          case c2 => rw [alloc_size]; omega
          intro v6 w6 hown6 hg6
          obtain ⟨a6, l6, c6, rfl⟩ := ownR_shape hown6
          have oO6 := own_grown (oO5.ex (Ex.alloc wr _)) hg6 (fun e => ownR_ne hO5 hOBlt e.symm)
          have c16 := oO6.cell 1
          have f16 := oO6.free 1
          have z16 := oO6.lt
          have o6 := (own_grown ((o.ex hxs).ex (Ex.alloc wr _)) hg6 (fun e => ownR_ne hO5 (show w.heap.size < w.heap.size + 3 by omega) e.symm)).set_other (c := OB) 1 (.slice a6 l6 c6) (by have := HOB.out; omega)
          have oR6 := (own_grown ((oR.ex hxs).ex (Ex.alloc wr _)) hg6 (fun e => ownR_ne hO5 hRBlt e.symm)).set_other (c := OB) 1 (.slice a6 l6 c6) hne.symm
          have hCp6 : CopiesAt (w6.setCell ⟨OB, 1, none⟩ (.slice a6 l6 c6)) (w.heap.size + 3) (vs ++ [.slice da d.length dc]) (ld ++ [d]) := fun q hq => by
            rw [List.length_append, List.length_cons, List.length_nil] at hq
            have hv2 := HVk.out
            by_cases e : q < vs.length
            · rw [getD_getElem (by simp; omega), getD_getElem (by simp; omega), List.getElem_append_left e, List.getElem_append_left (by omega), ← getD_getElem (d := undef) e, ← getD_getElem (d := ([] : List Int)) (show q < ld.length by omega)]
              exact (((hCp q e).ex hxs).ex (Ex.alloc wr _) |>.beside (hO5.ex (Ex.alloc wr _)) hg6).setOther hOBlt 1 (.slice a6 l6 c6)
            · obtain rfl : q = vs.length := by omega
              have g1 : (vs ++ [Value.slice da d.length dc]).getD vs.length undef = .slice da d.length dc := by rw [getD_getElem (by simp)]; simp
              have g2 : (ld ++ [d]).getD vs.length [] = d := by rw [getD_getElem (by simp; omega), List.getElem_append_right (by omega)]; simp
              rw [g1, g2]
              exact ((hD.base hsz).ex (Ex.alloc wr _) |>.beside (hO5.ex (Ex.alloc wr _)) hg6).setOther hOBlt 1 (.slice a6 l6 c6)
          have hO7 : OwnR (w6.setCell ⟨OB, 1, none⟩ (.slice a6 l6 c6)) (w.heap.size + 3) (.slice a6 l6 c6) (vs ++ [.slice da d.length dc]) := ownsRow_setCell_below hown6 hOBlt (.slice a6 l6 c6)
          have oO7 := oO6.set 1 (.slice a6 l6 c6)
          have hx7 : Ex w (w6.setCell ⟨OB, 1, none⟩ (.slice a6 l6 c6)) := (grown_ex ((hxr.trans hxs).alloc' _) hg6 (ownsRow_block (ownsRow_base hO5 (by omega)))).setCell (by show w.heap.size ≤ OB; have := HOB.out; omega) _
          have hs7 : w.heap.size + 3 ≤ (w6.setCell ⟨OB, 1, none⟩ (.slice a6 l6 c6)).heap.size := by have := hg6.size; rw [alloc_size] at this; simp [World.setCell] at *; omega
          have hl7 : (vs ++ [Value.slice da d.length dc]).length = k + 1 := by rw [List.length_append, HVk.out.1]; rfl
          have hl8 : (ld ++ [d]).length = k + 1 := by rw [List.length_append, HVk.out.2]; rfl
          have hRo7 : Hid (∀ d' ∈ ld ++ [d], RowOk N d') := fun d' hd => by
            rcases List.mem_append.1 hd with h | h
            · exact hRo.out d' h
            · rw [List.mem_singleton] at h; rw [h]; exact hRd.out
          clear oO6 hO5 oO5 c1 z1 hCp hO oO HVk hD hg6 hown6
          go_wp2
          go_roundw
          case rel => exact ⟨k + 1, by omega, by go_num, hx7, hs7, o6, oR6, _, _, _, hl7, hl8, oO7, hO7, hCp6, hRo7⟩
          case measure => simp [intOf]; omega
    · obtain rfl : k = ll.length := by omega
      have hTh : theoryErr N ld = 0 := theoryErr_of (by omega) (by omega) (by rw [hlk]; have := HL.out.1; omega) (fun c hc => ⟨by have := (hRo.out c hc).1; omega, (hRo.out c hc).2⟩)
      have hRw : RowsAt wr ov ld := rows_done hO hCp (by rw [hvk, hlk])
      have HTr : Hid (∀ (wa : World) av ds, Ex wr wa → IntsAt wa av ds → Calls Try.prog 31 #[.agg #[.int .i64 N, ov], av] wa (TrailRet 55 wa (trailL N ld ds) (trailC N ld ds) (trailE N ld ds))) := fun wa av ds hx h => unitTrail_any N ov av ld ds wa (hRw.ex hx) h
      have HE0 : Hid (trailE N ld [] = 0) := trailE_nil hTh
      obtain ⟨oa, ol, oc, rfl⟩ := ownR_shape hO
      have c0 := oO.cell 0
      have c1 := oO.cell 1
      have z0 := oO.lt
      have HT0 : Hid _ := HTr.out wr _ [] (Ex.refl _) (IntsAt.nil _)
      rw [HE0.out] at HT0
      have HTh : Hid (theoryErr N ld = 0) := hTh
      have HL60 : Hid (ld.length ≤ 60) := by show _ ≤ _; rw [hlk]; exact HL.out.1
      have hOBe := HOB.out
      have hRBlt : RB < w.heap.size + 3 := by omega
      have hRBw : w.heap.size ≤ RB := by omega
      have HRp : Hid (∀ wa, Ex wr wa → RowsAt ((wa.setCell ⟨RB, 0, none⟩ (.int .i64 N)).setCell ⟨RB, 1, none⟩ (.slice oa ol oc)) (.slice oa ol oc) ld) := fun wa hx => rows_done (ownsRow_setCell_below (ownsRow_setCell_below (hO.ex hx) hRBlt _) hRBlt _) (fun j hj => (((hCp j hj).ex hx).setOther hRBlt 0 _).setOther hRBlt 1 _) (by rw [hvk, hlk])
      clear hTh hRw hCp hO hRo HBig HL hvk hOBe
      go_wp2_with fail
      refine Calls.mono HT0.out ?_
      rintro e w5 ⟨v5, rfl, ho5, hx5⟩
      obtain ⟨t5, q5, rfl, _, _, _⟩ := id ho5.steps
      have oA := o.ex hx5
      have a3 := oA.cell 3
      have za := oA.lt
      have HSt5 : Hid (OwnS w5 55 wr.heap.size (.slice t5 (trailL N ld []).length q5) (trailL N ld [])) := ho5
      clear c0 c1 z0 HT0 ho5
      generalize hw4 : wr = w4 at *
      clear hw4
      go_wp2
      go_loopw [14, 15, 16, 91] (fun dv sv cv iv wr => ∃ (j : Nat) (ds : List Int), j ≤ ks.length ∧ iv = .int .i64 j ∧ ds.length ≤ j ∧ OwnI wr w5.heap.size dv ds ∧ OwnS wr 55 w4.heap.size sv (trailL N ld ds) ∧ cv = .int .i64 (trailC N ld ds) ∧ Hid (trailE N ld ds = 0) ∧ Ex w5 wr) (fun _ _ _ iv _ => ks.length - (intOf iv).toNat)
      case atStart => exact ⟨0, [], Nat.zero_le _, rfl, Nat.le_refl _, OwnI.nil _ _, HSt5.out, rfl, HE0.out, Ex.refl _⟩
      case round =>
        obtain ⟨j, ds, hj, rfl, hdl, hD, hS, rfl, HE, hxr5⟩ := hrel
        by_cases hjl : j < ks.length
        · obtain ⟨_, _, ev, _, _, e3⟩ := hk0.ex (((hxr.trans hx5)).trans hxr5)
          cases ev
          obtain ⟨kb, koff, rfl, hkb, hkc⟩ := e3 j hjl
          have hkr := HKs.out (ks.getD j 0) (by rw [getD_getElem hjl]; exact List.getElem_mem hjl)
          have hjj : ((j : Nat) : Int) < ks.length := by omega
          clear e3
          generalize ks.getD j 0 = kk at *
          by_cases hN0 : N = 0
          · have hNb : (((N : Nat) : Int) == 0) = true := by rw [show ((N : Nat) : Int) = 0 by omega]; rfl
            clear hN0
            have oOf := (oO.ex hx5).ex hxr5
            have oRf := (oR.ex hx5).ex hxr5
            have d0 := oOf.cell 0
            have d1 := oOf.cell 1
            have y1 := oOf.lt
            have r0 := oRf.cell 0
            have r1' := oRf.cell 1
            have g0 := oRf.free 0
            have g1 := oRf.free 1
            have yr := oRf.lt
            have hRf : Hid _ := HRp.out _ (hx5.trans hxr5)
            obtain ⟨sa, sq, rfl, _, _, _⟩ := id hS.steps
            have hw4s : RB < w4.heap.size := by omega
            have hSf : Hid (OwnS ((wr.setCell ⟨RB, 0, none⟩ (.int .i64 N)).setCell ⟨RB, 1, none⟩ (.slice oa ol oc)) 55 w4.heap.size (.slice sa (trailL N ld ds).length sq) (trailL N ld ds)) := ownsRow_setCell_below (ownsRow_setCell_below hS hw4s _) hw4s _
            have hxf := (((hxr.trans hx5).trans hxr5).setCell (p := ⟨RB, 0, none⟩) hRBw (.int .i64 N)).setCell (p := ⟨RB, 1, none⟩) hRBw (.slice oa ol oc)
            clear hS HTr HRp
            go_wp2
            refine bodyPost_ret (v := .tuple #[.agg #[.int .i64 N, .slice oa ol oc], .slice sa (trailL N ld ds).length sq, .int .i64 (trailC N ld ds), .bool true]) (by simp [results, Try.results25, go_sem, r0, r1', yr]) rfl ?_
            exact ⟨N, _, _, ld, ds, rfl, hN10, HTh.out, ⟨by omega, HL60.out⟩, HE.out, hRf.out, hSf.out.steps, hxf⟩
          by_cases hc0 : 0 ≤ trailC N ld ds
          · have hNb : (((N : Nat) : Int) == 0) = false := by rw [beq_eq_false_iff_ne]; omega
            have hcb : decide (0 ≤ trailC N ld ds) = true := decide_eq_true hc0
            have oOf := (oO.ex hx5).ex hxr5
            have oRf := (oR.ex hx5).ex hxr5
            have d0 := oOf.cell 0
            have d1 := oOf.cell 1
            have y1 := oOf.lt
            have r0 := oRf.cell 0
            have r1' := oRf.cell 1
            have g0 := oRf.free 0
            have g1 := oRf.free 1
            have yr := oRf.lt
            have hRf : Hid _ := HRp.out _ (hx5.trans hxr5)
            obtain ⟨sa, sq, rfl, _, _, _⟩ := id hS.steps
            have hw4s : RB < w4.heap.size := by omega
            have hSf : Hid (OwnS ((wr.setCell ⟨RB, 0, none⟩ (.int .i64 N)).setCell ⟨RB, 1, none⟩ (.slice oa ol oc)) 55 w4.heap.size (.slice sa (trailL N ld ds).length sq) (trailL N ld ds)) := ownsRow_setCell_below (ownsRow_setCell_below hS hw4s _) hw4s _
            have hxf := (((hxr.trans hx5).trans hxr5).setCell (p := ⟨RB, 0, none⟩) hRBw (.int .i64 N)).setCell (p := ⟨RB, 1, none⟩) hRBw (.slice oa ol oc)
            clear hS HTr HRp
            go_wp2
            refine bodyPost_ret (v := .tuple #[.agg #[.int .i64 N, .slice oa ol oc], .slice sa (trailL N ld ds).length sq, .int .i64 (trailC N ld ds), .bool true]) (by simp [results, Try.results25, go_sem, r0, r1', yr]) rfl ?_
            exact ⟨N, _, _, ld, ds, rfl, hN10, HTh.out, ⟨by omega, HL60.out⟩, HE.out, hRf.out, hSf.out.steps, hxf⟩
          · have hNb : (((N : Nat) : Int) == 0) = false := by rw [beq_eq_false_iff_ne]; omega
            have hcb : decide (0 ≤ trailC N ld ds) = false := decide_eq_false hc0
            have hNp : (0 : Int) < (N : Int) := by omega
            have hkm := Int.emod_nonneg kk (show (N : Int) ≠ 0 by omega)
            have hkm2 := Int.emod_lt_of_pos kk hNp
            have hwk : IntKind.i64.wrap kk = kk := IntWalk.i64_in _ (by omega)
            have hw1 : IntKind.i64.wrap (1 + kk % (N : Int)) = 1 + kk % (N : Int) := IntWalk.i64_in _ (by omega)
            have hw2 : IntKind.i64.wrap (-(1 + kk % (N : Int))) = -(1 + kk % (N : Int)) := IntWalk.i64_in _ (by omega)
            cases hob : ((kk / (N : Int)).tmod 2 == 1) with
            | true =>
              go_wp2
              generalize hD9 : -(1 + kk % (N : Int)) = D at *
              clear hD9
              have hs4 := hxr5.size
              have oOf := (oO.ex hx5).ex hxr5
              have d0 := oOf.cell 0
              have d1 := oOf.cell 1
              have y1 := oOf.lt
              obtain ⟨E7, hE7⟩ : ∃ E, trailE N ld (ds ++ [D]) = E := ⟨_, rfl⟩
              have HT2 : Hid _ := fun (wa : World) av (hx : Ex w5 wa) h => HTr.out wa av (ds ++ [D]) (hx5.trans hx) h
              rw [hE7] at HT2
              have HE7 : Hid _ := hE7
              have hdn : ds.length ≤ 100000 := by omega
              have hdx : ds.length ≤ j := hdl
              obtain ⟨da, dc, rfl, _, _, _⟩ := id hD.ints
              have HOx : Hid _ := fun (wa : World) (hx : Ex w5 wa) => (oO.ex hx5).ex hx
              have HSb : Hid (w4.heap.size ≤ w5.heap.size) := hx5.size
              clear hE7 HTr HRp
              go_region_law (first | (refine step_append_old (by rfl) (.tmp 120) (.tmp 122) (by rfl) (by rfl) (by rfl) (hD.ex ((Ex.alloc wr _).drew)) ((intsAt_fresh wr _ _).ex ((Ex.refl _).drew)) hdn (by show _ ≤ (wr.heap.push _).size; simp; omega) ?_; intro v6 w6 hN6 hO6 hg6; have hx6 := grown_ex (hxr5.trans ((Ex.alloc wr _).drew)) hg6 (ownsRow_block hD); have c06 := (HOx.out _ hx6).cell 0; have c16 := (HOx.out _ hx6).cell 1; have y6 := (HOx.out _ hx6).lt; have hS6 := OwnS.besideI (hS.ex ((Ex.alloc wr _).drew)) (hD.ex ((Ex.alloc wr _).drew)) hg6) | (go_simp; go_at_call 31; refine (HT2.out _ _ hx6 hN6.ints).mono ?_; rintro e w7 ⟨v7, rfl, ho7, hx7⟩))
              all_goals (
                have hD7 := hO6.ex hx7
                have hS7 := hS6.ex hx7
                have hT7 := ho7.base (Nat.le_trans HSb.out hx6.size)
                have hx57 := hx6.trans hx7
                clear c06 c16 y6 hS6 hO6 hN6 ho7 HOx HT2
                by_cases hE70 : E7 = 0
                · have HE8 : Hid (trailE N ld (ds ++ [D]) = 0) := by show _ = _; rw [HE7.out, hE70]
                  subst hE70
                  clear HE7 hS7
                  go_wp2_with (at_builtin; refine wpList_append_ints rfl (.tmp 130) (.tmp 132) rfl rfl rfl (hD7.ex (Ex.alloc _ _)) (intsAt_fresh w7 D _) (by simp only [List.length_cons, List.length_nil]; omega) (by rw [alloc_size]; exact Nat.le_succ_of_le hx57.size) ?_)
                  intro v9 w9 hown9 hg9
                  have hx9 : Ex w5 w9 := grown_ex (hx57.alloc' _) hg9 (ownsRow_block hD7)
                  have hT9 := OwnS.besideI (hT7.ex (Ex.alloc _ _)) (hD7.ex (Ex.alloc _ _)) hg9
                  clear hg9 hD7 hT7
                  go_wp2
                  go_roundw
                  all_goals first | exact ⟨j + 1, ds ++ [D], by omega, by go_num, by simp; omega, hown9, hT9, rfl, HE8, hx9⟩ | (simp [intOf]; omega)
                · have hE8 : (E7 == 0) = false := by rw [beq_eq_false_iff_ne]; exact hE70
                  clear HE7
                  go_wp2
                  go_roundw
                  all_goals first | exact ⟨j + 1, ds, by omega, by go_num, by omega, hD7, hS7, rfl, HE, hx57⟩ | (simp [intOf]; omega))
            | false =>
              go_wp2
              generalize hD9 : 1 + kk % (N : Int) = D at *
              clear hD9
              have hs4 := hxr5.size
              have oOf := (oO.ex hx5).ex hxr5
              have d0 := oOf.cell 0
              have d1 := oOf.cell 1
              have y1 := oOf.lt
              obtain ⟨E7, hE7⟩ : ∃ E, trailE N ld (ds ++ [D]) = E := ⟨_, rfl⟩
              have HT2 : Hid _ := fun (wa : World) av (hx : Ex w5 wa) h => HTr.out wa av (ds ++ [D]) (hx5.trans hx) h
              rw [hE7] at HT2
              have HE7 : Hid _ := hE7
              have hdn : ds.length ≤ 100000 := by omega
              have hdx : ds.length ≤ j := hdl
              obtain ⟨da, dc, rfl, _, _, _⟩ := id hD.ints
              have HOx : Hid _ := fun (wa : World) (hx : Ex w5 wa) => (oO.ex hx5).ex hx
              have HSb : Hid (w4.heap.size ≤ w5.heap.size) := hx5.size
              clear hE7 HTr HRp
              go_region_law (first | (refine step_append_old (by rfl) (.tmp 120) (.tmp 122) (by rfl) (by rfl) (by rfl) (hD.ex ((Ex.alloc wr _).drew)) ((intsAt_fresh wr _ _).ex ((Ex.refl _).drew)) hdn (by show _ ≤ (wr.heap.push _).size; simp; omega) ?_; intro v6 w6 hN6 hO6 hg6; have hx6 := grown_ex (hxr5.trans ((Ex.alloc wr _).drew)) hg6 (ownsRow_block hD); have c06 := (HOx.out _ hx6).cell 0; have c16 := (HOx.out _ hx6).cell 1; have y6 := (HOx.out _ hx6).lt; have hS6 := OwnS.besideI (hS.ex ((Ex.alloc wr _).drew)) (hD.ex ((Ex.alloc wr _).drew)) hg6) | (go_simp; go_at_call 31; refine (HT2.out _ _ hx6 hN6.ints).mono ?_; rintro e w7 ⟨v7, rfl, ho7, hx7⟩))
              all_goals (
                have hD7 := hO6.ex hx7
                have hS7 := hS6.ex hx7
                have hT7 := ho7.base (Nat.le_trans HSb.out hx6.size)
                have hx57 := hx6.trans hx7
                clear c06 c16 y6 hS6 hO6 hN6 ho7 HOx HT2
                by_cases hE70 : E7 = 0
                · have HE8 : Hid (trailE N ld (ds ++ [D]) = 0) := by show _ = _; rw [HE7.out, hE70]
                  subst hE70
                  clear HE7 hS7
                  go_wp2_with (at_builtin; refine wpList_append_ints rfl (.tmp 130) (.tmp 132) rfl rfl rfl (hD7.ex (Ex.alloc _ _)) (intsAt_fresh w7 D _) (by simp only [List.length_cons, List.length_nil]; omega) (by rw [alloc_size]; exact Nat.le_succ_of_le hx57.size) ?_)
                  intro v9 w9 hown9 hg9
                  have hx9 : Ex w5 w9 := grown_ex (hx57.alloc' _) hg9 (ownsRow_block hD7)
                  have hT9 := OwnS.besideI (hT7.ex (Ex.alloc _ _)) (hD7.ex (Ex.alloc _ _)) hg9
                  clear hg9 hD7 hT7
                  go_wp2
                  go_roundw
                  all_goals first | exact ⟨j + 1, ds ++ [D], by omega, by go_num, by simp; omega, hown9, hT9, rfl, HE8, hx9⟩ | (simp [intOf]; omega)
                · have hE8 : (E7 == 0) = false := by rw [beq_eq_false_iff_ne]; exact hE70
                  clear HE7
                  go_wp2
                  go_roundw
                  all_goals first | exact ⟨j + 1, ds, by omega, by go_num, by omega, hD7, hS7, rfl, HE, hx57⟩ | (simp [intOf]; omega))
        · obtain rfl : j = ks.length := by omega
          have oOf := (oO.ex hx5).ex hxr5
          have oRf := (oR.ex hx5).ex hxr5
          have d0 := oOf.cell 0
          have d1 := oOf.cell 1
          have y1 := oOf.lt
          have r0 := oRf.cell 0
          have r1' := oRf.cell 1
          have g0 := oRf.free 0
          have g1 := oRf.free 1
          have yr := oRf.lt
          have hRf : Hid _ := HRp.out _ (hx5.trans hxr5)
          obtain ⟨sa, sq, rfl, _, _, _⟩ := id hS.steps
          have hw4s : RB < w4.heap.size := by omega
          have hSf : Hid (OwnS ((wr.setCell ⟨RB, 0, none⟩ (.int .i64 N)).setCell ⟨RB, 1, none⟩ (.slice oa ol oc)) 55 w4.heap.size (.slice sa (trailL N ld ds).length sq) (trailL N ld ds)) := ownsRow_setCell_below (ownsRow_setCell_below hS hw4s _) hw4s _
          have hxf := (((hxr.trans hx5).trans hxr5).setCell (p := ⟨RB, 0, none⟩) hRBw (.int .i64 N)).setCell (p := ⟨RB, 1, none⟩) hRBw (.slice oa ol oc)
          clear hS HTr HRp
          go_wp2
          refine bodyPost_ret (v := .tuple #[.agg #[.int .i64 N, .slice oa ol oc], .slice sa (trailL N ld ds).length sq, .int .i64 (trailC N ld ds), .bool true]) (by simp [results, Try.results25, go_sem, r0, r1', yr]) rfl ?_
          exact ⟨N, _, _, ld, ds, rfl, hN10, HTh.out, ⟨by omega, HL60.out⟩, HE.out, hRf.out, hSf.out.steps, hxf⟩
end Go.Proofs.Yteagoaiiacideaa
