/- Helpers of chapter 12's laws: steps compared, trails compared, trails turned into the document's type, whether a theory is looked at. No condition. -/
import Derived.Test.YtlaejhmpnlcceaaUnit4
import Derived.Laws.StructEq
import Derived.Deep.RegionHeld3
namespace Go.Proofs.Ytlaejhmpnlcceaa
set_option linter.unusedSimpArgs false
set_option linter.unusedVariables false
open Go.RowKit
theorem Try.stepHeld : Try.prog.stoodInHeld 42 = false := by kernel_rfl
theorem Try.stepGuard : Try.prog.eqGuardType Try.prog.depth 42 = false := by kernel_rfl
@[go_sem] theorem eqStep_run (w : World) (a b c a' b' c' : Int) :
    (Op.equalIn 10000 42 (.agg #[.int .i64 a, .int .i64 b, .int .i64 c]) (.agg #[.int .i64 a', .int .i64 b', .int .i64 c'])).run Try.prog w = .ok (a == a' && b == b' && c == c') w := by
  rw [show (10000 : Nat) = 9999 + 1 from rfl, run_equalIn_struct w 9999 _ _ _ (by simp only [Program.fieldsOf, Try.underlying42]) Try.stepHeld]
  simp only [Program.fieldsOf, Try.underlying42]
  have q : ∀ a b : Int, (Op.equalIn 9999 3 (.int .i64 a) (.int .i64 b)).run Try.prog w = .ok (a == b) w := fun a b => run_equalIn_int w 9998 _ _ _ a b Try.underlying3
  by_cases h : a = a'
  · by_cases h' : b = b'
    · by_cases h'' : c = c' <;> simp [Op.eqFields, go_sem, Try.underlying3, q, h, h', h'']
    · simp [Op.eqFields, go_sem, Try.underlying3, q, h, h']
  · simp [Op.eqFields, go_sem, Try.underlying3, q, h]
theorem st_eta (s : St) : s = ⟨s.lit, s.why, s.lev⟩ := rfl
set_option maxRecDepth 100000 in
set_option maxHeartbeats 2000000 in
theorem r12Same_any (av bv : Value) (l m : List St) (w : World) (hl : StepsAt w av l) (hm : StepsAt w bv m) :
    Calls Try.prog 14 #[av, bv] w fun e w' => e = .returned (.bool (decide (l = m))) ∧ Ex w w' := by
  have hl0 := hl
  have hm0 := hm
  obtain ⟨a, cap, rfl, h1, h2, h3⟩ := hl
  obtain ⟨b, bap, rfl, g1, g2, g3⟩ := hm
  unfold maxLen at h2 g2
  clear h3 g3
  have hguard := Try.stepGuard
  by_cases hlen : l.length = m.length
  · have hne : (((l.length : Int)) != (m.length : Int)) = false := by simp; omega
    have fin : Hid ((∀ j, j < l.length → l.getD j default = m.getD j default) → decide (l = m) = true) := fun h => by
      rw [decide_eq_true_iff]
      refine List.ext_getElem hlen fun i h1 h2 => ?_
      have := h i h1
      rwa [getD_getElem h1, getD_getElem h2] at this
    have fin2 : Hid (∀ j, j < l.length → l.getD j default ≠ m.getD j default → decide (l = m) = false) := fun j hj h => by
      rw [decide_eq_false_iff_not]; intro e; rw [e] at h; exact h rfl
    have hle : l.length ≤ m.length := by omega
    clear hlen
    generalize decide (l = m) = res at *
    go_enter Try.func14, Try.ntmps14
    go_wp2
    go_loopw [5] (fun i wr => ∃ k : Nat, k ≤ l.length ∧ i = .int .i64 k ∧ Hid (∀ j, j < k → l.getD j default = m.getD j default) ∧ Ex w wr) (fun i _ => l.length - (intOf i).toNat)
    case atStart => exact ⟨0, Nat.zero_le _, rfl, fun j hj => by omega, Ex.refl _⟩
    case round =>
      obtain ⟨k, hk, rfl, hall, hxr⟩ := hrel
      by_cases hlt : k < l.length
      · have hlr := hl0.ex hxr
        obtain ⟨_, _, hv, _, _, h3⟩ := hlr
        cases hv
        obtain ⟨lb, lo, rfl, hb, c0, c1, c2⟩ := h3 k hlt
        have hmr := hm0.ex hxr
        obtain ⟨_, _, hv, _, _, g3⟩ := hmr
        cases hv
        have hltm : k < m.length := by omega
        obtain ⟨mb, mo, rfl, gb, d0, d1, d2⟩ := g3 k hltm
        clear h3 g3
        have c0x := ext_cell c0
        have c1x := ext_cell c1
        have c2x := ext_cell c2
        have d0x := ext_cell d0
        have d1x := ext_cell d1
        have d2x := ext_cell d2
        have q1 : (k : Int) < (l.length : Int) := by omega
        have q2 : (k : Int) < (m.length : Int) := by omega
        have hE : (l.getD k default = m.getD k default) ↔ ((l.getD k default).lit = (m.getD k default).lit ∧ (l.getD k default).why = (m.getD k default).why ∧ (l.getD k default).lev = (m.getD k default).lev) := by
          constructor
          · intro e; rw [e]; exact ⟨rfl, rfl, rfl⟩
          · rintro ⟨e1, e2, e3⟩; rw [st_eta (l.getD k default), st_eta (m.getD k default), e1, e2, e3]
        by_cases he : l.getD k default = m.getD k default
        · have hall2 : Hid (∀ j, j < k + 1 → l.getD j default = m.getD j default) := fun j hj => by
            by_cases hjm : j = k
            · subst hjm; exact he
            · exact hall.out j (by omega)
          obtain ⟨e1, e2, e3⟩ := hE.1 he
          clear hall he hE
          generalize (l.getD k default).lit = x0 at *
          generalize (l.getD k default).why = x1 at *
          generalize (l.getD k default).lev = x2 at *
          subst e1 e2 e3
          generalize (m.getD k default).lit = x0 at *
          generalize (m.getD k default).why = x1 at *
          generalize (m.getD k default).lev = x2 at *
          go_wp2
          refine wp_region_quiet_ext (by kernel_rfl) (by kernel_rfl) ?_
          repeat (go_big_quiet_step ((fail)))
          refine wpQuiet_nil ?_
          intro w2 hx2
          go_wp2
          go_roundw
          case rel => exact ⟨k + 1, by omega, by go_num, hall2, hxr.trans hx2⟩
          case measure => simp [intOf] <;> omega
        · have hfin : Hid (res = false) := fin2.out k hlt he
          have hne2 : ¬ ((l.getD k default).lit = (m.getD k default).lit ∧ (l.getD k default).why = (m.getD k default).why ∧ (l.getD k default).lev = (m.getD k default).lev) := fun h => he (hE.2 h)
          clear hall fin fin2 he hE
          generalize (l.getD k default).lit = x0 at *
          generalize (l.getD k default).why = x1 at *
          generalize (l.getD k default).lev = x2 at *
          generalize (m.getD k default).lit = y0 at *
          generalize (m.getD k default).why = y1 at *
          generalize (m.getD k default).lev = y2 at *
          by_cases p0 : x0 = y0
          · by_cases p1 : x1 = y1
            · have p2 : (x2 == y2) = false := by rw [beq_eq_false_iff_ne]; exact fun h => hne2 ⟨p0, p1, h⟩
              clear hne2
              subst p0 p1
              go_wp2
              refine wp_region_quiet_ext (by kernel_rfl) (by kernel_rfl) ?_
              repeat (go_big_quiet_step ((fail)))
              refine wpQuiet_nil ?_
              intro w2 hx2
              go_wp2
              go_ret
              exact ⟨ret_bool hfin.out.symm, hxr.trans hx2⟩
            · have p2 : (x1 == y1) = false := by rw [beq_eq_false_iff_ne]; exact p1
              clear hne2 p1
              subst p0
              go_wp2
              refine wp_region_quiet_ext (by kernel_rfl) (by kernel_rfl) ?_
              repeat (go_big_quiet_step ((fail)))
              refine wpQuiet_nil ?_
              intro w2 hx2
              go_wp2
              go_ret
              exact ⟨ret_bool hfin.out.symm, hxr.trans hx2⟩
          · have p2 : (x0 == y0) = false := by rw [beq_eq_false_iff_ne]; exact p0
            clear hne2 p0
            go_wp2
            refine wp_region_quiet_ext (by kernel_rfl) (by kernel_rfl) ?_
            repeat (go_big_quiet_step ((fail)))
            refine wpQuiet_nil ?_
            intro w2 hx2
            go_wp2
            go_ret
            exact ⟨ret_bool hfin.out.symm, hxr.trans hx2⟩
      · have hfin : Hid (res = true) := fin.out fun j hj => hall.out j (by omega)
        clear hall fin fin2
        go_wp2
        go_ret
        exact ⟨ret_bool hfin.out.symm, hxr⟩
  · have hne : (((l.length : Int)) != (m.length : Int)) = true := by simp; omega
    have hfin : Hid (decide (l = m) = false) := by show _ = _; rw [decide_eq_false_iff_not]; intro e; rw [e] at hlen; exact hlen rfl
    clear hlen
    go_enter Try.func14, Try.ntmps14
    go_wp2
    go_ret
    exact ⟨ret_bool hfin.out.symm, Ex.refl _⟩
def GivenRet (w : World) (tr : List St) (e : Ending) (w' : World) : Prop := ∃ v, e = .returned v ∧ OwnS w' 42 w.heap.size v tr ∧ Ex w w'
theorem steps_take_succ {tr : List St} {k : Nat} (h : k < tr.length) : tr.take k ++ [(⟨(tr.getD k default).lit, (tr.getD k default).why, (tr.getD k default).lev⟩ : St)] = tr.take (k + 1) := by
  rw [List.take_succ_eq_append_getElem h, getD_getElem h]
set_option maxRecDepth 100000 in
set_option maxHeartbeats 2000000 in
theorem given12_any (sv : Value) (tr : List St) (w : World) (hs : StepsAt w sv tr) (hlen : tr.length ≤ 1000) :
    Calls Try.prog 15 #[sv] w (GivenRet w tr) := by
  have hs0 := hs
  obtain ⟨a, cap, rfl, h1, h2, h3⟩ := hs
  unfold maxLen at h2
  clear h3
  go_enter Try.func15, Try.ntmps15
  go_wp2
  go_loopw [3, 4] (fun out i wr => ∃ k : Nat, k ≤ tr.length ∧ i = .int .i64 k ∧ OwnS wr 42 w.heap.size out (tr.take k) ∧ Ex w wr) (fun _ i _ => tr.length - (intOf i).toNat)
  case atStart => exact ⟨0, Nat.zero_le _, rfl, OwnS.nil _ _ _, Ex.refl _⟩
  case round =>
    obtain ⟨k, hk, rfl, hO, hxr⟩ := hrel
    by_cases hlt : k < tr.length
    · obtain ⟨_, _, hv, _, _, h3⟩ := hs0
      cases hv
      obtain ⟨b, off, rfl, hb, e0, e1, e2⟩ := h3 k hlt
      clear h3
      have hS : Hid (tr.take k ++ [(⟨(tr.getD k default).lit, (tr.getD k default).why, (tr.getD k default).lev⟩ : St)] = tr.take (k + 1)) := steps_take_succ hlt
      have hlen2 : Hid ((tr.take k).length ≤ k) := List.length_take_le _ _
      obtain ⟨F', hF'⟩ : ∃ F', F' = tr.take (k + 1) := ⟨_, rfl⟩
      rw [← hF'] at hS
      have HF' : Hid _ := hF'
      clear hF'
      generalize tr.take k = F at *
      generalize (tr.getD k default).lit = x0 at *
      generalize (tr.getD k default).why = x1 at *
      generalize (tr.getD k default).lev = x2 at *
      have c0 := ex_cell e0 hxr
      have c1 := ex_cell e1 hxr
      have c2 := ex_cell e2 hxr
      have hsz := hxr.size
      have hbr : b < wr.heap.size := by omega
      have q1 : (k : Int) < (tr.length : Int) := by omega
      have q0 : (0 : Int) ≤ (k : Int) := by omega
      have hFl := hlen2.out
      go_wp2_with fail
      go_region_held3 (fun w' => w'.cell? ⟨b, off + k * 3, none⟩ = some (.int .i64 x0) ∧ w'.cell? ⟨b, off + k * 3 + 1, none⟩ = some (.int .i64 x1) ∧ w'.cell? ⟨b, off + k * 3 + 2, none⟩ = some (.int .i64 x2))
        (first | go_keep | (go_split_ands; refine ⟨?_, ?_, ?_⟩ <;> assumption))
        ((refine step_append_step stepT_r12 (by rfl) (.tmp 11) (.tmp 28) (by rfl) (by rfl) (by rfl) (hO.ex ((Ex.alloc wr _).drew)) (st_new_drew wr ⟨x0, x1, x2⟩ _) (by omega) (by show _ ≤ (wr.heap.push _).size; simp; omega) ?_; intro v5 w5 hown5 hg5 hat5; have hx5 : Ex w w5 := grown_ex (hxr.trans ((Ex.alloc wr _).drew)) hg5 (fun k hk => (ownS_block hO k hk).1); have k0 := ex_cell e0 hx5; have k1 := ex_cell e1 hx5; have k2 := ex_cell e2 hx5))
      rw [hS.out] at hown5
      have hown6 : OwnS w5 42 w.heap.size v5 F' := hown5
      clear hown5 hg5 hat5 hO
      go_wp2
      go_roundw
      case rel => exact ⟨k + 1, by omega, by go_num, by rw [← HF'.out]; exact hown6, hx5⟩
      case measure => simp [intOf]; omega
    · obtain rfl : k = tr.length := by omega
      rw [List.take_length] at hO
      go_wp2
      go_ret
      exact ⟨_, rfl, hO, hxr⟩
/-- A test's answer that tells nothing. -/
def AnyB (w : World) (e : Ending) (w' : World) : Prop := ∃ b : Bool, e = .returned (.bool b) ∧ Ex w w'
set_option maxHeartbeats 1000000 in
theorem few12_any (n : Int) (lv : Value) (ll : List (List Int)) (w : World) (hR : RowsAt w lv ll) :
    Calls Try.prog 10 #[.agg #[.int .i64 n, lv]] w (AnyB w) := by
  have hR0 := hR
  obtain ⟨ra, rcap, rfl, r1, r2, r3⟩ := hR
  unfold maxLen at r2
  clear r3
  go_enter Try.func10, Try.ntmps10
  go_wp2
  generalize hwa : w.alloc (.cells #[.int .i64 n, .slice ra ll.length rcap] 24) = wa
  have hxa : Ex w wa := hwa ▸ Ex.alloc _ _
  have c1 : wa.cell? ⟨w.heap.size, 1, none⟩ = some (.slice ra ll.length rcap) := by rw [← hwa]; simp
  have z1 : w.heap.size < wa.heap.size := cell_lt c1
  clear hwa
  go_loop [3, 4] (fun kv i => ∃ (k : Nat) (K : Int), k ≤ ll.length ∧ i = .int .i64 k ∧ kv = .int .i64 K) (fun _ i => ll.length - (intOf i).toNat)
  case atStart => exact ⟨0, 0, Nat.zero_le _, rfl, rfl⟩
  case round =>
    obtain ⟨k, K, hk, rfl, rfl⟩ := hrel
    by_cases hlt : k < ll.length
    · obtain ⟨_, _, hv, _, _, h3⟩ := hR0.ex hxa
      cases hv
      obtain ⟨b, off, rv, rfl, hb, hcell, hrow⟩ := h3 k hlt
      obtain ⟨ca, ccap, rfl, q1, q2, _⟩ := hrow
      clear h3
      unfold maxLen at q2
      go_wp2
      go_round
      case rel => exact ⟨k + 1, _, by omega, by go_num, rfl⟩
      case measure => simp [intOf]; omega
    · by_cases h1 : ll.length ≤ 100
      · by_cases h2 : K ≤ 600
        · go_wp2
          go_ret
          exact ⟨_, rfl, hxa⟩
        · go_wp2
          go_ret
          exact ⟨_, rfl, hxa⟩
      · go_wp2
        go_ret
        exact ⟨_, rfl, hxa⟩
end Go.Proofs.Ytlaejhmpnlcceaa
