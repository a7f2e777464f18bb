/- The reference of unit propagation: propagate and Trail: what each call returns; old memory stays. -/
import Derived.Test.YtnhlfhoeglnajaaRef12
import Derived.Test.YtnhlfhoeglnajaaG5
import Derived.Test.YtnhlfhoeglnajaaG1
import Derived.Test.YtnhlfhoeglnajaaG2
namespace Go.Proofs.Ytnhlfhoeglnajaa
set_option linter.unusedSimpArgs false
set_option linter.unusedVariables false
open Go.RowKit
theorem ownS_block {w : World} {e : TypeId} {base : Nat} {v : Value} {tr : List St} (h : OwnS w e base v tr) : ∀ k, v.ownBlock = some k → base ≤ k ∧ k < w.heap.size := fun k hk => World.ownsRow.lt h k hk
theorem firstI_neg {ll : List (List Int)} {tr : List St} (h : firstT ll tr = none) : firstI ll tr = -1 := by unfold firstI; rw [h]
theorem firstI_pos {ll : List (List Int)} {tr : List St} {k : Nat} (h : firstT ll tr = some k) : firstI ll tr = k := by unfold firstI; rw [h]
/-- What the reference's propagate hands back. -/
def PropR (w0 : World) (base : Nat) (r : List St × Int) (e : Ending) (w' : World) : Prop := ∃ v, e = .returned (.tuple #[v, .int .i64 r.2]) ∧ OwnS w' 103 base v r.1 ∧ Ex w0 w'
set_option maxHeartbeats 4000000 in
theorem r12propagate_any (w0 w : World) (base : Nat) (n : Int) (lv sv : Value) (ll : List (List Int)) (tr : List St) (lev : Int) (hR : RowsAt w0 lv ll) (hx : Ex w0 w) (hb0 : w0.heap.size ≤ base) (hb : base ≤ w.heap.size) (ht : theoryErr n ll = 0)
    (hs : OwnS w 103 base sv tr) (hg : Good n tr) :
    Calls Try.prog 108 #[.agg #[.int .i64 n, lv], sv, .int .i64 lev] w (PropR w0 base (propL ll tr lev)) := by
  have HT : Hid (theoryErr n ll = 0) := ht
  have HF : Hid (∀ wa tv t1, Ex w0 wa → StepsAt wa tv t1 → Calls Try.prog 120 #[.agg #[.int .i64 n, lv], tv] wa fun e w' => e = .returned (.int .i64 (firstI ll t1)) ∧ Ex wa w') := fun wa tv t1 hx hs => r12first_any n lv tv ll t1 wa (hR.ex hx) ht hs
  have hR0 := hR
  obtain ⟨ra, rcap, rfl, r1, r2, r3⟩ := hR
  unfold maxLen at r2
  have HR : Hid (RowsAt w0 (.slice ra ll.length rcap) ll) := hR0
  have hll : ll.length ≤ 4096 := (theoryErr_zero ht).2.2.1
  have hne : sv.ownBlock ≠ some w.heap.size := fun e => by have := (ownS_block hs _ e).2; omega
  clear r3 hR0 ht
  generalize hres : propL ll tr lev = res at *
  have Hres : Hid (propL ll tr lev = res) := hres
  clear hres
  go_enter Try.func108, Try.ntmps108
  go_wp2
  have hB := OwnB.new w [.int .i64 n, .slice ra ll.length rcap] 24
  have hxa : Ex w0 (w.alloc (.cells #[.int .i64 n, .slice ra ll.length rcap] 24)) := hx.alloc' _
  have hsa := hs.ex (Ex.alloc w (.cells #[.int .i64 n, .slice ra ll.length rcap] 24))
  have hba : base ≤ (w.alloc (.cells #[.int .i64 n, .slice ra ll.length rcap] 24)).heap.size := by rw [alloc_size]; omega
  have hB' : OwnB (w.alloc (.cells #[.int .i64 n, .slice ra ll.length rcap] 24)) w.heap.size [.int .i64 n, .slice ra ll.length rcap] 24 := hB
  clear hB hs hx
  generalize w.alloc (.cells #[.int .i64 n, .slice ra ll.length rcap] 24) = wa at *
  generalize w.heap.size = B at *
  go_loopg [1] (300) (fun g tv wr => ∃ t1 : List St, OwnS wr 103 base tv t1 ∧ Ex w0 wr ∧ OwnB wr B [.int .i64 n, .slice ra ll.length rcap] 24 ∧ Hid (tv.ownBlock ≠ some B) ∧ base ≤ wr.heap.size ∧ Hid (Good n t1) ∧ Hid (propL ll t1 lev = res) ∧ 300 - t1.length ≤ g)
  case atStart => exact ⟨tr, hsa, hxa, hB', hne, hba, hg, Hres, by omega⟩
  case round =>
    obtain ⟨t1, ho, hx, hB1, hn1, hb1, hg1, hr1, hlen⟩ := hrel
    clear hsa hxa hB' hne hba
    have hgl := hg1.out.length
    have hst := ho.steps
    obtain ⟨pa, pc, rfl, _, _, _⟩ := hst
    have hst := ho.steps
    have c0 := hB1.cell 0
    have c1 := hB1.cell 1
    have zB := hB1.lt
    have HF1 := HF.out wr _ t1 hx hst
    have HF1' : Hid _ := HF1
    clear HF1
    cases hf : firstT ll t1 with
    | none =>
      rw [firstI_neg hf] at HF1'
      have hfin : Hid (res = (t1, -1)) := by show _ = _; rw [← hr1.out]; exact prop_none hf
      clear hf HF hr1
      go_wp2_with fail
      refine Calls.mono HF1'.out ?_
      rintro e w2 ⟨rfl, hx2⟩
      go_wp2
      go_ret2
      obtain rfl : res = (t1, -1) := hfin.out
      exact ⟨_, rfl, ho.ex hx2, hx.trans hx2⟩
    | some k =>
      rw [firstI_pos hf] at HF1'
      obtain ⟨hk, hlive⟩ := firstT_yes hf
      have hmem : ll.getD k [] ∈ ll := by rw [getD_getElem hk]; exact List.getElem_mem hk
      have hlv : ∀ l ∈ ll.getD k [], -128 ≤ l ∧ l ≤ 128 := fun l hl => by
        have := ((theoryErr_zero HT.out).2.2.2 _ hmem).2 l hl
        rw [litValid_iff] at this; omega
      cases hff : falseT t1 (ll.getD k []) with
      | true =>
        have hfin : Hid (res = (t1, (k : Int))) := by show _ = _; rw [← hr1.out]; exact prop_false (by omega) hf hff
        have HFa : Hid (∀ wb cv, StepsAt wb (.slice pa t1.length pc) t1 → IntsAt wb cv (ll.getD k []) → Calls Try.prog 121 #[.slice pa t1.length pc, cv] wb fun e w' => e = .returned (.bool true) ∧ wb = w') := fun wb cv h1 h2 => by
          have := r12False_any _ cv t1 (ll.getD k []) wb h1 h2 hlv
          rwa [hff] at this
        clear hf hff HF hr1 hlive hmem hlv
        go_wp2_with fail
        refine Calls.mono HF1'.out ?_
        rintro e w2 ⟨rfl, hx2⟩
        obtain ⟨_, _, hv, _, _, h3⟩ := HR.out.ex (hx.trans hx2)
        cases hv
        obtain ⟨rb, roff, rv, rfl, hrb, hrc, hrr⟩ := h3 k hk
        have HFb := HFa.out w2 rv (hst.ex hx2) hrr
        have HFb' : Hid _ := HFb
        obtain ⟨ca, ccap, rfl, _, _, _⟩ := hrr
        have c0 := ex_cell c0 hx2
        have c1 := ex_cell c1 hx2
        have zB := cell_lt c0
        clear h3 HFa HFb HF1'
        generalize ll.getD k [] = row at *
        go_wp2_with fail
        refine Calls.mono HFb'.out ?_
        rintro e w3 ⟨rfl, rfl⟩
        go_wp2
        go_ret2
        obtain rfl : res = (t1, (k : Int)) := hfin.out
        exact ⟨_, rfl, ho.ex hx2, hx.trans hx2⟩
      | false =>
        have hst2 := prop_step (lev := lev) (by omega) hf hff
        obtain ⟨g1, g2, g3⟩ := hg1.out.step HT.out (why := (k : Int)) (lev := lev) hf hff
        have hr2 : Hid (propL ll (t1 ++ [⟨unitT t1 (ll.getD k []), (k : Int), lev⟩]) lev = res) := by show _ = _; rw [← hst2]; exact hr1.out
        have hg2 : Hid (Good n (t1 ++ [⟨unitT t1 (ll.getD k []), (k : Int), lev⟩])) := g1
        have HFa : Hid (∀ wb cv, StepsAt wb (.slice pa t1.length pc) t1 → IntsAt wb cv (ll.getD k []) → Calls Try.prog 121 #[.slice pa t1.length pc, cv] wb fun e w' => e = .returned (.bool false) ∧ wb = w') := fun wb cv h1 h2 => by
          have := r12False_any _ cv t1 (ll.getD k []) wb h1 h2 hlv
          rwa [hff] at this
        have HUa : Hid (∀ wb cv, StepsAt wb (.slice pa t1.length pc) t1 → IntsAt wb cv (ll.getD k []) → Calls Try.prog 122 #[.slice pa t1.length pc, cv] wb fun e w' => e = .returned (.int .i64 (unitT t1 (ll.getD k []))) ∧ wb = w') := fun wb cv h1 h2 => r12Unit_any _ cv t1 (ll.getD k []) wb h1 h2 hlv
        clear hf hff HF hr1 hlive hmem hlv hst2 g1 g2 g3
        go_wp2_with fail
        refine Calls.mono HF1'.out ?_
        rintro e w2 ⟨rfl, hx2⟩
        obtain ⟨_, _, hv, _, _, h3⟩ := HR.out.ex (hx.trans hx2)
        cases hv
        obtain ⟨rb, roff, rv, rfl, hrb, hrc, hrr⟩ := h3 k hk
        have HFb := HFa.out w2 rv (hst.ex hx2) hrr
        have HFb' : Hid _ := HFb
        have HUb := HUa.out w2 rv (hst.ex hx2) hrr
        have HUb' : Hid _ := HUb
        obtain ⟨ca, ccap, rfl, _, _, _⟩ := hrr
        have c0 := ex_cell c0 hx2
        have c1 := ex_cell c1 hx2
        have zB := cell_lt c0
        have ho2 := ho.ex hx2
        have hx02 := hx.trans hx2
        have hB2 := hB1.ex hx2
        have hb2 := Nat.le_trans hb1 hx2.size
        clear h3 HFa HFb HF1' HUa HUb ho hx hB1 hx2 hst
        generalize unitT t1 (ll.getD k []) = u at *
        generalize ll.getD k [] = row at *
        go_wp2_with fail
        refine Calls.mono HFb'.out ?_
        rintro e w' ⟨rfl, rfl⟩
        go_wp2_with fail
        refine Calls.mono HUb'.out ?_
        rintro e w' ⟨rfl, rfl⟩
        have hxs := Ex.alloc w2 (.cells #[.int .i64 u, .int .i64 k, .int .i64 lev] 103)
        go_wp2_with (at_builtin; refine wpList_append_step stepT_r12 rfl (.tmp 25) (.tmp 36) rfl rfl rfl (ho2.ex hxs) (st_new w2 ⟨u, (k : Int), lev⟩ _) (by omega) ?c2 ?_)
        case c2 => rw [alloc_size]; omega
        intro v5 w5 hown5 hg5 hat5
        have hx5 : Ex w0 w5 := grown_ex (hx02.trans hxs) hg5 (fun k hk => Nat.le_trans hb0 (ownS_block ho2 k hk).1)
        have hB5 : OwnB w5 B _ _ := own_grown (hB2.ex hxs) hg5 hn1.out
        have hn5 : Hid (v5.ownBlock ≠ some B) := fun e => by
          rcases hat5 with h | h
          · exact hn1.out (h ▸ e)
          · rw [h] at e; have := hB2.lt; simp at e; omega
        have hb5 : base ≤ w5.heap.size := Nat.le_trans (Nat.le_trans hb2 hxs.size) hg5.size
        have hlen2 : 300 - (t1 ++ [(⟨u, (k : Int), lev⟩ : St)]).length < 300 - t1.length := by rw [List.length_append]; simp only [List.length_cons, List.length_nil]; omega
        generalize t1 ++ [(⟨u, (k : Int), lev⟩ : St)] = t2 at *
        clear hg5 hat5 hB2 ho2 hx02 hxs HFb' HUb' c0 c1
        go_wp2
        go_roundg (300 - t2.length)
        case measure => omega
        case rel => exact ⟨t2, hown5, hx5, hB5, hn5, hb5, hg2, hr2, Nat.le_refl _⟩
/-- What Trail hands back: steps in new memory, the conflict, the error. -/
def TrailRetR (et : TypeId) (w : World) (tr : List St) (c er : Int) (e : Ending) (w' : World) : Prop := ∃ v, e = .returned (.tuple #[v, .int .i64 c, .int .i64 er]) ∧ OwnS w' et w.heap.size v tr ∧ Ex w w'
set_option maxRecDepth 100000 in
set_option maxHeartbeats 4000000 in
theorem r12Trail_any (n : Int) (lv av : Value) (ll : List (List Int)) (ds : List Int) (w : World) (hR : RowsAt w lv ll) (hl : IntsAt w av ds) :
    Calls Try.prog 91 #[.agg #[.int .i64 n, lv], av] w (TrailRetR 103 w (trailL n ll ds) (trailC n ll ds) (trailE n ll ds)) := by
  have HCk : Hid (∀ wa, Ex w wa → Calls Try.prog 37 #[.agg #[.int .i64 n, lv]] wa fun e w' => e = .returned (.int .i64 (theoryErr n ll)) ∧ Ex wa w') := fun wa hx => r05Check_any n lv ll wa (hR.ex hx)
  have HCf : Hid (∀ (wa : World), Ex w wa → Calls Try.prog 107 #[av, .int .i64 n] wa fun e w' => e = .returned (.bool (ds.all (litValid · n))) ∧ wa = w') := fun wa hx => r04All1_any av ds n wa (hl.ex hx)
  have hR0 := hR
  have hl0 := hl
  obtain ⟨ra, rcap, rfl, r1, r2, r3⟩ := hR
  obtain ⟨a, cap, rfl, h1, h2, h3⟩ := hl
  unfold maxLen at r2 h2
  clear r3 h3
  by_cases ht : theoryErr n ll = 0
  rotate_left
  · have ha : ¬ askB n ll ds = true := fun h => ht (askB_iff.1 h).1
    have e1 : trailL n ll ds = [] := by unfold trailL; rw [if_neg ha]
    have e2 : trailC n ll ds = 0 := by unfold trailC; rw [if_neg ha]
    have e3 : trailE n ll ds = 1 := by unfold trailE; rw [if_neg ha]
    have hne : (theoryErr n ll != 0) = true := by simp [ht]
    rw [e1, e2, e3]
    clear e1 e2 e3 ha ht HCf
    generalize theoryErr n ll = er at *
    go_enter Try.func91, Try.ntmps91
    go_wp2_with fail
    refine (HCk.out _ (Ex.alloc _ _)).mono ?_
    rintro e w2 ⟨rfl, hx2⟩
    go_wp2
    go_ret3
    exact ⟨_, rfl, OwnS.nil _ _ _, (Ex.alloc _ _).trans hx2⟩
  rw [ht] at HCk
  by_cases hd : ds.all (litValid · n) = true
  rotate_left
  · have ha : ¬ askB n ll ds = true := fun h => hd (List.all_eq_true.2 (askB_iff.1 h).2)
    have e1 : trailL n ll ds = [] := by unfold trailL; rw [if_neg ha]
    have e2 : trailC n ll ds = 0 := by unfold trailC; rw [if_neg ha]
    have e3 : trailE n ll ds = 1 := by unfold trailE; rw [if_neg ha]
    have hd' : ds.all (litValid · n) = false := by simpa using hd
    rw [hd'] at HCf
    rw [e1, e2, e3]
    clear e1 e2 e3 ha ht hd hd'
    go_enter Try.func91, Try.ntmps91
    go_wp2_with fail
    have c0 : (w.alloc (.cells #[.int .i64 n, .slice ra ll.length rcap] 24)).cell? ⟨w.heap.size, 0, none⟩ = some (.int .i64 n) := by simp
    refine (HCk.out _ (Ex.alloc _ _)).mono ?_
    rintro e w2 ⟨rfl, hx2⟩
    replace c0 := ex_cell c0 hx2
    have hx := (Ex.alloc w (.cells #[.int .i64 n, .slice ra ll.length rcap] 24)).trans hx2
    clear hx2
    go_wp2_with fail
    refine (HCf.out _ hx).mono ?_
    rintro e w' ⟨rfl, rfl⟩
    go_wp2
    go_ret3
    exact ⟨_, rfl, OwnS.nil _ _ _, hx⟩
  rw [hd] at HCf
  have hval : Hid (∀ d ∈ ds, litValid d n = true) := List.all_eq_true.1 hd
  have HT : Hid (theoryErr n ll = 0) := ht
  have HRes : Hid (trailL n ll ds = (match trailO ll ds with | some s => s.1 | none => []) ∧ trailC n ll ds = (match trailO ll ds with | some s => s.2 | none => 0) ∧ trailE n ll ds = (match trailO ll ds with | some _ => 0 | none => 8)) := by
    show _ ∧ _ ∧ _
    have ha : askB n ll ds = true := askB_iff.2 ⟨ht, List.all_eq_true.1 hd⟩
    unfold trailL trailC trailE
    rw [if_pos ha, if_pos ha, if_pos ha]
    exact ⟨rfl, rfl, rfl⟩
  generalize trailL n ll ds = RL at *
  generalize trailC n ll ds = RC at *
  generalize trailE n ll ds = RE at *
  clear ht hd
  go_enter Try.func91, Try.ntmps91
  go_wp2_with fail
  generalize hwa : w.alloc (.cells #[.int .i64 n, .slice ra ll.length rcap] 24) = wa
  have hxa : Ex w wa := hwa ▸ Ex.alloc _ _
  have hT : OwnB wa w.heap.size [.int .i64 n, .slice ra ll.length rcap] 24 := hwa ▸ OwnB.new w [.int .i64 n, .slice ra ll.length rcap] 24
  clear hwa
  refine (HCk.out _ hxa).mono ?_
  rintro e w2 ⟨rfl, hx2⟩
  replace hxa := hxa.trans hx2
  replace hT := hT.ex hx2
  clear hx2
  have c0 := hT.cell 0
  have c1 := hT.cell 1
  have zB := hT.lt
  go_wp2_with fail
  refine (HCf.out _ hxa).mono ?_
  rintro e w' ⟨rfl, rfl⟩
  clear HCk HCf
  have hRw : Hid (RowsAt w2 (.slice ra ll.length rcap) ll) := hR0.ex hxa
  have hlw : IntsAt w2 (.slice a ds.length cap) ds := hl0.ex hxa
  have HPr : Hid (∀ wb sv tr lev, Ex w2 wb → OwnS wb 103 w2.heap.size sv tr → Good n tr → Calls Try.prog 108 #[.agg #[.int .i64 n, .slice ra ll.length rcap], sv, .int .i64 lev] wb (PropR w2 w2.heap.size (propL ll tr lev))) := fun wb sv tr lev hx hs hg =>
    r12propagate_any w2 wb w2.heap.size n _ sv ll tr lev hRw.out hx (Nat.le_refl _) hx.size HT.out hs hg
  go_wp2_with fail
  refine (HPr.out _ _ [] 0 (Ex.refl _) (OwnS.nil _ _ _) (Good.nil n)).mono ?_
  rintro e w5 ⟨v0, rfl, ho0, hx5⟩
  have hP0 := prop_ind (P := fun _ => True) HT.out (lev := 0) (fun _ _ _ _ _ _ => trivial) _ [] rfl (Good.nil n) trivial
  obtain ⟨hg0, _, _⟩ := hP0
  have hO0 : Hid (trailO ll ds = trailF ll (ds.drop 0) 0 (propL ll [] 0)) := rfl
  generalize propL ll [] 0 = s0 at *
  have hBle : w.heap.size < w2.heap.size := zB
  generalize hSe : w2.heap.size = S at *
  have hSx : Hid (∀ wr, Ex w2 wr → S ≤ wr.heap.size) := fun wr h => hSe ▸ h.size
  have hSg : Hid (∀ wr wr' tv tr, Ex w2 wr → OwnS wr 103 S tv tr → wr.grownBy wr' tv.ownBlock → Ex w2 wr') := fun wr wr' tv tr hx ho hg => grown_ex hx hg (fun k hk => by rw [hSe]; exact (ownS_block ho k hk).1)
  clear hSe
  have hSle : w.heap.size ≤ S := Nat.le_of_lt hBle
  go_wp2_with fail
  go_loopw [7, 8, 9] (fun tv cf ix wr => ∃ (k : Nat) (s : List St × Int), k ≤ ds.length ∧ ix = .int .i64 k ∧ cf = .int .i64 s.2 ∧ OwnS wr 103 S tv s.1 ∧ Ex w2 wr ∧ Hid (Good n s.1) ∧ Hid (trailO ll ds = trailF ll (ds.drop k) k s)) (fun _ _ ix _ => ds.length - (intOf ix).toNat)
  case atStart => exact ⟨0, s0, Nat.zero_le _, rfl, rfl, ho0, hx5, hg0, hO0⟩
  case round =>
    obtain ⟨k, s, hk, rfl, rfl, hown, hx, hg, ho⟩ := hrel
    obtain ⟨tr, cf⟩ := s
    simp only at hown hg ho ⊢
    have hfin : Hid ((k = ds.length ∨ 0 ≤ cf) → RL = tr ∧ RC = cf ∧ RE = 0) := fun h => by
      have e : trailF ll (ds.drop k) k (tr, cf) = some (tr, cf) := by
        rcases h with h | h
        · rw [List.drop_eq_nil_of_le (by omega)]; rfl
        · cases ds.drop k with
          | nil => rfl
          | cons d t => simp only [trailF, if_pos h]
      obtain ⟨r1, r2, r3⟩ := HRes.out
      rw [ho.out, e] at r1 r2 r3
      exact ⟨r1, r2, r3⟩
    have hxw := hxa.trans hx
    clear ho0 hx5 hg0 hO0
    by_cases hend : k = ds.length ∨ 0 ≤ cf
    · obtain ⟨rfl, rfl, rfl⟩ := hfin.out hend
      have hO : OwnS wr 103 w.heap.size _ RL := hown.base hSle
      obtain ⟨pa, pc, rfl, _, _, _⟩ := hO.steps
      clear hfin ho hg hown HRes HPr
      by_cases hlt : k < ds.length
      · have hc : 0 ≤ RC := by omega
        clear hend
        go_wp2
        go_ret3
        exact ⟨_, rfl, hO, hxw⟩
      · obtain rfl : k = ds.length := by omega
        clear hend
        go_wp2
        go_ret3
        exact ⟨_, rfl, hO, hxw⟩
    · have hlt : k < ds.length := by omega
      have hcf : cf < 0 := by omega
      have hd0 : ds.getD k 0 ∈ ds := by rw [getD_getElem hlt]; exact List.getElem_mem hlt
      have hdv := hval.out _ hd0
      have hdb := (litValid_iff _ _).1 hdv
      have hstep : trailF ll (ds.drop k) k (tr, cf) = if trueT tr (-(ds.getD k 0)) = true then none else trailF ll (ds.drop (k + 1)) (k + 1) (propL ll (if trueT tr (ds.getD k 0) = true then tr else tr ++ [⟨ds.getD k 0, -1, (k : Int) + 1⟩]) ((k : Int) + 1)) := by
        rw [List.drop_eq_getElem_cons hlt, getD_getElem hlt]
        simp only [trailF]
        rw [if_neg (show ¬ 0 ≤ cf by omega)]
      have ho2 := ho.out
      rw [hstep] at ho2
      have HO2 : Hid _ := ho2
      obtain ⟨hb0, hb1, hb2, hb3, hb4⟩ := hdb
      have hgl := hg.out.length
      clear hfin ho ho2 hstep hend hd0
      obtain ⟨_, _, hv, _, _, h3⟩ := hlw.ex hx
      cases hv
      obtain ⟨b, off, rfl, hb, hcell⟩ := h3 k hlt
      clear h3
      have hst := hown.steps
      obtain ⟨pa, pc, rfl, _, _, _⟩ := hst
      have hst := hown.steps
      have HTr := r12True_any _ tr (-(ds.getD k 0)) wr hst
      have HOp := r12Open_any _ tr (ds.getD k 0) wr hb1 hb2 hst
      have c0 := ex_cell c0 hx
      have c1 := ex_cell c1 hx
      have zB := cell_lt c0
      generalize ds.getD k 0 = d at *
      by_cases hneg : trueT tr (-d) = true
      · rw [hneg] at HTr
        rw [if_pos hneg] at HO2
        obtain ⟨r1, r2, r3⟩ := HRes.out
        rw [HO2.out] at r1 r2 r3
        simp only at r1 r2 r3
        subst r1 r2 r3
        have HTr' : Hid _ := HTr
        clear hneg HO2 HRes HPr HTr HOp
        go_wp2_with fail
        refine Calls.mono HTr'.out ?_
        rintro e w' ⟨rfl, rfl⟩
        go_wp2
        go_ret3
        exact ⟨_, rfl, OwnS.nil _ _ _, hxw⟩
      · have hneg' : trueT tr (-d) = false := by simpa using hneg
        rw [hneg'] at HTr
        rw [if_neg hneg] at HO2
        have HTr' : Hid _ := HTr
        clear HTr
        by_cases hpos : trueT tr d = true
        · rw [if_pos hpos] at HO2
          have hres : Hid (trailO ll ds = trailF ll (ds.drop (k + 1)) (k + 1) (propL ll tr ((k : Int) + 1))) := HO2
          have hnx := prop_ind (P := fun _ => True) HT.out (lev := (k : Int) + 1) (fun _ _ _ _ _ _ => trivial) _ tr rfl hg.out trivial
          obtain ⟨hgn, _, _⟩ := hnx
          have hgn2 : Hid _ := hgn
          rw [show openT tr d = false by unfold openT; rw [hpos]; rfl] at HOp
          have HOp' : Hid _ := HOp
          have HPc := HPr.out wr _ tr ((k : Int) + 1) hx hown hg.out
          have HPc' : Hid _ := HPc
          clear hneg hneg' hpos HO2 HPr hgn hgl hdv HOp HPc
          generalize propL ll tr ((k : Int) + 1) = s2 at *
          go_wp2_with fail
          refine Calls.mono HTr'.out ?_
          rintro e w' ⟨rfl, rfl⟩
          go_wp2_with fail
          refine Calls.mono HOp'.out ?_
          rintro e w' ⟨rfl, rfl⟩
          go_wp2_with fail
          refine Calls.mono HPc'.out ?_
          rintro e w8 ⟨v8, rfl, ho8, hx8⟩
          clear HPc' HOp' HTr' hown hst
          go_wp2
          go_roundw
          case rel => exact ⟨k + 1, s2, by omega, by go_num, rfl, ho8, hx8, hgn2, hres⟩
          case measure => simp [intOf]; omega
        · have hpos' : trueT tr d = false := by simpa using hpos
          rw [if_neg hpos] at HO2
          have hop : openT tr d = true := openT_iff.2 ⟨hpos', hneg'⟩
          rw [hop] at HOp
          have HOp' : Hid _ := HOp
          have hg2 : Good n (tr ++ [⟨d, -1, (k : Int) + 1⟩]) := hg.out.add hdv hop
          have hres : Hid (trailO ll ds = trailF ll (ds.drop (k + 1)) (k + 1) (propL ll (tr ++ [⟨d, -1, (k : Int) + 1⟩]) ((k : Int) + 1))) := HO2
          have hnx := prop_ind (P := fun _ => True) HT.out (lev := (k : Int) + 1) (fun _ _ _ _ _ _ => trivial) _ _ rfl hg2 trivial
          obtain ⟨hgn, _, _⟩ := hnx
          have hgn2 : Hid _ := hgn
          have HPc : Hid (∀ wb sv, Ex w2 wb → OwnS wb 103 S sv (tr ++ [⟨d, -1, (k : Int) + 1⟩]) → Calls Try.prog 108 #[.agg #[.int .i64 n, .slice ra ll.length rcap], sv, .int .i64 ((k : Int) + 1)] wb (PropR w2 S (propL ll (tr ++ [⟨d, -1, (k : Int) + 1⟩]) ((k : Int) + 1)))) := fun wb sv hx hs => HPr.out wb sv _ _ hx hs hg2
          have hSw := hSx.out wr hx
          clear hneg hneg' hpos hpos' HO2 HPr hgn hdv HOp hop hg2
          go_wp2_with fail
          refine Calls.mono HTr'.out ?_
          rintro e w' ⟨rfl, rfl⟩
          go_wp2_with fail
          refine Calls.mono HOp'.out ?_
          rintro e w' ⟨rfl, rfl⟩
          have hxs := Ex.alloc wr (.cells #[.int .i64 d, .int .i64 (-1), .int .i64 ((k : Int) + 1)] 103)
          go_wp2_with (at_builtin; refine wpList_append_step stepT_r12 rfl (.tmp 48) (.tmp 56) rfl rfl rfl (hown.ex hxs) (st_new wr ⟨d, -1, (k : Int) + 1⟩ _) (by omega) ?c2 ?_)
          case c2 => rw [alloc_size]; omega
          intro v5 w5 hown5 hg5 hat5
          have hx5 : Ex w2 w5 := hSg.out _ _ _ _ (hx.trans hxs) (hown.ex hxs) hg5
          have hst5 := hown5.steps
          obtain ⟨pa5, pc5, rfl, _, _, _⟩ := hst5
          have HPd := HPc.out w5 _ hx5 hown5
          have HPd' : Hid _ := HPd
          have c0 := (hT.ex hx5).cell 0
          have c1 := (hT.ex hx5).cell 1
          have zB := (hT.ex hx5).lt
          clear hg5 hat5 HPc HPd hown hst hxs HTr' HOp' hgl
          generalize propL ll (tr ++ [⟨d, -1, (k : Int) + 1⟩]) ((k : Int) + 1) = s2 at *
          clear hown5
          generalize tr ++ [(⟨d, -1, (k : Int) + 1⟩ : St)] = tr2 at *
          go_wp2_with fail
          refine Calls.mono HPd'.out ?_
          rintro e w8 ⟨v8, rfl, ho8, hx8⟩
          clear HPd'
          go_wp2
          go_roundw
          case rel => exact ⟨k + 1, s2, by omega, by go_num, rfl, ho8, hx8, hgn2, hres⟩
          case measure => simp [intOf]; omega
end Go.Proofs.Ytnhlfhoeglnajaa
