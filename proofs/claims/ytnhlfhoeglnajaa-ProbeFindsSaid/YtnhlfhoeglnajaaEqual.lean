/- probe.Equal: an error; the table of consequences. No condition. -/
import Derived.Test.YtnhlfhoeglnajaaG6
import Derived.Test.YtnhlfhoeglnajaaMapI
import Derived.Test.YtnhlfhoeglnajaaUnit4
import Derived.Test.YtnhlfhoeglnajaaG2
import Derived.Test.YtnhlfhoeglnajaaProbe
import Derived.Laws.OwnMore
namespace Go.Proofs.Ytnhlfhoeglnajaa
set_option linter.unusedSimpArgs false
set_option linter.unusedVariables false
open Go.RowKit
set_option maxRecDepth 20000
/-- What Equal hands back. -/
def EqRet (w : World) (L : List Int) (er : Int) (e : Ending) (w' : World) : Prop := ∃ v, e = .returned (.tuple #[v, .int .i64 er]) ∧ OwnI w' w.heap.size v L ∧ Ex w w'
/-- What follows from the literal with an index. -/
def folL (n : Nat) (ll : List (List Int)) (j : Nat) : List Int := closL n ll [(j : Int) - n]
/-- A map, or nil, that has just these. -/
def FolAt (w : World) (base : Nat) (o : Option Nat) (L : List Int) : Prop := match o with
  | none => L = []
  | some b => base ≤ b ∧ ∃ m, MapI w b m L
theorem MapI.at {w w' : World} {b n : Nat} {S : List Int} (h : MapI w b n S) (e : w'.heap[b]? = w.heap[b]?) : MapI w' b n S := by
  obtain ⟨D, ⟨es, clock, hb, r⟩, h2⟩ := h
  exact ⟨D, ⟨es, clock, e.trans hb, r⟩, h2⟩
theorem FolAt.step {w w' : World} {base : Nat} {o : Option Nat} {L : List Int} (h : FolAt w base o L) (hk : ∀ b, base ≤ b → b < w.heap.size → w'.heap[b]? = w.heap[b]?) : FolAt w' base o L := by
  cases o with
  | none => exact h
  | some b => obtain ⟨h1, m, h2⟩ := h; exact ⟨h1, m, h2.at (hk b h1 h2.lt)⟩
theorem FolAt.look {w : World} {base : Nat} {o : Option Nat} {L : List Int} (h : FolAt w base o L) {x : Int} (hw : (Lit.int .i64 x).wf = true) : (Instr.lookup 69 (.map o) (.int .i64 x) false).run Try.prog w = .ok (.bool (L.contains x)) w := by
  cases o with
  | none => rw [show L = [] from h]; exact mapI_nil w hw
  | some b => obtain ⟨h1, m, h2⟩ := h; exact h2.look hw
def mapsV (m : Nat) (g : Nat → Option Nat) : List Value := (List.range m).map fun j => Value.map (g j)
theorem mapsV_get {m : Nat} {g : Nat → Option Nat} {i : Nat} (h : i < m) : (mapsV m g)[i]? = some (.map (g i)) := by
  unfold mapsV; rw [List.getElem?_map, List.getElem?_range h]; rfl
theorem mapsV_len (m : Nat) (g : Nat → Option Nat) : (mapsV m g).length = m := by simp [mapsV]
theorem mapsV_set {m : Nat} {g : Nat → Option Nat} {a : Nat} {b : Option Nat} (h : a < m) : (mapsV m g).set a (.map b) = mapsV m fun i => if i = a then b else g i := by
  apply List.ext_getElem?
  intro j
  by_cases hj : j = a
  · subst hj
    rw [List.getElem?_set_self (by rw [mapsV_len]; exact h), mapsV_get h, if_pos rfl]
  · rw [List.getElem?_set_ne (fun e => hj e.symm)]
    by_cases hl : j < m
    · rw [mapsV_get hl, mapsV_get hl, if_neg hj]
    · rw [List.getElem?_eq_none (by rw [mapsV_len]; omega), List.getElem?_eq_none (by rw [mapsV_len]; omega)]
theorem wf_lit {y n : Int} (h : litValid y n = true) : (Lit.int .i64 y).wf = true := by
  have := (litValid_iff _ _).1 h
  have h1 : IntKind.i64.min = -9223372036854775808 := by decide
  have h2 : IntKind.i64.max = 9223372036854775807 := by decide
  show (decide (IntKind.i64.min ≤ y) && decide (y ≤ IntKind.i64.max)) = true
  rw [Bool.and_eq_true, decide_eq_true_eq, decide_eq_true_eq, h1, h2]
  omega
theorem wf_small {y : Int} (h1 : -128 ≤ y) (h2 : y ≤ 128) : (Lit.int .i64 y).wf = true := by
  have e1 : IntKind.i64.min = -9223372036854775808 := by decide
  have e2 : IntKind.i64.max = 9223372036854775807 := by decide
  show (decide (IntKind.i64.min ≤ y) && decide (y ≤ IntKind.i64.max)) = true
  rw [Bool.and_eq_true, decide_eq_true_eq, decide_eq_true_eq, e1, e2]
  omega
def upK (k : Nat) : Nat → Nat := fun i => if i < k then i else 0
theorem upK_succ (m k : Nat) : (upV m fun i => if i = k then k else upK k i) = upV m (upK (k + 1)) := by
  congr 1; funext i; unfold upK; split <;> split <;> (try split) <;> omega
/-- The table of maps, of which the first k are filled. -/
structure FolTab (w : World) (F base n : Nat) (ll : List (List Int)) (k : Nat) (g : Nat → Option Nat) : Prop where
  tab : OwnB w F (mapsV (2 * n + 1) g) 69
  old : ∀ j, j < k → FolAt w base (g j) (folL n ll j)
  new : ∀ j, k ≤ j → g j = none
theorem FolTab.grown {w w' : World} {F base n : Nat} {ll : List (List Int)} {k : Nat} {g : Nat → Option Nat} {U : Nat} (h : FolTab w F base n ll k g) (hg : w.grownBy w' (some U)) (h1 : F ≠ U) (h2 : U < base) : FolTab w' F base n ll k g :=
  ⟨own_grown h.tab hg (by intro e; cases e; exact h1 rfl), fun j hj => (h.old j hj).step fun b b1 b2 => hg.block b b2 (by intro e; cases e; omega), h.new⟩
/-- The state while links are made. -/
structure EqSt (w2 w : World) (U n : Nat) (ll : List (List Int)) (g : Nat → Option Nat) (A B : Int) : Prop where
  link : ∃ up R, Forest (2 * n + 1) up R ∧ LinkAt w (U + 1) U n up ∧ SoundR n ll R ∧ DoneR n ll R A B
  fol : FolTab w (U + 1 + 1) (U + 3) n ll (2 * n + 1) g
  ex : Ex w2 w
  size : U + 3 ≤ w.heap.size
theorem EqSt.of {w2 w : World} {U n : Nat} {ll : List (List Int)} {g : Nat → Option Nat} {A B A' B' : Int} (h : EqSt w2 w U n ll g A B) (hd : ∀ R, DoneR n ll R A B → DoneR n ll R A' B') : EqSt w2 w U n ll g A' B' := by
  obtain ⟨⟨up, R, h1, h2, h3, h4⟩, h5, h6, h7⟩ := h
  exact ⟨⟨up, R, h1, h2, h3, hd R h4⟩, h5, h6, h7⟩
theorem Try.infoMapI : (Try.prog.info? 69).map (fun i => (i.zero, i.size, i.bytes)) = some (some (.map none), 1, 8) := by kernel_rfl
theorem run_make_up (n : Nat) (hn : n ≤ 128) (w : World) : (Instr.makeSlice 25 (.int .i64 (2 * (n : Int) + 1)) (.int .i64 (2 * (n : Int) + 1))).run Try.prog w = .ok (.slice (some ⟨w.heap.size, 0, none⟩) (2 * n + 1) (2 * n + 1)) (w.alloc (.cells (upV (2 * n + 1) (upK 0)).toArray 3)) := by
  obtain ⟨i0, hi, hz0, hz1, hz2⟩ := info_parts Try.infoInt
  have hr := run_make (P := Try.prog) w 25 3 i0 (.int .i64 0) Try.underlying25 hi hz0 .i64 .i64 (2 * (n : Int) + 1) (2 * (n : Int) + 1) (by omega) (Int.le_refl _) (by rw [hz2]; omega) (by omega)
  rw [hr, hz1]
  have e : (2 * (n : Int) + 1).toNat = 2 * n + 1 := by omega
  rw [e, Nat.mul_one]
  have : madeCells (Value.cells (.int .i64 0)) (2 * n + 1) = (upV (2 * n + 1) (upK 0)).toArray := by
    apply Array.ext'
    rw [show Value.cells (.int .i64 0) = #[.int .i64 0] from rfl, toList_madeCells_one]
    unfold upV upK
    simp only [Nat.not_lt_zero, if_false]
    rw [List.map_const', List.length_range]; rfl
  rw [this]
theorem run_make_maps (n : Nat) (hn : n ≤ 128) (w : World) : (Instr.makeSlice 68 (.int .i64 (2 * (n : Int) + 1)) (.int .i64 (2 * (n : Int) + 1))).run Try.prog w = .ok (.slice (some ⟨w.heap.size, 0, none⟩) (2 * n + 1) (2 * n + 1)) (w.alloc (.cells (mapsV (2 * n + 1) fun _ => none).toArray 69)) := by
  obtain ⟨i0, hi, hz0, hz1, hz2⟩ := info_parts Try.infoMapI
  have hr := run_make (P := Try.prog) w 68 69 i0 (.map none) Try.underlying68 hi hz0 .i64 .i64 (2 * (n : Int) + 1) (2 * (n : Int) + 1) (by omega) (Int.le_refl _) (by rw [hz2]; omega) (by omega)
  rw [hr, hz1]
  have e : (2 * (n : Int) + 1).toNat = 2 * n + 1 := by omega
  rw [e, Nat.mul_one]
  have : madeCells (Value.cells (.map none)) (2 * n + 1) = (mapsV (2 * n + 1) fun _ => none).toArray := by
    apply Array.ext'
    rw [show Value.cells (.map none) = #[.map none] from rfl, toList_madeCells_one]
    unfold mapsV
    rw [List.map_const', List.length_range]
  rw [this]
set_option maxRecDepth 100000 in
set_option maxHeartbeats 4000000 in
theorem Equal_bad (n : Int) (lv : Value) (ll : List (List Int)) (w : World) (hR : RowsAt w lv ll) (he : theoryErr n ll ≠ 0) :
    Calls Try.prog 28 #[.agg #[.int .i64 n, lv]] w (EqRet w [] (theoryErr n ll)) := by
  have HCk : Hid (∀ wa, Ex w wa → Calls Try.prog 33 #[.agg #[.int .i64 n, lv]] wa fun e w' => e = .returned (.int .i64 (theoryErr n ll)) ∧ Ex wa w') := fun wa hx => theoryCheck_any n lv ll wa (hR.ex hx)
  obtain ⟨ra, rcap, rfl, _, _, r3⟩ := hR
  have hxa := Ex.alloc w (.cells #[.int .i64 n, .slice ra ll.length rcap] 24)
  have he' : (theoryErr n ll != 0) = true := by simp [he]
  clear r3 he
  generalize theoryErr n ll = ER at *
  go_enter Try.func28, Try.ntmps28
  go_wp2_with fail
  refine (HCk.out _ hxa).mono ?_
  rintro e w2 ⟨rfl, hx2⟩
  go_wp2
  refine bodyPost_ret (v := .tuple #[.slice none 0 0, .int .i64 ER]) (by simp [results, Try.results28, go_sem]) rfl ?_
  exact ⟨_, rfl, OwnI.nil _ _, hxa.trans hx2⟩
set_option maxRecDepth 100000 in
set_option maxHeartbeats 4000000 in
theorem Equal_ok (n : Nat) (lv : Value) (ll : List (List Int)) (w : World) (hR : RowsAt w lv ll) (he : theoryErr n ll = 0) :
    Calls Try.prog 28 #[.agg #[.int .i64 n, lv]] w (EqRet w (eqL n ll n) 0) := by
  have hn : n ≤ 128 := by have := (theoryErr_zero he).2.1; omega
  have HCk : Hid (∀ wa, Ex w wa → Calls Try.prog 33 #[.agg #[.int .i64 n, lv]] wa fun e w' => e = .returned (.int .i64 0) ∧ Ex wa w') := fun wa hx => he ▸ theoryCheck_any n lv ll wa (hR.ex hx)
  have HCl : Hid (∀ wa av (l : List Int), Ex w wa → IntsAt wa av l → Calls Try.prog 30 #[.agg #[.int .i64 n, lv], av] wa (TermRet wa (closL n ll l) (closB n ll l))) := fun wa av l hx h => unitClosure_any n lv av ll l wa (hR.ex hx) h
  obtain ⟨ra, rcap, rfl, _, _, r3⟩ := hR
  have hbox := OwnB.new w [.int .i64 n, .slice ra ll.length rcap] 24
  have hxa := Ex.alloc w (.cells #[.int .i64 n, .slice ra ll.length rcap] 24)
  clear r3
  have hw1 : IntKind.i64.wrap (2 * (n : Int)) = 2 * (n : Int) := IntWalk.i64_in _ (by omega)
  have hw2 : IntKind.i64.wrap (2 * (n : Int) + 1) = 2 * (n : Int) + 1 := IntWalk.i64_in _ (by omega)
  have hz : (2 * (n : Int) + 1).toNat = 2 * n + 1 := by omega
  go_enter Try.func28, Try.ntmps28
  go_wp2_with fail
  refine (HCk.out _ hxa).mono ?_
  rintro e w2 ⟨rfl, hx2⟩
  have c0 := (hbox.ex hx2).cell 0
  have c1 := (hbox.ex hx2).cell 1
  have z2 := (hbox.ex hx2).lt
  clear HCk
  have hmk1 := run_make_up n hn
  have hmk2 := run_make_maps n hn
  go_wp2
  clear hmk1 hmk2 c0 c1 z2 hw1 hw2 hz
  have oU := OwnB.new w2 (upV (2 * n + 1) (upK 0)) 3
  have oX := OwnB.new (w2.alloc (.cells (upV (2 * n + 1) (upK 0)).toArray 3)) [.int .i64 n, .slice (some ⟨w2.heap.size, 0, none⟩) (2 * n + 1) (2 * n + 1)] 67
  have oF := OwnB.new ((w2.alloc (.cells (upV (2 * n + 1) (upK 0)).toArray 3)).alloc (.cells #[.int .i64 n, .slice (some ⟨w2.heap.size, 0, none⟩) (2 * n + 1) (2 * n + 1)] 67)) (mapsV (2 * n + 1) fun _ => none) 69
  simp only [alloc_size] at oX oF
  replace oU := (oU.ex (Ex.alloc _ (.cells #[.int .i64 n, .slice (some ⟨w2.heap.size, 0, none⟩) (2 * n + 1) (2 * n + 1)] 67))).ex (Ex.alloc _ (.cells (mapsV (2 * n + 1) fun _ => none).toArray 69))
  replace oX := oX.ex (Ex.alloc _ (.cells (mapsV (2 * n + 1) fun _ => none).toArray 69))
  have hx3 : Ex w2 _ := Ex.refl w2 |>.alloc' (.cells (upV (2 * n + 1) (upK 0)).toArray 3) |>.alloc' (.cells #[.int .i64 n, .slice (some ⟨w2.heap.size, 0, none⟩) (2 * n + 1) (2 * n + 1)] 67) |>.alloc' (.cells (mapsV (2 * n + 1) fun _ => none).toArray 69)
  have hxw2 : Ex w w2 := hxa.trans hx2
  have hbx := hbox.ex hx2
  clear hbox hx2
  have hsz3 : (((w2.alloc (.cells (upV (2 * n + 1) (upK 0)).toArray 3)).alloc (.cells #[.int .i64 n, .slice (some ⟨w2.heap.size, 0, none⟩) (2 * n + 1) (2 * n + 1)] 67)).alloc (.cells (mapsV (2 * n + 1) fun _ => none).toArray 69)).heap.size = w2.heap.size + 3 := by simp only [alloc_size]
  generalize ((w2.alloc (.cells (upV (2 * n + 1) (upK 0)).toArray 3)).alloc (.cells #[.int .i64 n, .slice (some ⟨w2.heap.size, 0, none⟩) (2 * n + 1) (2 * n + 1)] 67)).alloc (.cells (mapsV (2 * n + 1) fun _ => none).toArray 69) = w3 at *
  have hU0 := hxw2.size
  obtain ⟨U, hUe⟩ : ∃ U, U = w2.heap.size := ⟨_, rfl⟩
  rw [← hUe] at oU oX oF hsz3 ⊢
  have HUe : Hid _ := hUe
  clear hUe
  go_loopw [8] (fun lw wr => ∃ k : Nat, k ≤ 2 * n + 1 ∧ lw = .int .i64 ((k : Int) - n) ∧ OwnB wr U (upV (2 * n + 1) (upK k)) 3 ∧ OwnB wr (U + 1) [.int .i64 n, .slice (some ⟨U, 0, none⟩) (2 * n + 1) (2 * n + 1)] 67 ∧ (∃ g, FolTab wr (U + 1 + 1) (U + 3) n ll k g) ∧ Ex w2 wr ∧ U + 3 ≤ wr.heap.size) (fun lw _ => (n + 1 - intOf lw).toNat)
  case atStart => exact ⟨0, Nat.zero_le _, by simp, oU, oX, ⟨_, oF, fun j hj => by omega, fun _ _ => rfl⟩, hx3, by omega⟩
  case round =>
    clear oU oX oF hx3 hsz3
    obtain ⟨k, hk, rfl, oU, oX, ⟨g, hF⟩, hxr, hsz⟩ := hrel
    have oT := hbx.ex hxr
    by_cases hlt : k < 2 * n + 1
    · obtain ⟨l, hl⟩ : ∃ l : Int, l = (k : Int) - n := ⟨_, rfl⟩
      rw [← hl]
      have q1 : l ≤ (n : Int) := by omega
      have q0 : -(n : Int) ≤ l := by omega
      have hwk : IntKind.i64.wrap (l + (n : Int)) = (k : Int) := by rw [show l + (n : Int) = k by omega]; exact IntWalk.i64_in _ (by omega)
      have hlk : l + (n : Int) = (k : Int) := by omega
      have HLk : Hid (l = (k : Int) - n) := hl
      have cX1 := oX.cell 1
      have zX := oX.lt
      have cU := oU.cell k
      rw [upV_get hlt] at cU
      have fU := oU.free k
      have zU := oU.lt
      have q2 : (k : Int) < 2 * (n : Int) + 1 := by omega
      have q3 : (0 : Int) ≤ (k : Int) := by omega
      have hwn : w.heap.size < U := by rw [HUe.out]; exact hbx.lt
      have oUs := oU.set k (.int .i64 k)
      rw [upV_set hlt, upK_succ] at oUs
      have oXs := oX.set_other (c := U) k (.int .i64 k) (by omega)
      have oTs := oT.set_other (c := U) k (.int .i64 k) (by omega)
      have hFs : FolTab (wr.setCell ⟨U, k, none⟩ (.int .i64 k)) (U + 1 + 1) (U + 3) n ll k g := ⟨hF.tab.set_other k (.int .i64 k) (by omega), fun j hj => (hF.old j hj).step fun b h1 h2 => Below.heap_setCell _ _ _ _ (show b ≠ U by omega), hF.new⟩
      have hxs : Ex w2 (wr.setCell ⟨U, k, none⟩ (.int .i64 k)) := hxr.setCell (by rw [HUe.out]; exact Nat.le_refl _) _
      have hss : (wr.setCell ⟨U, k, none⟩ (.int .i64 k)).heap.size = wr.heap.size := by simp [World.setCell]
      clear oU oX oT hF hxr
      by_cases h0 : l = 0
      · have hl0 : (l == 0) = true := by simp [h0]
        have hfol : folL n ll k = [] := by
          unfold folL closL
          rw [← HLk.out, h0]
          have : closB n ll [0] = false := by
            rw [Bool.eq_false_iff]
            intro h
            have := (askB_iff.1 (closB_ask h)).2 0 (by simp)
            rw [litValid_iff] at this
            exact this.1 rfl
          rw [this]; rfl
        go_wp2
        go_roundw
        case rel => exact ⟨k + 1, by omega, by first | (rw [HLk.out]; go_num) | go_num, oUs, oXs, ⟨g, hFs.tab, fun j hj => by
          by_cases e : j = k
          · subst e; rw [hFs.new j (Nat.le_refl _)]; exact hfol
          · exact hFs.old j (by omega), fun j hj => hFs.new j (by omega)⟩, hxs, by rw [hss]; exact hsz⟩
        case measure => have := HLk.out; simp [intOf]; omega
      · clear hl
        have hl0 : (l == 0) = false := by simp [h0]
        have c0 := oTs.cell 0
        have c1 := oTs.cell 1
        have z2 := oTs.lt
        go_wp2_with fail
        generalize wr.setCell ⟨U, k, none⟩ (.int .i64 k) = ws at *
        have hI := intsAt_fresh ws l 3
        rw [hss] at hI
        have hCl := HCl.out (ws.alloc (.cells #[.int .i64 l] 3)) _ [l] ((hxw2.trans hxs).alloc' _) hI
        have hfd : folL n ll k = closL n ll [l] := by unfold folL; rw [← HLk.out]
        have hcN : closB n ll [l] = false → closL n ll [l] = [] := fun h => by unfold closL; rw [h]; rfl
        have hcV : closB n ll [l] = true → ∀ x ∈ closL n ll [l], litValid x n = true := fun h x hx => clos_valid h hx
        have hcL : (closL n ll [l]).length ≤ 256 := closL_len
        generalize closL n ll [l] = CL at *
        generalize closB n ll [l] = CB at *
        have HCl' : Hid _ := hCl
        clear hCl hI c0 c1 z2
        cases CB with
        | false =>
          obtain rfl := hcN rfl
          refine Calls.mono HCl'.out ?_
          rintro e w4 ⟨v4, rfl, hO4, hx4⟩
          have hx4' : Ex ws w4 := (Ex.alloc _ _).trans hx4
          have hs4 := hx4'.size
          clear HCl' hcN hcV
          go_wp2
          go_roundw
          case rel => exact ⟨k + 1, by omega, by rw [HLk.out]; go_num, oUs.ex hx4', oXs.ex hx4', ⟨g, hFs.tab.ex hx4', fun j hj => by
            by_cases e : j = k
            · subst e; rw [hFs.new j (Nat.le_refl _)]; exact hfd
            · exact (hFs.old j (by omega)).step fun b h1 h2 => hx4'.block b h2, fun j hj => hFs.new j (by omega)⟩, hxs.trans hx4', by omega⟩
          case measure => have := HLk.out; simp [intOf]; omega
        | true =>
          refine Calls.mono HCl'.out ?_
          rintro e w4 ⟨v4, rfl, hO4, hx4⟩
          have hx4' : Ex ws w4 := (Ex.alloc _ _).trans hx4
          have hs4 := hx4'.size
          have hO4' : OwnI w4 (U + 3) v4 CL := hO4.base (by simp; omega)
          clear HCl' hcN hO4 hx4
          have hv4 := hO4'.ints
          obtain ⟨pa, pc, rfl, hp1, hp2, _⟩ := hv4
          have oF4 := (hFs.tab.ex hx4').ex (Ex.alloc w4 (.map #[] 0))
          have cF := oF4.cell k
          rw [mapsV_get hlt] at cF
          have fF := oF4.free k
          have zF := oF4.lt
          have hmm := @run_makeMap Try.prog
          go_wp2
          have hM6 : MapI ((w4.alloc (.map #[] 0)).setCell ⟨U + 1 + 1, k, none⟩ (.map (some w4.heap.size))) w4.heap.size 0 [] := (MapI.made w4).setCell (by show w4.heap.size ≠ U + 1 + 1; omega) _
          have oF6 := oF4.set k (.map (some w4.heap.size))
          rw [mapsV_set hlt] at oF6
          have oU6 := ((oUs.ex hx4').ex (Ex.alloc w4 (.map #[] 0))).set_other (c := U + 1 + 1) k (.map (some w4.heap.size)) (by omega)
          have oX6 := ((oXs.ex hx4').ex (Ex.alloc w4 (.map #[] 0))).set_other (c := U + 1 + 1) k (.map (some w4.heap.size)) (by omega)
          have hO6 := (hO4'.ex (Ex.alloc w4 (.map #[] 0))).setOther (b := U + 1 + 1) (by omega) k (.map (some w4.heap.size))
          have hx6 : Ex w2 ((w4.alloc (.map #[] 0)).setCell ⟨U + 1 + 1, k, none⟩ (.map (some w4.heap.size))) := ((hxs.trans hx4').alloc' _).setCell (by show w2.heap.size ≤ U + 1 + 1; have := HUe.out; omega) _
          have hold : ∀ b, U + 3 ≤ b → b < ws.heap.size → ((w4.alloc (.map #[] 0)).setCell ⟨U + 1 + 1, k, none⟩ (.map (some w4.heap.size))).heap[b]? = ws.heap[b]? := fun b h1 h2 => by
            rw [Below.heap_setCell _ _ _ _ (show b ≠ U + 1 + 1 by omega)]
            exact (hx4'.trans (Ex.alloc w4 (.map #[] 0))).block b h2
          have hs6 : ((w4.alloc (.map #[] 0)).setCell ⟨U + 1 + 1, k, none⟩ (.map (some w4.heap.size))).heap.size = w4.heap.size + 1 := by simp [World.setCell]
          have hblk : (Value.slice pa CL.length pc).ownBlock ≠ some w4.heap.size := by
            rcases hO4'.2 with ⟨hn, _⟩ | ⟨g0, c0, _, hg0, _, hcell, _⟩
            · rw [hn]; simp [Value.ownBlock]
            · have := (Array.getElem?_eq_some_iff.1 hcell).1
              rw [hg0]; simp only [Value.ownBlock, ne_eq, Option.some.injEq]; omega
          have hold' := hFs.old
          have hnew' := hFs.new
          clear oF4 cF fF zF hO4' hx4' hFs oUs oXs oTs hxs hmm HCl
          generalize (w4.alloc (.map #[] 0)).setCell ⟨U + 1 + 1, k, none⟩ (.map (some w4.heap.size)) = w6 at *
          generalize w4.heap.size = b at *
          go_loopw [71] (fun iw wq => ∃ m : Nat, m ≤ CL.length ∧ iw = .int .i64 m ∧ MapI wq b m (CL.take m) ∧ w6.grownBy wq (some b)) (fun iw _ => CL.length - (intOf iw).toNat)
          case atStart => exact ⟨0, Nat.zero_le _, rfl, hM6, World.grownBy.refl _ _⟩
          case round =>
            obtain ⟨m, hm, rfl, hM, hg⟩ := hrel
            have hOr : OwnI wr (U + 3) (.slice pa CL.length pc) CL := World.ownsRow.kept hO6 hg (.inr hblk)
            have oFr := own_grown oF6 hg (by intro h; cases h; omega)
            have cF := oFr.cell k
            rw [mapsV_get hlt, if_pos rfl] at cF
            have zF := oFr.lt
            by_cases hml : m < CL.length
            · obtain ⟨_, _, hv, _, _, h3⟩ := hOr.ints
              cases hv
              obtain ⟨eb, eo, rfl, hb3, hc3⟩ := h3 m hml
              clear h3
              have hwf := wf_lit (hcV (by trivial) (CL.getD m 0) (by rw [getD_getElem hml]; exact List.getElem_mem hml))
              have hts : Hid (CL.take m ++ [CL.getD m 0] = CL.take (m + 1)) := by show _ = _; rw [List.take_succ_eq_append_getElem hml, getD_getElem hml]
              have q5 : (m : Int) < (CL.length : Int) := by omega
              clear hcV hold hold' hnew' hfd
              generalize CL.getD m 0 = y at *
              go_wp2_with (at_mapUpdate; refine wpList_store_mapI _ rfl _ _ _ rfl b m (CL.take m) y rfl hM (by unfold maxLen; omega) rfl rfl hwf ?_; intro w7 hM7 hg7)
              rw [hts.out] at hM7
              go_roundw
              case rel => exact ⟨m + 1, by omega, by go_num, hM7, hg.trans hg7⟩
              case measure => simp [intOf]; omega
            · obtain rfl : m = CL.length := by omega
              rw [List.take_length] at hM
              have hsr := hg.size
              have hfin : ∃ g', FolTab wr (U + 1 + 1) (U + 3) n ll (k + 1) g' := ⟨_, oFr, fun j hj => by
                by_cases e : j = k
                · subst e; rw [if_pos rfl]; exact ⟨by omega, _, hfd ▸ hM⟩
                · rw [if_neg e]
                  refine (hold' j (by omega)).step fun b' h1 h2 => ?_
                  rw [hg.block b' (by omega) (by intro h; cases h; omega)]
                  exact hold b' h1 h2, fun j hj => by rw [if_neg (by omega)]; exact hnew' j (by omega)⟩
              have oUr := own_grown oU6 hg (by intro h; cases h; omega)
              have oXr := own_grown oX6 hg (by intro h; cases h; omega)
              have hxr : Ex w2 wr := grown_ex hx6 hg (by intro k hk; cases hk; have := HUe.out; omega)
              clear hold hold' hnew' hfd hcV oF6 oFr cF hM hO6 hOr hg oU6 oX6
              go_wp2
              go_roundw
              case rel => exact ⟨k + 1, by omega, by rw [HLk.out]; go_num, oUr, oXr, hfin, hxr, by omega⟩
              case measure => have := HLk.out; simp [intOf]; omega
    · obtain ⟨l8, hl8⟩ : ∃ l8 : Int, l8 = (k : Int) - n := ⟨_, rfl⟩
      rw [← hl8]
      have h8 : ¬ (l8 ≤ (n : Int)) := by omega
      clear hl8
      obtain rfl : k = 2 * n + 1 := by omega
      have hSt : EqSt w2 wr U n ll g (-(n : Int)) (-(n : Int)) := ⟨⟨upK (2 * n + 1), id, Forest.start fun i hi => by unfold upK; rw [if_pos hi], ⟨oX, oU⟩, sound_start, done_start⟩, hF, hxr, hsz⟩
      clear oU oX hF hxr hsz oT HCl hbx hlt hk
      have hU2 : Hid (U = w2.heap.size) := HUe
      go_wp2
      go_loopw [13] (fun av wq => ∃ a : Int, -(n : Int) ≤ a ∧ a ≤ n + 1 ∧ av = .int .i64 a ∧ EqSt w2 wq U n ll g a (-(n : Int))) (fun av _ => (n + 1 - intOf av).toNat)
      case atStart => exact ⟨-(n : Int), Int.le_refl _, by omega, rfl, hSt⟩
      case round =>
        clear hSt
        obtain ⟨a, a1, a2, rfl, hSt⟩ := hrel
        by_cases hlt : a ≤ (n : Int)
        · have hwa : IntKind.i64.wrap (a + 1) = a + 1 := IntWalk.i64_in _ (by omega)
          go_wp2
          go_loopw [14] (fun bv wq => ∃ b : Int, -(n : Int) ≤ b ∧ (b ≤ a ∨ b = -(n : Int)) ∧ bv = .int .i64 b ∧ EqSt w2 wq U n ll g a b) (fun bv _ => (n + 1 - intOf bv).toNat)
          case atStart => exact ⟨-(n : Int), Int.le_refl _, .inr rfl, rfl, hSt⟩
          case round =>
            clear hSt
            obtain ⟨b, b1, b2, rfl, hSt⟩ := hrel
            by_cases hltb : b < a
            · have hwb : IntKind.i64.wrap (b + 1) = b + 1 := IntWalk.i64_in _ (by omega)
              obtain ⟨ia, hia⟩ : ∃ ia : Nat, (ia : Int) = a + n := ⟨(a + n).toNat, by omega⟩
              obtain ⟨ib, hib⟩ : ∃ ib : Nat, (ib : Int) = b + n := ⟨(b + n).toNat, by omega⟩
              have hwia : IntKind.i64.wrap (a + n) = ia := by rw [← hia]; exact IntWalk.i64_in _ (by omega)
              have hwib : IntKind.i64.wrap (b + n) = ib := by rw [← hib]; exact IntWalk.i64_in _ (by omega)
              have la : ia < 2 * n + 1 := by omega
              have lb : ib < 2 * n + 1 := by omega
              have ca := hSt.fol.tab.cell ia
              have cb := hSt.fol.tab.cell ib
              rw [mapsV_get la] at ca
              rw [mapsV_get lb] at cb
              have zF := hSt.fol.tab.lt
              have ka := (hSt.fol.old ia la).look (x := b) (wf_small (by omega) (by omega))
              have kb := (hSt.fol.old ib lb).look (x := a) (wf_small (by omega) (by omega))
              have hmf : mutB n ll a b = ((folL n ll ia).contains b && (folL n ll ib).contains a) := by
                unfold folL; rw [show (ia : Int) - n = a by omega, show (ib : Int) - n = b by omega]; exact mut_fol
              have q1 : (ia : Int) < 2 * (n : Int) + 1 := by omega
              have q2 : (ib : Int) < 2 * (n : Int) + 1 := by omega
              have q3 : (0 : Int) ≤ (ia : Int) := by omega
              have q4 : (0 : Int) ≤ (ib : Int) := by omega
              have HSt : Hid (EqSt w2 wr U n ll g a b) := hSt
              clear hSt hia hib
              generalize (folL n ll ia).contains b = B1 at *
              generalize (folL n ll ib).contains a = B2 at *
              generalize g ia = ga at *
              generalize g ib = gb at *
              have HMf : Hid _ := hmf
              clear hmf
              cases B1 with
              | false =>
                have hmf : mutB n ll a b = false := HMf.out
                go_wp2
                go_roundw
                case rel => exact ⟨b + 1, by omega, .inl (by omega), by go_num, HSt.out.of fun R h => done_skip h hmf⟩
                case measure => simp [intOf]; omega
              | true =>
                cases B2 with
                | false =>
                  have hmf : mutB n ll a b = false := HMf.out
                  go_wp2
                  go_roundw
                  case rel => exact ⟨b + 1, by omega, .inl (by omega), by go_num, HSt.out.of fun R h => done_skip h hmf⟩
                  case measure => simp [intOf]; omega
                | true =>
                  have hmf : Hid (mutB n ll a b = true) := HMf.out
                  obtain ⟨⟨up, R, h1, h2, h3, h4⟩, h5, h6, h7⟩ := HSt.out
                  have HL : Hid _ := linksLink_any (U + 1) U n up R wr h2 h1 hn a1 (by omega) b1 (by omega)
                  have h2' : Hid _ := h2
                  have h3' : Hid _ := h3
                  have h4' : Hid _ := h4
                  have h5' : Hid _ := h5
                  have h6' : Hid _ := h6
                  clear h1 h2 h3 h4 h5 h6 HSt HMf
                  go_wp2_with fail
                  refine Calls.mono HL.out ?_
                  rintro e w7 ⟨rfl, ⟨up', k1, k2⟩, hg⟩
                  have hSt7 : EqSt w2 w7 U n ll g a (b + 1) := ⟨⟨up', _, k1, k2, sound_link h3'.out a1 (by omega) b1 (by omega) hmf.out, done_link h4'.out⟩, h5'.out.grown hg (by omega) (by omega), grown_ex h6'.out hg (by intro k hk; cases hk; have := hU2.out; omega), by have := hg.size; omega⟩
                  clear k1 k2 hg h2' h3' h4' h5' h6' HL
                  go_wp2
                  go_roundw
                  case rel => exact ⟨b + 1, by omega, .inl (by omega), by go_num, hSt7⟩
                  case measure => simp [intOf]; omega
            · have hS2 : EqSt w2 wr U n ll g (a + 1) (-(n : Int)) := by
                have e : b = a := by omega
                subst e
                exact hSt.of fun R h => done_next h
              clear hSt
              go_wp2
              go_roundw
              case rel => exact ⟨a + 1, by omega, by omega, by go_num, hS2⟩
              case measure => simp [intOf]; omega
        · obtain rfl : a = (n : Int) + 1 := by omega
          obtain ⟨⟨up, R, h1, h2, h3, h4⟩, h5, h6, h7⟩ := hSt
          have HLe : Hid (∀ wa (v : Int), Ex wr wa → 1 ≤ v → v ≤ n → Calls Try.prog 55 #[.pointer (some ⟨U + 1, 0, none⟩), .int .i64 v] wa fun e w' => e = .returned (.int .i64 (eqV n ll v)) ∧ wa = w') := fun wa v hx v1 v2 => by
            have := linksLeast_any (U + 1) U n up R wa (h2.ex hx) h1 hn v1 v2
            rwa [least_eqV h3 h4 v1 v2] at this
          have HLn : Hid (∀ m, (eqL n ll m).length = m) := eqL_len n ll
          have HLs : Hid (∀ m, eqL n ll (m + 1) = eqL n ll m ++ [eqV n ll ((m : Int) + 1)]) := eqL_succ n ll
          have hxa2 : Ex w wr := hxw2.trans h6
          clear h1 h2 h3 h4 h5 h6
          go_wp2
          go_loopw [15, 16] (fun out vv wq => ∃ m : Nat, m ≤ n ∧ vv = .int .i64 ((m : Int) + 1) ∧ OwnI wq wr.heap.size out (eqL n ll m) ∧ Ex wr wq) (fun _ vv _ => (n + 1 - intOf vv).toNat)
          case atStart => exact ⟨0, Nat.zero_le _, rfl, OwnI.nil _ _, Ex.refl _⟩
          case round =>
            obtain ⟨m, hm, rfl, hO, hxr⟩ := hrel
            have hsr := hxr.size
            by_cases hltm : m < n
            · have HC := HLe.out wr ((m : Int) + 1) hxr (by omega) (by omega)
              have HLs2 : Hid (eqL n ll (m + 1) = eqL n ll m ++ [eqV n ll ((m : Int) + 1)]) := HLs.out m
              have hlen : Hid ((eqL n ll m).length = m) := HLn.out m
              obtain ⟨vv, hvv⟩ : ∃ vv : Int, vv = (m : Int) + 1 := ⟨_, rfl⟩
              have HV : Hid _ := hvv
              have q1 : vv ≤ (n : Int) := by omega
              have q2 : 1 ≤ vv := by omega
              rw [← hvv] at HC HLs2 ⊢
              have HC' : Hid _ := HC
              clear hvv HC HLe HLn HLs
              generalize eqV n ll vv = ev at *
              go_wp2_with fail
              refine Calls.mono HC'.out ?_
              rintro e w7 ⟨rfl, rfl⟩
              have hI := intsAt_fresh wr ev 3
              go_wp2_with (at_builtin; refine wpList_append_ints rfl (.tmp 124) (.tmp 128) rfl rfl rfl (hO.ex (Ex.alloc _ _)) hI ?c1 ?c2 ?_)
              case c1 => rw [hlen.out]; simp only [List.length_cons, List.length_nil]; omega
              case c2 => rw [alloc_size]; omega
              intro v8 w8 hown hg
              have hx8 := grown_ex (hxr.alloc' _) hg (ownsRow_block hO)
              rw [← HLs2.out] at hown
              clear hI hg HC' hO
              go_wp2
              go_roundw
              case rel => exact ⟨m + 1, by omega, by rw [HV.out]; go_num, hown, hx8⟩
              case measure => have := HV.out; simp [intOf]; omega
            · obtain rfl : m = n := by omega
              clear HLe HLn HLs
              go_wp2
              go_ret2
              exact ⟨_, rfl, hO.base hxa2.size, hxa2.trans hxr⟩
end Go.Proofs.Ytnhlfhoeglnajaa
