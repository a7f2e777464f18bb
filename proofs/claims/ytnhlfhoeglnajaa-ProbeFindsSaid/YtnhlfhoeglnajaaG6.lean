/- Texts of this claim, joined: Links, Links2, Links3, EqualR. No condition. -/
import Derived.Test.YtnhlfhoeglnajaaG1
import Derived.Test.YtnhlfhoeglnajaaScope
import Derived.Test.YtnhlfhoeglnajaaG2
import Derived.Deep.RegionLaw
import Derived.Deep.RegionHeld3
import Derived.Maps.AppendAt
/- The links of equal literals: root, link, least. No condition but that the table is a forest. -/
namespace Go.Proofs.Ytnhlfhoeglnajaa
set_option linter.unusedSimpArgs false
set_option linter.unusedVariables false
open Go.RowKit
set_option maxRecDepth 20000
theorem RootIn.one {up : Nat → Nat} : ∀ {k k' i r r' : Nat}, RootIn up k i r → RootIn up k' i r' → k = k' ∧ r = r'
  | 0, 0, _, _, _, h, h' => ⟨rfl, h.2.trans h'.2.symm⟩
  | 0, _ + 1, _, _, _, h, h' => absurd h.1 h'.1
  | _ + 1, 0, _, _, _, h, h' => absurd h'.1 h.1
  | _ + 1, _ + 1, _, _, _, h, h' => by
    obtain ⟨e1, e2⟩ := RootIn.one h.2 h'.2
    exact ⟨by omega, e2⟩
/-- How far a root is. -/
noncomputable def farN (up : Nat → Nat) (r i : Nat) : Nat := leastG fun k => RootIn up k i r
theorem farN_of {up : Nat → Nat} {k i r : Nat} (h : RootIn up k i r) : farN up r i = k := (leastG_spec (p := fun k => RootIn up k i r) ⟨k, h⟩).one h |>.1
def upV (m : Nat) (up : Nat → Nat) : List Value := (List.range m).map fun i => .int .i64 (up i)
theorem upV_get {m : Nat} {up : Nat → Nat} {i : Nat} (h : i < m) : (upV m up)[i]? = some (.int .i64 (up i)) := by
  unfold upV; rw [List.getElem?_map, List.getElem?_range h]; rfl
theorem upV_len (m : Nat) (up : Nat → Nat) : (upV m up).length = m := by simp [upV]
theorem upV_set {m : Nat} {up : Nat → Nat} {a b : Nat} (h : a < m) : (upV m up).set a (.int .i64 b) = upV m fun i => if i = a then b else up i := by
  apply List.ext_getElem?
  intro j
  by_cases hj : j = a
  · subst hj
    rw [List.getElem?_set_self (by rw [upV_len]; exact h), upV_get h, if_pos rfl]
  · rw [List.getElem?_set_ne (fun e => hj e.symm)]
    by_cases hl : j < m
    · rw [upV_get hl, upV_get hl, if_neg hj]
    · rw [List.getElem?_eq_none (by rw [upV_len]; omega), List.getElem?_eq_none (by rw [upV_len]; omega)]
/-- The links in memory. -/
structure LinkAt (w : World) (X U n : Nat) (up : Nat → Nat) : Prop where
  box : OwnB w X [.int .i64 n, .slice (some ⟨U, 0, none⟩) (2 * n + 1) (2 * n + 1)] 67
  tab : OwnB w U (upV (2 * n + 1) up) 3
theorem LinkAt.ex {w w' : World} {X U n : Nat} {up : Nat → Nat} (h : LinkAt w X U n up) (hx : Ex w w') : LinkAt w' X U n up := ⟨h.box.ex hx, h.tab.ex hx⟩
theorem LinkAt.ne {w : World} {X U n : Nat} {up : Nat → Nat} (h : LinkAt w X U n up) : X ≠ U := by
  rintro rfl
  have h1 := h.box.cell 0
  have h2 := h.tab.cell 1
  have h3 := h.box.cell 1
  rw [h3] at h2
  cases n with
  | zero => rw [show (upV (2 * 0 + 1) up)[1]? = none from rfl] at h2; simp at h2
  | succ n => rw [upV_get (by omega)] at h2; simp at h2
set_option maxHeartbeats 1000000 in
theorem linksRoot_any (X U n : Nat) (up : Nat → Nat) (w : World) (hL : LinkAt w X U n up) (hlt : ∀ i, i < 2 * n + 1 → up i < 2 * n + 1) (hn : n ≤ 128) {k i r : Nat} (hi : i < 2 * n + 1) (hr : RootIn up k i r) :
    Calls Try.prog 79 #[.pointer (some ⟨X, 0, none⟩), .int .i64 i] w fun e w' => e = .returned (.int .i64 r) ∧ w = w' := by
  have c1 : w.cell? ⟨X, 1, none⟩ = some (.slice (some ⟨U, 0, none⟩) (2 * n + 1) (2 * n + 1)) := hL.box.cell 1
  have z1 := hL.box.lt
  have z2 := hL.tab.lt
  have HT : Hid (∀ i, i < 2 * n + 1 → w.cell? ⟨U, i, none⟩ = some (.int .i64 (up i))) := fun i h => by rw [hL.tab.cell]; exact upV_get h
  have HLt : Hid (∀ i, i < 2 * n + 1 → up i < 2 * n + 1) := hlt
  have HR : Hid (RootIn up k i r) := hr
  clear hL hlt hr
  go_enter Try.func79, Try.ntmps79
  go_wp2
  go_loop [1] (fun v => ∃ i k : Nat, i < 2 * n + 1 ∧ v = .int .i64 i ∧ Hid (RootIn up k i r)) (fun v => farN up r (intOf v).toNat)
  case atStart => exact ⟨i, k, hi, rfl, HR⟩
  case round =>
    clear HR hi
    obtain ⟨i, k, hi, rfl, hR⟩ := hrel
    have hc := HT.out i hi
    have hul := HLt.out i hi
    by_cases he : up i = i
    · have hri : Hid (r = i) := by
        cases k with
        | zero => exact hR.out.2
        | succ k => exact absurd he hR.out.1
      have he' : (((up i : Nat) : Int) != (i : Int)) = false := by simp [he]
      clear hR HT HLt he hul
      generalize up i = u at *
      go_wp2
      go_ret
      exact ⟨by rw [hri.out]; rfl, rfl⟩
    · obtain ⟨k', rfl⟩ : ∃ k', k = k' + 1 := by
        cases k with
        | zero => exact absurd hR.out.1 he
        | succ k => exact ⟨k, rfl⟩
      have hR2 : Hid (RootIn up k' (up i) r) := hR.out.2
      have hm : Hid (farN up r (up i) < farN up r i) := by show _ < _; rw [farN_of hR.out, farN_of hR.out.2]; omega
      have he' : (((up i : Nat) : Int) != (i : Int)) = true := by simpa using (by omega : ¬ ((up i : Nat) : Int) = i)
      clear hR HT HLt he
      generalize hu : up i = u at *
      clear hu
      go_wp2
      go_round
      case rel => exact ⟨u, k', hul, by go_num, hR2⟩
      case measure => simpa [intOf] using hm.out
end Go.Proofs.Ytnhlfhoeglnajaa
/- The links of equal literals: link. No condition but that the table is a forest. -/
namespace Go.Proofs.Ytnhlfhoeglnajaa
set_option linter.unusedSimpArgs false
set_option linter.unusedVariables false
open Go.RowKit
set_option maxRecDepth 20000
/-- The links, joined: old memory but the table stays. -/
def JoinRet (w : World) (X U n : Nat) (up : Nat → Nat) (e : Ending) (w' : World) : Prop := e = .returned (.tuple #[]) ∧ LinkAt w' X U n up ∧ w.grownBy w' (some U)
theorem grown_set {w : World} {U i : Nat} {v : Value} (h : U < w.heap.size) : w.grownBy (w.setCell ⟨U, i, none⟩ v) (some U) := by
  exact ⟨rfl, rfl, rfl, by simp [World.setCell], fun i hi hne => Below.heap_setCell _ _ _ i (fun e => hne (by rw [e]))⟩
theorem grown_drew {w w' : World} {r : Option Nat} (h : w.grownBy w' r) : w.grownBy w'.drew r := ⟨h.os, h.tape, h.output, h.size, h.block⟩
theorem World.cell?_drew_set {w : World} {A U i j : Nat} {v : Value} (h : A ≠ U) : (w.setCell ⟨U, i, none⟩ v).drew.cell? ⟨A, j, none⟩ = w.cell? ⟨A, j, none⟩ := by
  show (w.setCell ⟨U, i, none⟩ v).cell? ⟨A, j, none⟩ = _
  unfold World.cell?
  rw [Below.heap_setCell _ _ _ _ h]
set_option maxHeartbeats 4000000 in
theorem linksJoin_any (X U n B : Nat) (up R : Nat → Nat) (w : World) (hL : LinkAt w X U n up) (hF : Forest (2 * n + 1) up R) (hn : n ≤ 128) (hB : w.cell? ⟨B, 0, none⟩ = some (.pointer (some ⟨X, 0, none⟩))) {a b : Int} (a1 : -(n : Int) ≤ a) (a2 : a ≤ n) (b1 : -(n : Int) ≤ b) (b2 : b ≤ n) :
    Calls Try.prog 78 #[.int .i64 a, .int .i64 b, .pointer (some ⟨B, 0, none⟩)] w (JoinRet w X U n fun i => if i = R (a + n).toNat then R (b + n).toNat else up i) := by
  have la := (hF.root (a + n).toNat (by omega)).1
  have HG : Hid (∀ (wa : World) (i : Int), Ex w wa → 0 ≤ i → i < 2 * (n : Int) + 1 → Calls Try.prog 79 #[.pointer (some ⟨X, 0, none⟩), .int .i64 i] wa fun e w' => e = .returned (.int .i64 (R i.toNat)) ∧ wa = w') := fun wa i hx h0 h1 => by
    obtain ⟨k, hk⟩ := (hF.root i.toNat (by omega)).2
    have := linksRoot_any X U n up wa (hL.ex hx) hF.lt hn (by omega) hk
    rwa [show ((i.toNat : Nat) : Int) = i by omega] at this
  have HL : Hid (LinkAt w X U n up) := hL
  have c0 : w.cell? ⟨X, 0, none⟩ = some (.int .i64 n) := hL.box.cell 0
  have c1 : w.cell? ⟨X, 1, none⟩ = some (.slice (some ⟨U, 0, none⟩) (2 * n + 1) (2 * n + 1)) := hL.box.cell 1
  have z0 := hL.tab.cell (R (a + n).toNat)
  rw [upV_get la] at z0
  have z1 := hL.box.lt
  have z2 := hL.tab.lt
  have z3 := hL.tab.free (R (a + n).toNat)
  have z4 := cell_lt hB
  have la2 : (((R (a + n).toNat : Nat)) : Int) < 2 * (n : Int) + 1 := by omega
  have la3 : (0 : Int) ≤ ((R (a + n).toNat : Nat) : Int) := by omega
  have hne2 : X ≠ U := hL.ne
  have hne1 : B ≠ U := by
    rintro rfl
    have := hL.tab.cell 0
    rw [hB, upV_get (by omega)] at this
    cases this
  clear hL hF
  go_enter Try.func78, Try.ntmps78
  go_wp2
  go_region_held3 (fun w' => w'.cell? ⟨B, 0, none⟩ = some (.pointer (some ⟨X, 0, none⟩)) ∧ w'.cell? ⟨X, 0, none⟩ = some (.int .i64 n) ∧ w'.cell? ⟨X, 1, none⟩ = some (.slice (some ⟨U, 0, none⟩) (2 * n + 1) (2 * n + 1))) (first | exact ⟨hB, c0, c1⟩ | exact ⟨(World.cell?_drew_set hne1).trans hB, (World.cell?_drew_set hne2).trans c0, (World.cell?_drew_set hne2).trans c1⟩ | go_keep) ((go_at_call 79; (first | rw [show IntKind.i64.wrap (a + (n : Int)) = a + n from IntWalk.i64_in _ (by omega)] | rw [show IntKind.i64.wrap (b + (n : Int)) = b + n from IntWalk.i64_in _ (by omega)] | skip); refine (HG.out _ _ (Ex.refl _).drew (by omega) (by omega)).mono ?_; rintro e w' ⟨rfl, rfl⟩))
  all_goals go_wp2
  all_goals refine bodyPost_ret (v := .tuple #[]) (by simp [results, Try.results78, go_sem]) rfl ?_
  all_goals exact ⟨rfl, ⟨(HL.out.box.set_other _ _ hne2.symm).ex (Ex.refl _).drew, by
    have := (HL.out.tab.set (R (a + n).toNat) (.int .i64 (R (b + n).toNat))).ex (Ex.refl _).drew
    rwa [upV_set la] at this⟩, grown_drew (grown_set z2)⟩
end Go.Proofs.Ytnhlfhoeglnajaa
/- The links of equal literals: link and least. No condition but that the table is a forest. -/
namespace Go.Proofs.Ytnhlfhoeglnajaa
set_option linter.unusedSimpArgs false
set_option linter.unusedVariables false
open Go.RowKit
set_option maxRecDepth 20000
/-- The roots behind a join, and behind a link. -/
def joinR (R : Nat → Nat) (a b : Nat) : Nat → Nat := fun i => if R i = R a then R b else R i
def linkR (n : Nat) (R : Nat → Nat) (a b : Int) : Nat → Nat := joinR (joinR R (a + n).toNat (b + n).toNat) (-a + n).toNat (-b + n).toNat
theorem joinR_mono {R : Nat → Nat} {a b i j : Nat} (h : R i = R j) : joinR R a b i = joinR R a b j := by unfold joinR; rw [h]
theorem joinR_ab {R : Nat → Nat} {a b : Nat} : joinR R a b a = joinR R a b b := by unfold joinR; rw [if_pos rfl]; split <;> rfl
theorem joinR_inv {R : Nat → Nat} {a b i j : Nat} (h : joinR R a b i = joinR R a b j) : R i = R j ∨ (R i = R a ∧ R j = R b) ∨ (R i = R b ∧ R j = R a) := by
  unfold joinR at h
  split at h <;> split at h <;> rename_i h1 h2
  · exact .inl (h1.trans h2.symm)
  · exact .inr (.inl ⟨h1, h.symm⟩)
  · exact .inr (.inr ⟨h, h2⟩)
  · exact .inl h
/-- What link leaves: the table is turned, all else is as it was. -/
def LinkRet (w : World) (X U n : Nat) (R : Nat → Nat) (e : Ending) (w' : World) : Prop := e = .returned (.tuple #[]) ∧ (∃ up, Forest (2 * n + 1) up R ∧ LinkAt w' X U n up) ∧ w.grownBy w' (some U)
set_option maxHeartbeats 1000000 in
theorem linksLink_any (X U n : Nat) (up R : Nat → Nat) (w : World) (hL : LinkAt w X U n up) (hF : Forest (2 * n + 1) up R) (hn : n ≤ 128) {a b : Int} (a1 : -(n : Int) ≤ a) (a2 : a ≤ n) (b1 : -(n : Int) ≤ b) (b2 : b ≤ n) :
    Calls Try.prog 54 #[.pointer (some ⟨X, 0, none⟩), .int .i64 a, .int .i64 b] w (LinkRet w X U n (linkR n R a b)) := by
  have z2 := hL.tab.lt
  have hx := Ex.alloc w (.cells #[.pointer (some ⟨X, 0, none⟩)] 65)
  have hB0 := OwnB.new w [.pointer (some ⟨X, 0, none⟩)] 65
  have hg0 := World.grownBy_alloc w (.cells #[.pointer (some ⟨X, 0, none⟩)] 65) (some U)
  have hF1 := hF.join (a := (a + n).toNat) (b := (b + n).toNat) (by omega) (by omega)
  have H1 : Hid _ := linksJoin_any X U n w.heap.size up R _ (hL.ex hx) hF hn (hB0.cell 0) a1 a2 b1 b2
  have H2 : Hid (∀ wa, LinkAt wa X U n (fun i => if i = R (a + n).toNat then R (b + n).toNat else up i) → wa.cell? ⟨w.heap.size, 0, none⟩ = some (.pointer (some ⟨X, 0, none⟩)) → Calls Try.prog 78 #[.int .i64 (-a), .int .i64 (-b), .pointer (some ⟨w.heap.size, 0, none⟩)] wa (JoinRet wa X U n _)) := fun wa h hc => linksJoin_any X U n w.heap.size _ _ wa h hF1 hn hc (by omega) (by omega) (by omega) (by omega)
  have HF : Hid (Forest (2 * n + 1) _ (linkR n R a b)) := hF1.join (a := (-a + n).toNat) (b := (-b + n).toNat) (by omega) (by omega)
  have hne : w.heap.size ≠ U := by omega
  have HB : Hid _ := hB0
  clear hL hF hF1 hB0
  go_enter Try.func54, Try.ntmps54
  go_wp2_with fail
  refine Calls.mono H1.out ?_
  rintro e w2 ⟨rfl, hL2, hg2⟩
  have hc2 := (own_grown HB.out hg2 (by intro h; cases h; exact hne rfl)).cell 0
  have hg02 := hg0.trans hg2
  clear H1
  go_wp2_with fail
  refine (H2.out _ hL2 hc2).mono ?_
  rintro e w3 ⟨rfl, hL3, hg3⟩
  go_wp2
  refine bodyPost_ret (v := .tuple #[]) (by simp [results, Try.results54, go_sem]) rfl ?_
  exact ⟨rfl, ⟨_, HF.out, hL3⟩, hg02.trans hg3⟩
/-- Is the root of a literal that of another one? -/
def sameR (n : Nat) (R : Nat → Nat) (v u : Int) : Bool := decide (R (v + n).toNat = R (u + n).toNat)
set_option maxHeartbeats 1000000 in
theorem linksLeast_any (X U n : Nat) (up R : Nat → Nat) (w : World) (hL : LinkAt w X U n up) (hF : Forest (2 * n + 1) up R) (hn : n ≤ 128) {v : Int} (v1 : 1 ≤ v) (v2 : v ≤ n) :
    Calls Try.prog 55 #[.pointer (some ⟨X, 0, none⟩), .int .i64 v] w fun e w' => e = .returned (.int .i64 (leastF (sameR n R) v (v - 1).toNat 1)) ∧ w = w' := by
  have HG : Hid (∀ (i : Int), 0 ≤ i → i < 2 * (n : Int) + 1 → Calls Try.prog 79 #[.pointer (some ⟨X, 0, none⟩), .int .i64 i] w fun e w' => e = .returned (.int .i64 (R i.toNat)) ∧ w = w') := fun i h0 h1 => by
    obtain ⟨k, hk⟩ := (hF.root i.toNat (by omega)).2
    have := linksRoot_any X U n up w hL hF.lt hn (by omega) hk
    rwa [show ((i.toNat : Nat) : Int) = i by omega] at this
  have c0 : w.cell? ⟨X, 0, none⟩ = some (.int .i64 n) := hL.box.cell 0
  have z1 := hL.box.lt
  clear hL hF
  go_enter Try.func55, Try.ntmps55
  go_wp2_with fail
  refine (HG.out _ (by omega) (by omega)).mono ?_
  rintro e w2 ⟨rfl, rfl⟩
  have HS : Hid (∀ u, sameR n R v u = decide (R (v + n).toNat = R (u + n).toNat)) := fun u => rfl
  generalize R (v + n).toNat = rv at *
  go_wp2
  go_loop [6] (fun iw => ∃ u : Int, 1 ≤ u ∧ u ≤ v ∧ iw = .int .i64 u ∧ Hid (leastF (sameR n R) v (v - 1).toNat 1 = leastF (sameR n R) v (v - u).toNat u)) (fun iw => (v - intOf iw).toNat)
  case atStart => exact ⟨1, Int.le_refl _, v1, rfl, rfl⟩
  case round =>
    obtain ⟨u, u1, u2, rfl, hE⟩ := hrel
    by_cases hlt : u < v
    · have hA := HG.out (u + n) (by omega) (by omega)
      have hB := HG.out (-u + n) (by omega) (by omega)
      have hsa := HS.out u
      have hsb := HS.out (-u)
      have hm : (v - u).toNat = (v - (u + 1)).toNat + 1 := by omega
      by_cases ha : rv = R (u + n).toNat
      · have hend : Hid (leastF (sameR n R) v (v - 1).toNat 1 = u) := by show _ = _; rw [hE.out, hm]; exact leastF_at (by rw [hsa]; simpa using ha)
        have hA' : Hid _ := hA
        have hab : ((rv : Int) == (R (u + n).toNat : Int)) = true := by simp [← ha]
        clear hE HS HG hsa hsb hB hm hA ha
        generalize R (u + n).toNat = ru at *
        go_wp2_with fail
        refine Calls.mono hA'.out ?_
        rintro e w2 ⟨rfl, rfl⟩
        go_wp2
        go_ret
        exact ⟨ret_int hend.out.symm, rfl⟩
      · have hA' : Hid _ := hA
        have hB' : Hid _ := hB
        have hab : ((rv : Int) == (R (u + n).toNat : Int)) = false := by simpa using (by omega : ¬ (rv : Int) = (R (u + n).toNat : Int))
        by_cases hb : rv = R (-u + n).toNat
        · have hend : Hid (leastF (sameR n R) v (v - 1).toNat 1 = -u) := by show _ = _; rw [hE.out, hm]; exact leastF_at' (by rw [hsa]; simpa using ha) (by rw [hsb]; simpa using hb)
          have hbb : ((rv : Int) == (R (-u + n).toNat : Int)) = true := by simp [← hb]
          clear hE HS HG hsa hsb hB hm hA ha hb
          generalize R (u + n).toNat = ru at *
          generalize R (-u + n).toNat = ru2 at *
          go_wp2_with fail
          refine Calls.mono hA'.out ?_
          rintro e w2 ⟨rfl, rfl⟩
          go_wp2_with fail
          refine Calls.mono hB'.out ?_
          rintro e w2 ⟨rfl, rfl⟩
          go_wp2
          go_ret
          exact ⟨ret_int hend.out.symm, rfl⟩
        · have hE2 : Hid (leastF (sameR n R) v (v - 1).toNat 1 = leastF (sameR n R) v (v - (u + 1)).toNat (u + 1)) := by show _ = _; rw [hE.out, hm]; exact leastF_no (by rw [hsa]; simpa using ha) (by rw [hsb]; simpa using hb)
          have hbb : ((rv : Int) == (R (-u + n).toNat : Int)) = false := by simpa using (by omega : ¬ (rv : Int) = (R (-u + n).toNat : Int))
          clear hE HS HG hsa hsb hB hm hA ha hb
          generalize R (u + n).toNat = ru at *
          generalize R (-u + n).toNat = ru2 at *
          go_wp2_with fail
          refine Calls.mono hA'.out ?_
          rintro e w2 ⟨rfl, rfl⟩
          go_wp2_with fail
          refine Calls.mono hB'.out ?_
          rintro e w2 ⟨rfl, rfl⟩
          go_wp2
          go_round
          case rel => exact ⟨u + 1, by omega, by omega, by go_num, hE2⟩
          case measure => simp [intOf]; omega
    · have hend : Hid (leastF (sameR n R) v (v - 1).toNat 1 = v) := by show _ = _; rw [hE.out, show (v - u).toNat = 0 by omega]; rfl
      clear hE HS HG
      go_wp2
      go_ret
      exact ⟨ret_int (by rw [show v.toNat - 1 = (v - 1).toNat by omega]; exact hend.out.symm), rfl⟩
end Go.Proofs.Ytnhlfhoeglnajaa
/- Equal literals, plainly: what the forest says while links are made. No Go in sight. -/
namespace Go.Proofs.Ytnhlfhoeglnajaa
set_option linter.unusedSimpArgs false
set_option linter.unusedVariables false
open Go.RowKit
def SoundR (n : Nat) (ll : List (List Int)) (R : Nat → Nat) : Prop := ∀ x y : Int, -(n : Int) ≤ x → x ≤ n → -(n : Int) ≤ y → y ≤ n → R (x + n).toNat = R (y + n).toNat → Tied n ll x y
def DoneR (n : Nat) (ll : List (List Int)) (R : Nat → Nat) (A B : Int) : Prop := ∀ x y : Int, y < x → (x < A ∨ (x = A ∧ y < B)) → mutB n ll x y = true → R (x + n).toNat = R (y + n).toNat ∧ R (-x + n).toNat = R (-y + n).toNat
theorem sound_join {n : Nat} {ll : List (List Int)} {R : Nat → Nat} (hs : SoundR n ll R) {a b : Int} (a1 : -(n : Int) ≤ a) (a2 : a ≤ n) (b1 : -(n : Int) ≤ b) (b2 : b ≤ n) (ht : Tied n ll a b) : SoundR n ll (joinR R (a + n).toNat (b + n).toNat) := fun x y x1 x2 y1 y2 h => by
  rcases joinR_inv h with h | ⟨h, k⟩ | ⟨h, k⟩
  · exact hs x y x1 x2 y1 y2 h
  · exact ((hs x a x1 x2 a1 a2 h).trans ht).trans (hs b y b1 b2 y1 y2 k.symm)
  · exact ((hs x b x1 x2 b1 b2 h).trans ht.symm).trans (hs a y a1 a2 y1 y2 k.symm)
theorem sound_link {n : Nat} {ll : List (List Int)} {R : Nat → Nat} (hs : SoundR n ll R) {a b : Int} (a1 : -(n : Int) ≤ a) (a2 : a ≤ n) (b1 : -(n : Int) ≤ b) (b2 : b ≤ n) (hm : mutB n ll a b = true) : SoundR n ll (linkR n R a b) := by
  have ht : Tied n ll a b := Tied.one (linkB_iff.2 (.inl hm))
  exact sound_join (sound_join hs a1 a2 b1 b2 ht) (by omega) (by omega) (by omega) (by omega) ht.neg
theorem linkR_mono {n : Nat} {R : Nat → Nat} {a b : Int} {i j : Nat} (h : R i = R j) : linkR n R a b i = linkR n R a b j := joinR_mono (joinR_mono h)
theorem done_link {n : Nat} {ll : List (List Int)} {R : Nat → Nat} {a b : Int} (h : DoneR n ll R a b) : DoneR n ll (linkR n R a b) a (b + 1) := fun x y hyx hlt hm => by
  by_cases e : x = a ∧ y = b
  · obtain ⟨rfl, rfl⟩ := e
    exact ⟨joinR_mono joinR_ab, joinR_ab⟩
  · have := h x y hyx (by omega) hm
    exact ⟨linkR_mono this.1, linkR_mono this.2⟩
theorem done_skip {n : Nat} {ll : List (List Int)} {R : Nat → Nat} {a b : Int} (h : DoneR n ll R a b) (hf : mutB n ll a b = false) : DoneR n ll R a (b + 1) := fun x y hyx hlt hm => by
  by_cases e : x = a ∧ y = b
  · obtain ⟨rfl, rfl⟩ := e
    rw [hf] at hm; cases hm
  · exact h x y hyx (by omega) hm
theorem done_next {n : Nat} {ll : List (List Int)} {R : Nat → Nat} {a : Int} (h : DoneR n ll R a a) : DoneR n ll R (a + 1) (-(n : Int)) := fun x y hyx hlt hm => by
  have := (litValid_iff _ _).1 (mutB_valid hm).2
  exact h x y hyx (by omega) hm
theorem done_all {n : Nat} {ll : List (List Int)} {R : Nat → Nat} {B : Int} (h : DoneR n ll R ((n : Int) + 1) B) {x y : Int} (hm : mutB n ll x y = true) : R (x + n).toNat = R (y + n).toNat ∧ R (-x + n).toNat = R (-y + n).toNat := by
  have v1 := (litValid_iff _ _).1 (mutB_valid hm).1
  have v2 := (litValid_iff _ _).1 (mutB_valid hm).2
  by_cases e : x = y
  · subst e; exact ⟨rfl, rfl⟩
  by_cases hlt : y < x
  · exact h x y hlt (by omega) hm
  · have := h y x (by omega) (by omega) (mutB_symm hm)
    exact ⟨this.1.symm, this.2.symm⟩
theorem done_tied {n : Nat} {ll : List (List Int)} {R : Nat → Nat} {B : Int} (h : DoneR n ll R ((n : Int) + 1) B) {x y : Int} (ht : Tied n ll x y) : R (x + n).toNat = R (y + n).toNat := by
  induction ht with
  | refl => rfl
  | tie _ hl ih =>
    rw [ih]
    rw [linkB_iff] at hl
    rcases hl with hl | hl
    · exact (done_all h hl).1
    · have := (done_all h hl).2
      rwa [Int.neg_neg, Int.neg_neg] at this
theorem same_tie {n : Nat} {ll : List (List Int)} {R : Nat → Nat} {B : Int} (hs : SoundR n ll R) (h : DoneR n ll R ((n : Int) + 1) B) {x y : Int} (x1 : -(n : Int) ≤ x) (x2 : x ≤ n) (y1 : -(n : Int) ≤ y) (y2 : y ≤ n) : sameR n R x y = tieB n ll x y := by
  rw [Bool.eq_iff_iff, tieB_iff]
  unfold sameR
  rw [decide_eq_true_eq]
  exact ⟨hs x y x1 x2 y1 y2, done_tied h⟩
theorem leastF_congr {t t' : Int → Int → Bool} {v : Int} : ∀ (m : Nat) (w : Int), (∀ z, w ≤ z → z < w + m → t v z = t' v z ∧ t v (-z) = t' v (-z)) → leastF t v m w = leastF t' v m w
  | 0, _, _ => rfl
  | m + 1, w, h => by
    show (if t v w then w else if t v (-w) then -w else leastF t v m (w + 1)) = (if t' v w then w else if t' v (-w) then -w else leastF t' v m (w + 1))
    obtain ⟨h1, h2⟩ := h w (Int.le_refl _) (by omega)
    rw [h1, h2, leastF_congr m (w + 1) fun z p q => h z (by omega) (by omega)]
theorem least_eqV {n : Nat} {ll : List (List Int)} {R : Nat → Nat} {B : Int} (hs : SoundR n ll R) (h : DoneR n ll R ((n : Int) + 1) B) {v : Int} (v1 : 1 ≤ v) (v2 : v ≤ n) : leastF (sameR n R) v (v - 1).toNat 1 = eqV n ll v :=
  leastF_congr _ _ fun z p q => ⟨same_tie hs h (by omega) v2 (by omega) (by omega), same_tie hs h (by omega) v2 (by omega) (by omega)⟩
theorem sound_start {n : Nat} {ll : List (List Int)} : SoundR n ll id := fun x y x1 x2 y1 y2 h => by
  have : x = y := by simp only [id] at h; omega
  subst this; exact .refl x
theorem done_start {n : Nat} {ll : List (List Int)} {R : Nat → Nat} : DoneR n ll R (-(n : Int)) (-(n : Int)) := fun x y hyx hlt hm => by
  have := (litValid_iff _ _).1 (mutB_valid hm).2
  omega
theorem mut_fol {n : Int} {ll : List (List Int)} {a b : Int} : mutB n ll a b = ((closL n ll [a]).contains b && (closL n ll [b]).contains a) := by
  rw [Bool.eq_iff_iff, mutB_iff, Bool.and_eq_true, List.contains_iff_mem, List.contains_iff_mem]
  constructor
  · exact fun h => h.2.2
  · intro h
    have key : ∀ x y : Int, y ∈ closL n ll [x] → closB n ll [x] = true := fun x y h => by
      cases e : closB n ll [x] with
      | true => rfl
      | false => unfold closL at h; rw [e] at h; cases h
    exact ⟨key _ _ h.1, key _ _ h.2, h⟩
end Go.Proofs.Ytnhlfhoeglnajaa
