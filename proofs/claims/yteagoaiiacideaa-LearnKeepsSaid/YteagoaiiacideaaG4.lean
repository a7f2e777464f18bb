/- Texts of this claim, joined: Shelf04, Sort04, Sort04b, Term04. No condition. -/
import Derived.Test.YteagoaiiacideaaG2
import Derived.Shelf.SlSortCmp.NoneTotal
import Derived.Shelf.SlicesG.In.CompactI
import Derived.Shelf.Lay
import Derived.Ground.SlsfProg
import Derived.Ground.SlgnProg
import Derived.Lib.RowBridge
import Derived.Lib.SortBridge
import Derived.Sort.EveryDepth
import Derived.Test.YteagoaiiacideaaG5
/- The library's functions by the shelf's contracts, laid at this dump. -/
namespace Go.Proofs.Yteagoaiiacideaa
set_option linter.unusedSimpArgs false
set_option linter.unusedVariables false
open Go.Shelf
shelf_lay_g SlLaysF.n6 Slsf 6 at Try 75 as Try.sortL
shelf_lay_g SlLaysN.n43 Slgn 43 at Try 78 as Try.compactL
end Go.Proofs.Yteagoaiiacideaa
/- lit.order: the literals of a list in order, each once, in new memory. The library's sort and Compact by their contracts. -/
namespace Go.Proofs.Yteagoaiiacideaa
set_option linter.unusedSimpArgs false
set_option linter.unusedVariables false
open Go.RowKit Go.Shelf Go.Lib Go.Sort

/-- Literals of some variable. -/
abbrev LitS := { x : Int // litVar x ≠ 0 }
instance : Inhabited LitS := ⟨⟨1, by decide⟩⟩
def encS (x : LitS) : Value := .int .i64 x.1
def cfS (x y : LitS) : Int := litCmp x.1 y.1
theorem ltS (x y : LitS) : ltOf cfS x y = decide (litKey x.1 < litKey y.1) := by
  unfold ltOf cfS; exact litCmp_lt x.2 y.2
theorem swoS : SWO (ltOf cfS) where
  irrefl x := by rw [ltS]; simp
  trans x y z h1 h2 := by rw [ltS] at *; simp at *; omega
  ntrans x y z h1 h2 := by rw [ltS] at *; simp at *; omega
theorem totS (x y : LitS) (h1 : ltOf cfS x y = false) (h2 : ltOf cfS y x = false) : x = y := by
  rw [ltS] at *; simp at *
  exact Subtype.ext (litKey_inj (by omega))
theorem cmpS (blk off size : Nat) (w : World) : CmpReads Try.prog 76 #[] encS cfS blk off size w := fun _ _ _ _ x y =>
  (litOrder1_any x.1 y.1 x.2 y.2 _).mono fun _ _ ⟨he, hw⟩ => ⟨he, 0, hw.symm⟩
theorem sortS (blk off cap : Nat) (d : Array LitS) (w : World) (hH : Holds encS w blk off d) (hblk : blk < w.heap.size) (hsz : d.size < 4611686018427387904) :
    Calls Try.prog 75 #[.slice (some ⟨blk, off, none⟩) d.size cap, .func (.func 76) #[] #[]] w fun e w' =>
      e = .returned (.tuple #[]) ∧ ∃ n os, w' = grow ((w.drewN n).setCells blk off ((d.toList.mergeSort fun x y => !(ltOf cfS) y x).map encS)) os := by
  have eg : ∀ args w, (callFunc 76 args).run Try.prog w = .ok (.enter 76 args) w := enters_of Try.func76 (by kernel_rfl) rfl
  have h := Any.slices_SortFunc_total Try.sortL encS (fun _ => rfl) cfS swoS 76 #[] blk off cap d w eg (cmpS blk off d.size w).lays hH hblk hsz totS
  exact h.mono fun e w' ⟨he, n, os, hw⟩ => ⟨he, n, os, by rw [hw]; exact Lib.sorted_world encS w blk off n d _ os hH (by simp)⟩
theorem compactS (blk off cap : Nat) (zs : List Int) (w : World) (hH : Holds (Value.int .i64) w blk off zs.toArray) (hsz : zs.length ≤ 9223372036854775807) (hcap : zs.length ≤ cap) :
    Calls Try.prog 78 #[.slice (some ⟨blk, off, none⟩) zs.length cap] w fun e w' =>
      e = .returned (.slice (some ⟨blk, off, none⟩) (Lib.compact zs).length cap) ∧ ∃ q, w' = (w.drewN q).setCells blk off ((Lib.compact zs ++ List.replicate (zs.length - (Lib.compact zs).length) 0).map (Value.int .i64)) :=
  (calls_of_every_depth fun D => AnySG.slices_Compact_int_in Try.compactL D blk off cap zs w hH hsz hcap).mono fun e w' ⟨he, q, hw⟩ => ⟨he, q, by
    rw [hw]
    exact Lib.putRow_eq_setCells (Value.int .i64) w blk off zs.toArray _ q hH (by have := Lib.compact_length_le zs; simp; omega)⟩
theorem compactS_empty (a : Option Addr) (cap : Nat) (w : World) :
    Calls Try.prog 78 #[.slice a 0 cap] w fun e w' => e = .returned (.slice a 0 cap) ∧ w' = w :=
  calls_of_every_depth fun D => AnySG.slices_Compact_int_empty_in Try.compactL D a cap w
end Go.Proofs.Yteagoaiiacideaa
/- lit.order: the literals of a list in order, each once, in new memory. -/
namespace Go.Proofs.Yteagoaiiacideaa
set_option linter.unusedSimpArgs false
set_option linter.unusedVariables false
open Go.RowKit Go.Shelf Go.Lib Go.Sort

theorem drewN_ex (w : World) (n : Nat) : Ex w (w.drewN n) := ⟨rfl, rfl, rfl, Nat.le_refl _, fun _ _ => rfl⟩
theorem grow_ex (w : World) (os : Array Obj) : Ex w (grow w os) := ⟨rfl, rfl, rfl, by simp [grow], fun k hk => by simp [grow, Array.getElem?_append_left hk]⟩
theorem sortedL {l : List Int} (hv : ∀ x ∈ l, litVar x ≠ 0) (d : List LitS) (hd : d.map (·.1) = l) :
    Lib.compact ((d.mergeSort fun x y => !(ltOf cfS) y x).map (·.1)) = orderL l := by
  refine compact_eq_order ?_ (fun x => ?_) hv
  · rw [List.pairwise_map]
    have h := List.pairwise_mergeSort (le := fun x y => !(ltOf cfS) y x) (fun a b c h1 h2 => by rw [ltS] at *; simp at *; omega) (fun a b => by rw [ltS, ltS]; simp; omega) d
    refine h.imp fun {a b} hab => ?_
    rw [ltS] at hab
    simpa using hab
  · rw [← hd, List.mem_map, List.mem_map]
    constructor
    · rintro ⟨y, hy, e⟩; exact ⟨y, List.mem_mergeSort.1 hy, e⟩
    · rintro ⟨y, hy, e⟩; exact ⟨y, List.mem_mergeSort.2 hy, e⟩
set_option maxHeartbeats 2000000 in
theorem litOrder_any (lv : Value) (l : List Int) (w : World) (hl : IntsAt w lv l) (hv : ∀ x ∈ l, litVar x ≠ 0) (hb : l.length * 8 ≤ 140737488355328) :
    Calls Try.prog 64 #[lv] w (OrdRet w (orderL l)) := by
  have HC : Hid (∀ wa, Ex w wa → Calls Try.prog 55 #[lv] wa fun e w' => ∃ v, e = .returned v ∧ OwnI w' wa.heap.size v l ∧ Ex wa w') := fun wa hx => slicesClone_any lv l wa (hl.ex hx) hb
  obtain ⟨a, cap, rfl, _, _, h3⟩ := hl
  clear h3
  obtain ⟨d, hd⟩ : ∃ d : List LitS, d.map (·.1) = l := ⟨l.attach.map fun x => ⟨x.1, hv x.1 x.2⟩, by simp [List.map_map, Function.comp_def, List.attach_map_subtype_val]⟩
  have hs := sortedL hv d hd
  have hdl : d.length = l.length := by rw [← hd, List.length_map]
  by_cases h0 : l.length = 0
  · have hl0 : l = [] := List.length_eq_zero_iff.1 h0
    subst hl0
    have HS := fun p c W => AnyF.slices_SortFunc_none (P := Try.prog) (ρ := Try.sortL_ren) { Try.sortL with } p c (.func (.func 76) #[] #[]) W
    change ∀ (p : Option Addr) (c : Nat) (W : World), Calls Try.prog 75 _ _ _ at HS
    have HS' : Hid _ := HS
    clear HS hs hd
    have ho : orderL [] = [] := by simp [orderL]
    rw [ho]
    go_enter Try.func64, Try.ntmps64
    go_wp2_with fail
    refine (HC.out _ (Ex.refl _)).mono ?_
    rintro e w2 ⟨v, rfl, hO, hx2⟩
    obtain ⟨p, q, rfl, _, _, _⟩ := hO.ints
    go_wp2_with fail
    refine (HS'.out _ _ _).mono ?_
    rintro e w3 ⟨rfl, rfl⟩
    go_wp2_with fail
    refine (compactS_empty _ _ _).mono ?_
    rintro e w3 ⟨rfl, rfl⟩
    go_wp2
    go_ret
    exact ⟨_, rfl, hO, hx2⟩
  · have hpos : 0 < l.length := by omega
    obtain ⟨zs, hzs⟩ : ∃ zs, zs = (d.mergeSort fun x y => !(ltOf cfS) y x).map (·.1) := ⟨_, rfl⟩
    rw [← hzs] at hs
    have hzl : zs.length = l.length := by rw [hzs, List.length_map, List.length_mergeSort, hdl]
    have HZ : Hid ((d.mergeSort fun x y => !(ltOf cfS) y x).map encS = intsV zs) := by
      show _ = _
      rw [hzs, intsV, List.map_map]; rfl
    have HL : Hid (Lib.compact zs = orderL l) := hs
    have HLe : Hid ((Lib.compact zs).length ≤ zs.length) := Lib.compact_length_le zs
    have HD : Hid (∀ j, j < l.length → encS d.toArray[j]! = .int .i64 (l.getD j 0)) := fun j hj => by
      have hj' : j < d.length := by omega
      have e : d.toArray[j]! = d[j] := by simp [getElem!_pos, hj']
      rw [e, getD_getElem hj]
      show Value.int .i64 (d[j]).1 = _
      congr 1
      simp [← hd]
    have hsz : d.toArray.size = l.length := by simpa using hdl
    clear hs hzs hd
    go_enter Try.func64, Try.ntmps64
    go_wp2_with fail
    refine (HC.out _ (Ex.refl _)).mono ?_
    rintro e w2 ⟨v, rfl, hO, hx2⟩
    obtain ⟨g, gcap, rest, rfl, hbg, hB, hlen, hmx⟩ := hO.form hpos
    have hH : Holds encS w2 g 0 d.toArray := fun j hj => by
      rw [hsz] at hj
      refine ⟨?_, hB.free _⟩
      rw [HD.out j hj, Nat.zero_add, hB.cell, List.getElem?_append_left (by simp [intsV]; exact hj), intsV, List.getElem?_map, List.getElem?_eq_getElem hj, getD_getElem hj]; rfl
    have HS := sortS g 0 gcap d.toArray w2 hH hB.lt (by rw [hsz]; omega)
    rw [hsz] at HS
    have HS' : Hid _ := HS
    clear HS hH
    go_wp2_with fail
    refine Calls.mono HS'.out ?_
    rintro e w3 ⟨rfl, n, os, hw3⟩
    rw [show (d.toArray.toList.mergeSort fun x y => !(ltOf cfS) y x).map encS = intsV zs from HZ.out] at hw3
    have hB3 : OwnB w3 g (intsV zs ++ rest) 3 := by
      have h1 := OwnB.setCells (intsV zs) 0 (hB.ex (drewN_ex w2 n))
      rw [putL_eq _ _ _ (by simp [intsV]; omega)] at h1
      have h2 := h1.ex (grow_ex _ os)
      rw [← hw3] at h2
      have e : (intsV l ++ rest).take 0 ++ intsV zs ++ (intsV l ++ rest).drop (0 + (intsV zs).length) = intsV zs ++ rest := by
        simp [intsV, hzl]
      rwa [e] at h2
    have hx3 : Ex w w3 := by
      rw [hw3]
      exact (Ex.setCells _ 0 (hx2.trans (drewN_ex w2 n)) hbg).trans (grow_ex _ os)
    have hH3 : Holds (Value.int .i64) w3 g 0 zs.toArray := fun j hj => by
      have hj' : j < zs.length := by simpa using hj
      refine ⟨?_, hB3.free _⟩
      rw [Nat.zero_add, hB3.cell, List.getElem?_append_left (by simp [intsV]; exact hj'), intsV, List.getElem?_map, List.getElem?_eq_getElem hj']
      simp [getElem!_pos, hj']
    have HCm := compactS g 0 gcap zs w3 hH3 (by omega) (by omega)
    rw [hzl] at HCm
    have HCm' : Hid _ := HCm
    clear hw3 hB hO HCm hH3 HS'
    go_wp2_with fail
    refine Calls.mono HCm'.out ?_
    rintro e w4 ⟨rfl, q, hw4⟩
    have hle := HLe.out
    rw [HL.out] at hw4 hle ⊢
    obtain ⟨L, hL⟩ : ∃ L, L = orderL l := ⟨_, rfl⟩
    rw [← hL] at hw4 hle ⊢
    have hO4 : OwnI w4 w.heap.size (.slice (some ⟨g, 0, none⟩) L.length gcap) L := by
      have h1 := OwnB.setCells ((L ++ List.replicate (l.length - L.length) 0).map (Value.int .i64)) 0 (hB3.ex (drewN_ex w3 q))
      rw [← hw4] at h1
      refine OwnI.of_block hbg h1 ?_ hmx (by omega) ?_
      · rw [putL_length]; simp [intsV]; omega
      · rw [putL_eq _ _ _ (by simp [intsV]; omega)]
        simp [intsV]
    have hx4 : Ex w w4 := by
      rw [hw4]
      exact Ex.setCells _ 0 (hx3.trans (drewN_ex w3 q)) hbg
    clear hw4 hB3
    subst hL
    go_wp2
    go_ret
    exact ⟨_, rfl, hO4, hx4⟩
end Go.Proofs.Yteagoaiiacideaa
/- lit.Term and lit.Clause: lists in new memory. -/
namespace Go.Proofs.Yteagoaiiacideaa
set_option linter.unusedSimpArgs false
set_option linter.unusedVariables false
open Go.RowKit

def termL (l : List Int) (n : Int) : List Int := if l.all (litValid · n) && !oppB (orderL l) then orderL l else []
def termB (l : List Int) (n : Int) : Bool := l.all (litValid · n) && !oppB (orderL l)
def clauseL (l : List Int) (n : Int) : List Int := if l.all (litValid · n) then orderL l else []
def clauseB (l : List Int) (n : Int) : Bool := l.all (litValid · n) && oppB (orderL l)
def clauseE (l : List Int) (n : Int) : Int := if l.all (litValid · n) then 0 else 1
def TermRet (w : World) (L : List Int) (b : Bool) (e : Ending) (w' : World) : Prop := ∃ v, e = .returned (.tuple #[v, .bool b]) ∧ OwnI w' w.heap.size v L ∧ Ex w w'
theorem valid_vars {l : List Int} {n : Int} (h : l.all (litValid · n) = true) : ∀ x ∈ l, litVar x ≠ 0 := fun x hx => litVar_ne (List.all_eq_true.1 h x hx)
set_option maxHeartbeats 1000000 in
theorem litTerm_any (lv : Value) (l : List Int) (n : Int) (w : World) (hl : IntsAt w lv l) (hb : l.length * 8 ≤ 140737488355328) :
    Calls Try.prog 67 #[lv, .int .i64 n] w (TermRet w (termL l n) (termB l n)) := by
  have HV : Hid (∀ wa, Ex w wa → Calls Try.prog 63 #[lv, .int .i64 n] wa fun e w' => e = .returned (.bool (l.all (litValid · n))) ∧ Ex wa w') := fun wa hx => litValidAll_any lv l n wa (hl.ex hx)
  have HO : Hid (l.all (litValid · n) = true → ∀ wa, Ex w wa → Calls Try.prog 64 #[lv] wa (OrdRet wa (orderL l))) := fun h wa hx => litOrder_any lv l wa (hl.ex hx) (valid_vars h) hb
  have HP : Hid (l.all (litValid · n) = true → ∀ wa v, IntsAt wa v (orderL l) → Calls Try.prog 65 #[v] wa fun e w' => e = .returned (.bool (oppB (orderL l))) ∧ Ex wa w') := fun h wa v hv =>
    litOpposite_any v (orderL l) wa hv fun x hx => valid_vars h x ((orderL_mem (valid_vars h) x).1 hx)
  unfold termL termB
  obtain ⟨a, cap, rfl, _, _, h3⟩ := hl
  clear h3
  generalize orderL l = L at *
  generalize l.all (litValid · n) = V at *
  generalize oppB L = O at *
  cases V
  · clear HO HP
    show Calls _ _ _ _ (TermRet w [] false)
    go_enter Try.func67, Try.ntmps67
    go_wp2_with fail
    refine (HV.out _ (Ex.refl _)).mono ?_
    rintro e w2 ⟨rfl, hx2⟩
    go_wp2
    go_ret2
    exact ⟨_, rfl, OwnI.nil _ _, hx2⟩
  · cases O
    · show Calls _ _ _ _ (TermRet w L true)
      have HO' := HO.out rfl
      have HP' := HP.out rfl
      have HO2 : Hid _ := HO'
      have HP2 : Hid _ := HP'
      clear HO HP HO' HP'
      go_enter Try.func67, Try.ntmps67
      go_wp2_with fail
      refine (HV.out _ (Ex.refl _)).mono ?_
      rintro e w2 ⟨rfl, hx2⟩
      go_wp2_with fail
      refine (HO2.out _ hx2).mono ?_
      rintro e w3 ⟨v, rfl, hO, hx3⟩
      have hI := hO.ints
      obtain ⟨p, q, rfl, _, _, _⟩ := hI
      have hI := hO.ints
      go_wp2_with fail
      refine (HP2.out _ _ hI).mono ?_
      rintro e w4 ⟨rfl, hx4⟩
      have hO4 := (hO.ex hx4).base hx2.size
      have hx := (hx2.trans hx3).trans hx4
      clear hO hx2 hx3 hx4 hI
      go_wp2
      go_ret2
      exact ⟨_, rfl, hO4, hx⟩
    · show Calls _ _ _ _ (TermRet w [] false)
      have HO' := HO.out rfl
      have HP' := HP.out rfl
      have HO2 : Hid _ := HO'
      have HP2 : Hid _ := HP'
      clear HO HP HO' HP'
      go_enter Try.func67, Try.ntmps67
      go_wp2_with fail
      refine (HV.out _ (Ex.refl _)).mono ?_
      rintro e w2 ⟨rfl, hx2⟩
      go_wp2_with fail
      refine (HO2.out _ hx2).mono ?_
      rintro e w3 ⟨v, rfl, hO, hx3⟩
      have hI := hO.ints
      obtain ⟨p, q, rfl, _, _, _⟩ := hI
      have hI := hO.ints
      go_wp2_with fail
      refine (HP2.out _ _ hI).mono ?_
      rintro e w4 ⟨rfl, hx4⟩
      have hO4 := (hO.ex hx4).base hx2.size
      have hx := (hx2.trans hx3).trans hx4
      clear hO hx2 hx3 hx4 hI
      go_wp2
      go_ret2
      exact ⟨_, rfl, OwnI.nil _ _, hx⟩
def ClauseRet (w : World) (L : List Int) (b : Bool) (er : Int) (e : Ending) (w' : World) : Prop := ∃ v, e = .returned (.tuple #[v, .bool b, .int .i64 er]) ∧ OwnI w' w.heap.size v L ∧ Ex w w'
set_option maxHeartbeats 1000000 in
theorem litClause_any (lv : Value) (l : List Int) (n : Int) (w : World) (hl : IntsAt w lv l) (hb : l.length * 8 ≤ 140737488355328) :
    Calls Try.prog 35 #[lv, .int .i64 n] w (ClauseRet w (clauseL l n) (clauseB l n) (clauseE l n)) := by
  have HV : Hid (∀ wa, Ex w wa → Calls Try.prog 63 #[lv, .int .i64 n] wa fun e w' => e = .returned (.bool (l.all (litValid · n))) ∧ Ex wa w') := fun wa hx => litValidAll_any lv l n wa (hl.ex hx)
  have HO : Hid (l.all (litValid · n) = true → ∀ wa, Ex w wa → Calls Try.prog 64 #[lv] wa (OrdRet wa (orderL l))) := fun h wa hx => litOrder_any lv l wa (hl.ex hx) (valid_vars h) hb
  have HP : Hid (l.all (litValid · n) = true → ∀ wa v, IntsAt wa v (orderL l) → Calls Try.prog 65 #[v] wa fun e w' => e = .returned (.bool (oppB (orderL l))) ∧ Ex wa w') := fun h wa v hv =>
    litOpposite_any v (orderL l) wa hv fun x hx => valid_vars h x ((orderL_mem (valid_vars h) x).1 hx)
  unfold clauseL clauseB clauseE
  obtain ⟨a, cap, rfl, _, _, h3⟩ := hl
  clear h3
  generalize orderL l = L at *
  generalize l.all (litValid · n) = V at *
  generalize oppB L = O at *
  cases V
  · clear HO HP
    show Calls _ _ _ _ (ClauseRet w [] false 1)
    go_enter Try.func35, Try.ntmps35
    go_wp2_with fail
    refine (HV.out _ (Ex.refl _)).mono ?_
    rintro e w2 ⟨rfl, hx2⟩
    go_wp2
    go_ret3
    exact ⟨_, rfl, OwnI.nil _ _, hx2⟩
  · show Calls _ _ _ _ (ClauseRet w L O 0)
    have HO' := HO.out rfl
    have HP' := HP.out rfl
    have HO2 : Hid _ := HO'
    have HP2 : Hid _ := HP'
    clear HO HP HO' HP'
    go_enter Try.func35, Try.ntmps35
    go_wp2_with fail
    refine (HV.out _ (Ex.refl _)).mono ?_
    rintro e w2 ⟨rfl, hx2⟩
    go_wp2_with fail
    refine (HO2.out _ hx2).mono ?_
    rintro e w3 ⟨v, rfl, hO, hx3⟩
    have hI := hO.ints
    obtain ⟨p, q, rfl, _, _, _⟩ := hI
    have hI := hO.ints
    go_wp2_with fail
    refine (HP2.out _ _ hI).mono ?_
    rintro e w4 ⟨rfl, hx4⟩
    have hO4 := (hO.ex hx4).base hx2.size
    have hx := (hx2.trans hx3).trans hx4
    clear hO hx2 hx3 hx4 hI
    go_wp2
    go_ret3
    exact ⟨_, rfl, hO4, hx⟩
end Go.Proofs.Yteagoaiiacideaa
