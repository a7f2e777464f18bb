/- lit.order: the literals of a list in order, each once, in new memory. -/
import Derived.Test.YtlaejhmpnlcceaaSort04
namespace Go.Proofs.Ytlaejhmpnlcceaa
set_option linter.unusedSimpArgs false
set_option linter.unusedVariables false
open Go.RowKit Go.Shelf Go.Lib Go.Sort

theorem drewN_ex (w : World) (n : Nat) : Ex w (w.drewN n) := ⟨rfl, rfl, rfl, Nat.le_refl _, fun _ _ => rfl⟩
theorem grow_ex (w : World) (os : Array Obj) : Ex w (grow w os) := ⟨rfl, rfl, rfl, by simp [grow], fun k hk => by simp [grow, Array.getElem?_append_left hk]⟩
theorem sortedL {l : List Int} (hv : ∀ x ∈ l, litVar x ≠ 0) (d : List LitS) (hd : d.map (·.1) = l) :
    Lib.compact ((d.mergeSort fun x y => !(ltOf cfS) y x).map (·.1)) = orderL l := by
  refine compact_eq_order ?_ (fun x => ?_) hv
  · rw [List.pairwise_map]
    have h := List.pairwise_mergeSort (le := fun x y => !(ltOf cfS) y x) (fun a b c h1 h2 => by rw [ltS] at *; simp at *; omega) (fun a b => by rw [ltS, ltS]; simp; omega) d
    refine h.imp fun {a b} hab => ?_
    rw [ltS] at hab
    simpa using hab
  · rw [← hd, List.mem_map, List.mem_map]
    constructor
    · rintro ⟨y, hy, e⟩; exact ⟨y, List.mem_mergeSort.1 hy, e⟩
    · rintro ⟨y, hy, e⟩; exact ⟨y, List.mem_mergeSort.2 hy, e⟩
set_option maxHeartbeats 2000000 in
theorem litOrder_any (lv : Value) (l : List Int) (w : World) (hl : IntsAt w lv l) (hv : ∀ x ∈ l, litVar x ≠ 0) (hb : l.length * 8 ≤ 140737488355328) :
    Calls Try.prog 52 #[lv] w (OrdRet w (orderL l)) := by
  have HC : Hid (∀ wa, Ex w wa → Calls Try.prog 58 #[lv] wa fun e w' => ∃ v, e = .returned v ∧ OwnI w' wa.heap.size v l ∧ Ex wa w') := fun wa hx => slicesClone_any lv l wa (hl.ex hx) hb
  obtain ⟨a, cap, rfl, _, _, h3⟩ := hl
  clear h3
  obtain ⟨d, hd⟩ : ∃ d : List LitS, d.map (·.1) = l := ⟨l.attach.map fun x => ⟨x.1, hv x.1 x.2⟩, by simp [List.map_map, Function.comp_def, List.attach_map_subtype_val]⟩
  have hs := sortedL hv d hd
  have hdl : d.length = l.length := by rw [← hd, List.length_map]
  by_cases h0 : l.length = 0
  · have hl0 : l = [] := List.length_eq_zero_iff.1 h0
    subst hl0
    have HS := fun p c W => AnyF.slices_SortFunc_none (P := Try.prog) (ρ := Try.sortL_ren) { Try.sortL with } p c (.func (.func 60) #[] #[]) W
    change ∀ (p : Option Addr) (c : Nat) (W : World), Calls Try.prog 59 _ _ _ at HS
    have HS' : Hid _ := HS
    clear HS hs hd
    have ho : orderL [] = [] := by simp [orderL]
    rw [ho]
    go_enter Try.func52, Try.ntmps52
    go_wp2_with fail
    refine (HC.out _ (Ex.refl _)).mono ?_
    rintro e w2 ⟨v, rfl, hO, hx2⟩
    obtain ⟨p, q, rfl, _, _, _⟩ := hO.ints
    go_wp2_with fail
    refine (HS'.out _ _ _).mono ?_
    rintro e w3 ⟨rfl, rfl⟩
    go_wp2_with fail
    refine (compactS_empty _ _ _).mono ?_
    rintro e w3 ⟨rfl, rfl⟩
    go_wp2
    go_ret
    exact ⟨_, rfl, hO, hx2⟩
  · have hpos : 0 < l.length := by omega
    obtain ⟨zs, hzs⟩ : ∃ zs, zs = (d.mergeSort fun x y => !(ltOf cfS) y x).map (·.1) := ⟨_, rfl⟩
    rw [← hzs] at hs
    have hzl : zs.length = l.length := by rw [hzs, List.length_map, List.length_mergeSort, hdl]
    have HZ : Hid ((d.mergeSort fun x y => !(ltOf cfS) y x).map encS = intsV zs) := by
      show _ = _
      rw [hzs, intsV, List.map_map]; rfl
    have HL : Hid (Lib.compact zs = orderL l) := hs
    have HLe : Hid ((Lib.compact zs).length ≤ zs.length) := Lib.compact_length_le zs
    have HD : Hid (∀ j, j < l.length → encS d.toArray[j]! = .int .i64 (l.getD j 0)) := fun j hj => by
      have hj' : j < d.length := by omega
      have e : d.toArray[j]! = d[j] := by simp [getElem!_pos, hj']
      rw [e, getD_getElem hj]
      show Value.int .i64 (d[j]).1 = _
      congr 1
      simp [← hd]
    have hsz : d.toArray.size = l.length := by simpa using hdl
    clear hs hzs hd
    go_enter Try.func52, Try.ntmps52
    go_wp2_with fail
    refine (HC.out _ (Ex.refl _)).mono ?_
    rintro e w2 ⟨v, rfl, hO, hx2⟩
    obtain ⟨g, gcap, rest, rfl, hbg, hB, hlen, hmx⟩ := hO.form hpos
    have hH : Holds encS w2 g 0 d.toArray := fun j hj => by
      rw [hsz] at hj
      refine ⟨?_, hB.free _⟩
      rw [HD.out j hj, Nat.zero_add, hB.cell, List.getElem?_append_left (by simp [intsV]; exact hj), intsV, List.getElem?_map, List.getElem?_eq_getElem hj, getD_getElem hj]; rfl
    have HS := sortS g 0 gcap d.toArray w2 hH hB.lt (by rw [hsz]; omega)
    rw [hsz] at HS
    have HS' : Hid _ := HS
    clear HS hH
    go_wp2_with fail
    refine Calls.mono HS'.out ?_
    rintro e w3 ⟨rfl, n, os, hw3⟩
    rw [show (d.toArray.toList.mergeSort fun x y => !(ltOf cfS) y x).map encS = intsV zs from HZ.out] at hw3
    have hB3 : OwnB w3 g (intsV zs ++ rest) 3 := by
      have h1 := OwnB.setCells (intsV zs) 0 (hB.ex (drewN_ex w2 n))
      rw [putL_eq _ _ _ (by simp [intsV]; omega)] at h1
      have h2 := h1.ex (grow_ex _ os)
      rw [← hw3] at h2
      have e : (intsV l ++ rest).take 0 ++ intsV zs ++ (intsV l ++ rest).drop (0 + (intsV zs).length) = intsV zs ++ rest := by
        simp [intsV, hzl]
      rwa [e] at h2
    have hx3 : Ex w w3 := by
      rw [hw3]
      exact (Ex.setCells _ 0 (hx2.trans (drewN_ex w2 n)) hbg).trans (grow_ex _ os)
    have hH3 : Holds (Value.int .i64) w3 g 0 zs.toArray := fun j hj => by
      have hj' : j < zs.length := by simpa using hj
      refine ⟨?_, hB3.free _⟩
      rw [Nat.zero_add, hB3.cell, List.getElem?_append_left (by simp [intsV]; exact hj'), intsV, List.getElem?_map, List.getElem?_eq_getElem hj']
      simp [getElem!_pos, hj']
    have HCm := compactS g 0 gcap zs w3 hH3 (by omega) (by omega)
    rw [hzl] at HCm
    have HCm' : Hid _ := HCm
    clear hw3 hB hO HCm hH3 HS'
    go_wp2_with fail
    refine Calls.mono HCm'.out ?_
    rintro e w4 ⟨rfl, q, hw4⟩
    have hle := HLe.out
    rw [HL.out] at hw4 hle ⊢
    obtain ⟨L, hL⟩ : ∃ L, L = orderL l := ⟨_, rfl⟩
    rw [← hL] at hw4 hle ⊢
    have hO4 : OwnI w4 w.heap.size (.slice (some ⟨g, 0, none⟩) L.length gcap) L := by
      have h1 := OwnB.setCells ((L ++ List.replicate (l.length - L.length) 0).map (Value.int .i64)) 0 (hB3.ex (drewN_ex w3 q))
      rw [← hw4] at h1
      refine OwnI.of_block hbg h1 ?_ hmx (by omega) ?_
      · rw [putL_length]; simp [intsV]; omega
      · rw [putL_eq _ _ _ (by simp [intsV]; omega)]
        simp [intsV]
    have hx4 : Ex w w4 := by
      rw [hw4]
      exact Ex.setCells _ 0 (hx3.trans (drewN_ex w3 q)) hbg
    clear hw4 hB3
    subst hL
    go_wp2
    go_ret
    exact ⟨_, rfl, hO4, hx4⟩
end Go.Proofs.Ytlaejhmpnlcceaa
