/- Tables of booleans that a call makes; the closure of the program's Redundant. No condition. -/
import Derived.Test.YteagoaiiacideaaLrnA
import Derived.Test.YteagoaiiacideaaG2
import Derived.Laws.OwnMore
namespace Go.Proofs.Yteagoaiiacideaa
set_option linter.unusedSimpArgs false
set_option linter.unusedVariables false
open Go.RowKit
set_option maxRecDepth 20000
def boolV (m : Nat) (f : Nat → Bool) : List Value := (List.range m).map fun k => .bool (f k)
theorem boolV_length (m : Nat) (f : Nat → Bool) : (boolV m f).length = m := by simp [boolV]
theorem boolV_get {m : Nat} {f : Nat → Bool} {k : Nat} (hk : k < m) : (boolV m f)[k]? = some (.bool (f k)) := by
  unfold boolV
  rw [List.getElem?_map, List.getElem?_range hk]; rfl
theorem boolV_set {m : Nat} {f : Nat → Bool} {k : Nat} (hk : k < m) (b : Bool) : (boolV m f).set k (.bool b) = boolV m (fun j => if j = k then b else f j) := by
  apply List.ext_getElem?
  intro j
  by_cases hj : j = k
  · subst hj
    rw [List.getElem?_set_self (by rw [boolV_length]; exact hk), boolV_get hk, if_pos rfl]
  · rw [List.getElem?_set_ne (fun e => hj e.symm)]
    by_cases hl : j < m
    · rw [boolV_get hl, boolV_get hl, if_neg hj]
    · rw [List.getElem?_eq_none (by rw [boolV_length]; omega), List.getElem?_eq_none (by rw [boolV_length]; omega)]
theorem boolV_congr {m : Nat} {f g : Nat → Bool} (h : ∀ k, k < m → f k = g k) : boolV m f = boolV m g := by
  unfold boolV
  exact List.map_congr_left fun k hk => by rw [h k (List.mem_range.1 hk)]
theorem Try.infoBool : (Try.prog.info? 4).map (fun i => (i.zero, i.size, i.bytes)) = some (some (.bool false), 1, 1) := by kernel_rfl
theorem run_make_bools (n : Nat) (hn : n ≤ 100000) (w : World) : (Instr.makeSlice 81 (.int .i64 n) (.int .i64 n)).run Try.prog w = .ok (.slice (some ⟨w.heap.size, 0, none⟩) n n) (w.alloc (.cells (boolV n fun _ => false).toArray 4)) := by
  obtain ⟨i0, hi, hz0, hz1, hz2⟩ := info_parts Try.infoBool
  have hr := run_make (P := Try.prog) w 81 4 i0 (.bool false) Try.underlying81 hi hz0 .i64 .i64 (n : Int) (n : Int) (by omega) (Int.le_refl _) (by rw [hz2]; omega) (by omega)
  rw [hr, hz1]
  rw [Int.toNat_natCast, Nat.mul_one]
  have : madeCells (Value.cells (.bool false)) n = (boolV n fun _ => false).toArray := by
    apply Array.ext'
    rw [show Value.cells (.bool false) = #[.bool false] from rfl, toList_madeCells_one]
    unfold boolV
    rw [List.map_const', List.length_range]
  rw [this]
set_option maxHeartbeats 1000000 in
theorem learnCovered_any (w : World) (IP FP IB FB m i : Nat) (I F : Nat → Bool) (h1 : w.cell? ⟨IP, 0, none⟩ = some (.slice (some ⟨IB, 0, none⟩) m m)) (h2 : w.cell? ⟨FP, 0, none⟩ = some (.slice (some ⟨FB, 0, none⟩) m m)) (h3 : w.cell? ⟨IB, i, none⟩ = some (.bool (I i))) (h4 : w.cell? ⟨FB, i, none⟩ = some (.bool (F i))) (hi : i < m) (hm : m ≤ 1000) :
    Calls Try.prog 46 #[.int .i64 i, .pointer (some ⟨IP, 0, none⟩), .pointer (some ⟨FP, 0, none⟩)] w fun e w' => e = .returned (.bool (I i || F i)) ∧ w = w' := by
  have y1 := cell_lt h1
  have y2 := cell_lt h2
  have y3 := cell_lt h3
  have y4 := cell_lt h4
  generalize F i = b at *
  cases hI : I i with
  | true =>
    rw [hI] at h3
    clear hI
    go_enter Try.func46, Try.ntmps46
    go_wp2
    go_ret
    exact ⟨rfl, rfl⟩
  | false =>
    rw [hI] at h3
    clear hI
    go_enter Try.func46, Try.ntmps46
    go_wp2
    go_ret
    exact ⟨by simp, rfl⟩
end Go.Proofs.Yteagoaiiacideaa
