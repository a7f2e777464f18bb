/- lit.order: the literals of a list in order, each once, in new memory. The library's sort and Compact by their contracts. -/
import Derived.Test.YtlaejhmpnlcceaaShelf04
import Derived.Test.YtlaejhmpnlcceaaSlices
import Derived.Test.YtlaejhmpnlcceaaRef04b
namespace Go.Proofs.Ytlaejhmpnlcceaa
set_option linter.unusedSimpArgs false
set_option linter.unusedVariables false
open Go.RowKit Go.Shelf Go.Lib Go.Sort

/-- Literals of some variable. -/
abbrev LitS := { x : Int // litVar x ≠ 0 }
instance : Inhabited LitS := ⟨⟨1, by decide⟩⟩
def encS (x : LitS) : Value := .int .i64 x.1
def cfS (x y : LitS) : Int := litCmp x.1 y.1
theorem ltS (x y : LitS) : ltOf cfS x y = decide (litKey x.1 < litKey y.1) := by
  unfold ltOf cfS; exact litCmp_lt x.2 y.2
theorem swoS : SWO (ltOf cfS) where
  irrefl x := by rw [ltS]; simp
  trans x y z h1 h2 := by rw [ltS] at *; simp at *; omega
  ntrans x y z h1 h2 := by rw [ltS] at *; simp at *; omega
theorem totS (x y : LitS) (h1 : ltOf cfS x y = false) (h2 : ltOf cfS y x = false) : x = y := by
  rw [ltS] at *; simp at *
  exact Subtype.ext (litKey_inj (by omega))
theorem cmpS (blk off size : Nat) (w : World) : CmpReads Try.prog 60 #[] encS cfS blk off size w := fun _ _ _ _ x y =>
  (litOrder1_any x.1 y.1 x.2 y.2 _).mono fun _ _ ⟨he, hw⟩ => ⟨he, 0, hw.symm⟩
theorem sortS (blk off cap : Nat) (d : Array LitS) (w : World) (hH : Holds encS w blk off d) (hblk : blk < w.heap.size) (hsz : d.size < 4611686018427387904) :
    Calls Try.prog 59 #[.slice (some ⟨blk, off, none⟩) d.size cap, .func (.func 60) #[] #[]] w fun e w' =>
      e = .returned (.tuple #[]) ∧ ∃ n os, w' = grow ((w.drewN n).setCells blk off ((d.toList.mergeSort fun x y => !(ltOf cfS) y x).map encS)) os := by
  have eg : ∀ args w, (callFunc 60 args).run Try.prog w = .ok (.enter 60 args) w := enters_of Try.func60 (by kernel_rfl) rfl
  have h := Any.slices_SortFunc_total Try.sortL encS (fun _ => rfl) cfS swoS 60 #[] blk off cap d w eg (cmpS blk off d.size w).lays hH hblk hsz totS
  exact h.mono fun e w' ⟨he, n, os, hw⟩ => ⟨he, n, os, by rw [hw]; exact Lib.sorted_world encS w blk off n d _ os hH (by simp)⟩
theorem compactS (blk off cap : Nat) (zs : List Int) (w : World) (hH : Holds (Value.int .i64) w blk off zs.toArray) (hsz : zs.length ≤ 9223372036854775807) (hcap : zs.length ≤ cap) :
    Calls Try.prog 62 #[.slice (some ⟨blk, off, none⟩) zs.length cap] w fun e w' =>
      e = .returned (.slice (some ⟨blk, off, none⟩) (Lib.compact zs).length cap) ∧ ∃ q, w' = (w.drewN q).setCells blk off ((Lib.compact zs ++ List.replicate (zs.length - (Lib.compact zs).length) 0).map (Value.int .i64)) :=
  (calls_of_every_depth fun D => AnySG.slices_Compact_int_in Try.compactL D blk off cap zs w hH hsz hcap).mono fun e w' ⟨he, q, hw⟩ => ⟨he, q, by
    rw [hw]
    exact Lib.putRow_eq_setCells (Value.int .i64) w blk off zs.toArray _ q hH (by have := Lib.compact_length_le zs; simp; omega)⟩
theorem compactS_empty (a : Option Addr) (cap : Nat) (w : World) :
    Calls Try.prog 62 #[.slice a 0 cap] w fun e w' => e = .returned (.slice a 0 cap) ∧ w' = w :=
  calls_of_every_depth fun D => AnySG.slices_Compact_int_empty_in Try.compactL D a cap w
end Go.Proofs.Ytlaejhmpnlcceaa
