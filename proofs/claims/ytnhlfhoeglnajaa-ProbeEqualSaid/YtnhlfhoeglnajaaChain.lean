/- The reference's mutual and Chain. For valid theories. -/
import Derived.Test.YtnhlfhoeglnajaaLaw15d
import Derived.Test.YtnhlfhoeglnajaaRef15
namespace Go.Proofs.Ytnhlfhoeglnajaa
set_option linter.unusedSimpArgs false
set_option linter.unusedVariables false
open Go.RowKit
set_option maxRecDepth 20000
set_option maxRecDepth 100000 in
set_option maxHeartbeats 4000000 in
theorem r15mutual_any (n : Int) (lv : Value) (ll : List (List Int)) (x y : Int) (w : World) (hR : RowsAt w lv ll) :
    Calls Try.prog 80 #[.agg #[.int .i64 n, lv], .int .i64 x, .int .i64 y] w fun e w' => e = .returned (.bool (mutB n ll x y)) ∧ Ex w w' := by
  have HCl : Hid (∀ wa u (m : List Int), Ex w wa → IntsAt wa u m → Calls Try.prog 74 #[.agg #[.int .i64 n, lv], u] wa (TermRet wa (closL n ll m) (closB n ll m))) := fun wa u m hx h => r12Closure_any n lv u ll m wa (hR.ex hx) h
  have HIn : Hid (∀ wa u (m : List Int) (x : Int), IntsAt wa u m → Calls Try.prog 57 #[u, .int .i64 x] wa fun e w' => e = .returned (.bool (m.contains x)) ∧ wa = w') := fun wa u m x h => r15in_any u m x wa h
  obtain ⟨ra, rcap, rfl, r1, r2, r3⟩ := hR
  clear r3
  have oT := OwnB.new w [.int .i64 n, .slice ra ll.length rcap] 24
  have hxa := Ex.alloc w (.cells #[.int .i64 n, .slice ra ll.length rcap] 24)
  have HM : Hid (mutB n ll x y = (closB n ll [x] && closB n ll [y] && (closL n ll [x]).contains y && (closL n ll [y]).contains x)) := rfl
  have H1 : Hid (∀ wa u, Ex w wa → IntsAt wa u [x] → Calls Try.prog 74 #[.agg #[.int .i64 n, .slice ra ll.length rcap], u] wa (TermRet wa (closL n ll [x]) (closB n ll [x]))) := fun wa u hx h => HCl.out wa u _ hx h
  have H2 : Hid (∀ wa u, Ex w wa → IntsAt wa u [y] → Calls Try.prog 74 #[.agg #[.int .i64 n, .slice ra ll.length rcap], u] wa (TermRet wa (closL n ll [y]) (closB n ll [y]))) := fun wa u hx h => HCl.out wa u _ hx h
  clear HCl
  generalize mutB n ll x y = MB at *
  generalize closL n ll [x] = LX at *
  generalize closB n ll [x] = BX at *
  generalize closL n ll [y] = LY at *
  generalize closB n ll [y] = BY at *
  go_enter Try.func80, Try.ntmps80
  go_wp2_with fail
  have hIx := intsAt_fresh (w.alloc (.cells #[.int .i64 n, .slice ra ll.length rcap] 24)) x 3
  rw [alloc_size] at hIx
  refine (H1.out _ _ (hxa.alloc' _) hIx).mono ?_
  rintro e w2 ⟨v2, rfl, ho2, hx2⟩
  have hI2 := ho2.ints
  obtain ⟨p2, q2, rfl, _, _, _⟩ := hI2
  have hI2 := ho2.ints
  have hx2' := (Ex.alloc _ _).trans hx2
  replace oT := oT.ex hx2'
  replace hxa := hxa.trans hx2'
  clear ho2 H1 hIx hx2 hx2'
  have c0 := oT.cell 0
  have c1 := oT.cell 1
  have z0 := oT.lt
  go_wp2_with fail
  refine (H2.out _ _ (hxa.alloc' _) (intsAt_fresh w2 y _)).mono ?_
  rintro e w3 ⟨v3, rfl, ho3, hx3⟩
  have hI3 := ho3.ints
  obtain ⟨p3, q3, rfl, _, _, _⟩ := hI3
  have hI3 := ho3.ints
  have hx3' := (Ex.alloc w2 _).trans hx3
  replace hI2 := hI2.ex hx3'
  replace hxa := hxa.trans hx3'
  clear ho3 H2 hx3 hx3' c0 c1 z0 oT
  have HA : Hid _ := HIn.out w3 _ LX y hI2
  have HB : Hid _ := HIn.out w3 _ LY x hI3
  clear HIn hI2 hI3
  have hLX : True := trivial
  generalize LX.contains y = CX at *
  generalize LY.contains x = CY at *
  generalize LX.length = lx at *
  generalize LY.length = ly at *
  cases BX with
  | false =>
    clear HA HB
    go_wp2
    go_ret
    exact ⟨ret_bool (by rw [HM.out]; simp), hxa⟩
  | true =>
    cases BY with
    | false =>
      clear HA HB
      go_wp2
      go_ret
      exact ⟨ret_bool (by rw [HM.out]; simp), hxa⟩
    | true =>
      cases CX with
      | false =>
        clear HB
        go_wp2_with fail
        refine Calls.mono HA.out ?_
        rintro e w' ⟨rfl, rfl⟩
        go_wp2
        go_ret
        exact ⟨ret_bool (by rw [HM.out]; simp), hxa⟩
      | true =>
        go_wp2_with fail
        refine Calls.mono HA.out ?_
        rintro e w' ⟨rfl, rfl⟩
        go_wp2_with fail
        refine Calls.mono HB.out ?_
        rintro e w' ⟨rfl, rfl⟩
        go_wp2
        go_ret
        exact ⟨ret_bool (by rw [HM.out]; simp), hxa⟩
/-- What Chain has found: each one tied, no two alike. -/
structure Found (n : Int) (ll : List (List Int)) (l : Int) (O : List Int) : Prop where
  tied : ∀ z ∈ O, Tied n ll l z
  nod : O.Nodup
  has : l ∈ O
theorem Found.len {n : Int} {ll : List (List Int)} {l : Int} {O : List Int} (h : Found n ll l O) (hl : litValid l n = true) : O.length ≤ 257 := by
  have := len_le_of_sub O ((List.range 257).map fun (k : Nat) => (k : Int) - 128) h.nod (fun x hx => by
    have := (litValid_iff _ _).1 ((h.tied x hx).valid hl)
    exact List.mem_map.2 ⟨(x + 128).toNat, List.mem_range.2 (by omega), by omega⟩)
  simpa using this
theorem Found.add {n : Int} {ll : List (List Int)} {l k : Int} {O : List Int} (h : Found n ll l O) {z : Int} (hz : z ∈ O) (hk : linkB n ll z k = true) (hn : k ∉ O) : Found n ll l (O ++ [k]) :=
  ⟨fun y hy => by
    rw [List.mem_append, List.mem_singleton] at hy
    rcases hy with hy | rfl
    · exact h.tied y hy
    · exact .tie (h.tied z hz) hk, by
    rw [List.nodup_append]
    exact ⟨h.nod, by simp, fun a ha b hb => by rw [List.mem_singleton] at hb; subst hb; rintro rfl; exact hn ha⟩, List.mem_append_left _ h.has⟩
/-- The first i of a list are at their end: all that they are linked with is there. -/
def AtEnd (n : Int) (ll : List (List Int)) (O : List Int) (i : Nat) : Prop := ∀ j, j < i → ∀ k, linkB n ll (O.getD j 0) k = true → k ∈ O
theorem found_all {n : Int} {ll : List (List Int)} {l : Int} {O : List Int} (h : Found n ll l O) (he : AtEnd n ll O O.length) {z : Int} (ht : Tied n ll l z) : z ∈ O := by
  induction ht with
  | refl => exact h.has
  | tie _ hl ih =>
    obtain ⟨j, hj, e⟩ := List.getElem_of_mem ih
    exact he j hj _ (by rw [getD_getElem hj, e]; exact hl)
end Go.Proofs.Ytnhlfhoeglnajaa
