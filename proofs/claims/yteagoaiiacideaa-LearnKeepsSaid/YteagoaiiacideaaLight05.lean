/- The statements' Light: what it leaves. No condition. -/
import Derived.Test.YteagoaiiacideaaG2
import Derived.Test.YteagoaiiacideaaRef15
namespace Go.Proofs.Yteagoaiiacideaa
set_option linter.unusedSimpArgs false
set_option linter.unusedVariables false
open Go.RowKit
set_option maxRecDepth 20000
theorem rowsAt_of {w : World} {g : Nat} {t : TypeId} {cs : List Value} {ll : List (List Int)} (h : OwnB w g cs t) (hl : cs.length = ll.length) (hm : ll.length ≤ maxLen)
    (hr : ∀ k, k < ll.length → ∃ rv, cs[k]? = some rv ∧ IntsAt w rv (ll.getD k [])) : RowsAt w (.slice (some ⟨g, 0, none⟩) ll.length ll.length) ll :=
  ⟨_, _, rfl, Nat.le_refl _, hm, fun k hk => by
    obtain ⟨rv, h1, h2⟩ := hr k hk
    exact ⟨g, 0, rv, rfl, h.lt, by rw [Nat.zero_add, h.cell]; exact h1, h2⟩⟩
theorem litAtN (w : World) (l : List Int) (t : TypeId) (hm : l.length ≤ maxLen) : IntsAt (w.alloc (.cells (intsV l).toArray t)) (.slice (some ⟨w.heap.size, 0, none⟩) l.length l.length) l := intsAt_of_block (OwnB.new w (intsV l) t) hm
/-- What a test of sizes says. -/
def LightRet (w : World) (ll : List (List Int)) (e : Ending) (w' : World) : Prop := ∃ b : Bool, e = .returned (.bool b) ∧ (b = true → ll.length ≤ 60 ∧ ∀ c ∈ ll, c.length ≤ 140) ∧ Ex w w'
theorem light_all {ll : List (List Int)} {m : Nat} (h : ∀ j, j < ll.length → (ll.getD j []).length ≤ m) : ∀ c ∈ ll, c.length ≤ m := fun c hc => by
  obtain ⟨k, hk, rfl⟩ := List.getElem_of_mem hc
  have := h k hk
  rwa [getD_getElem hk] at this
set_option maxHeartbeats 1000000 in
theorem light05_any (n : Int) (lv : Value) (ll : List (List Int)) (w : World) (hR : RowsAt w lv ll) :
    Calls Try.prog 32 #[.agg #[.int .i64 n, lv]] w (LightRet w ll) := by
  have hR0 := hR
  obtain ⟨ra, rcap, rfl, r1, r2, r3⟩ := hR
  unfold maxLen at r2
  clear r3
  have HL : Hid ((∀ j, j < ll.length → (ll.getD j []).length ≤ 140) → ∀ c ∈ ll, c.length ≤ 140) := light_all
  go_enter Try.func32, Try.ntmps32
  go_wp2
  generalize hwa : w.alloc (.cells #[.int .i64 n, .slice ra ll.length rcap] 24) = wa
  have hxa : Ex w wa := hwa ▸ Ex.alloc _ _
  have c1 : wa.cell? ⟨w.heap.size, 1, none⟩ = some (.slice ra ll.length rcap) := by rw [← hwa]; simp
  have z1 : w.heap.size < wa.heap.size := cell_lt c1
  clear hwa
  go_loop [8] (fun i => ∃ k : Nat, k ≤ ll.length ∧ i = .int .i64 k ∧ Hid (∀ j, j < k → (ll.getD j []).length ≤ 140)) (fun i => ll.length - (intOf i).toNat)
  case atStart => exact ⟨0, Nat.zero_le _, rfl, fun j hj => (by omega)⟩
  case round =>
    obtain ⟨k, hk, rfl, hd⟩ := hrel
    by_cases hlt : k < ll.length
    · obtain ⟨_, _, hv, _, _, h3⟩ := hR0.ex hxa
      cases hv
      obtain ⟨b, off, rv, rfl, hb, hcell, hrow⟩ := h3 k hlt
      obtain ⟨ca, ccap, rfl, q1, q2, _⟩ := hrow
      clear h3
      unfold maxLen at q2
      by_cases h140 : (ll.getD k []).length ≤ 140
      · have hd2 : Hid (∀ j, j < k + 1 → (ll.getD j []).length ≤ 140) := fun j hj => by
          by_cases e : j = k
          · subst e; exact h140
          · exact hd.out j (by omega)
        clear hd
        generalize (ll.getD k []).length = cl at *
        go_wp2
        go_round
        case rel => exact ⟨k + 1, by omega, by go_num, hd2⟩
        case measure => simp [intOf]; omega
      · generalize (ll.getD k []).length = cl at *
        go_wp2
        go_ret
        exact ⟨_, rfl, fun h => (by cases h), hxa⟩
    · have hall := HL.out fun j hj => hd.out j (by omega)
      have HA : Hid _ := hall
      clear hall hd HL
      by_cases h1 : ll.length ≤ 60
      · go_wp2
        go_ret
        exact ⟨_, rfl, fun _ => ⟨h1, HA.out⟩, hxa⟩
      · go_wp2
        go_ret
        refine ⟨_, rfl, fun h => ?_, hxa⟩
        exfalso
        first | (cases h; done) | (simp at h; omega)
end Go.Proofs.Yteagoaiiacideaa
