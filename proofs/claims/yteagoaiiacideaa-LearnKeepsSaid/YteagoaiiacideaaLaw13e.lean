/- Chapter 13: the question of the laws of the trail: light. No condition. -/
import Derived.Test.YteagoaiiacideaaLaw13a
import Derived.Test.YteagoaiiacideaaOpenC
namespace Go.Proofs.Yteagoaiiacideaa
set_option linter.unusedSimpArgs false
set_option linter.unusedVariables false
open Go.RowKit
set_option maxRecDepth 20000
/-- What light says of a question. -/
def AskRet (w : World) (ll : List (List Int)) (ks : List Int) (e : Ending) (w' : World) : Prop := ∃ b : Bool, e = .returned (.bool b) ∧ (b = true → (ll.length ≤ 60 ∧ ∀ c ∈ ll, c.length ≤ 140) ∧ ks.length ≤ 30) ∧ Ex w w'
set_option maxHeartbeats 4000000 in
theorem askLight_any (n nb : Int) (lv kv : Value) (ll : List (List Int)) (ks : List Int) (w : World) (hR : RowsAt w lv ll) (hk : BytesAt w kv ks) :
    Calls Try.prog 24 #[.agg #[.int .i64 n, lv, .int .u8 nb, kv]] w (AskRet w ll ks) := by
  have HL : Hid (∀ wa, Ex w wa → Calls Try.prog 32 #[.agg #[.int .i64 n, lv]] wa (LightRet wa ll)) := fun wa hx => light05_any n lv ll wa (hR.ex hx)
  obtain ⟨ra, rcap, rfl, _, _, r3⟩ := hR
  obtain ⟨pa, pcap, rfl, _, _, p3⟩ := hk
  clear r3 p3
  have o := OwnB.new w [.int .i64 n, .slice ra ll.length rcap, .int .u8 nb, .slice pa ks.length pcap] 46
  have hxa := Ex.alloc w (.cells #[.int .i64 n, .slice ra ll.length rcap, .int .u8 nb, .slice pa ks.length pcap] 46)
  go_enter Try.func24, Try.ntmps24
  go_wp2_with fail
  refine (HL.out _ hxa).mono ?_
  rintro e w2 ⟨b, rfl, hb, hx2⟩
  have c2 := (o.ex hx2).cell 3
  have z0 := (o.ex hx2).lt
  have hx := hxa.trans hx2
  have hB : Hid _ := hb
  clear hb o hxa hx2 HL
  cases b with
  | false =>
    go_wp2
    go_ret
    exact ⟨_, rfl, fun h => (by cases h), hx⟩
  | true =>
    by_cases h1 : ks.length ≤ 30
    · go_wp2
      go_ret
      exact ⟨_, rfl, fun _ => ⟨(by first | exact hB.out rfl | exact hB.out trivial), h1⟩, hx⟩
    · go_wp2
      go_ret
      exact ⟨_, rfl, fun h => (by first | (cases h; done) | (simp at h; omega) | omega), hx⟩
end Go.Proofs.Yteagoaiiacideaa
