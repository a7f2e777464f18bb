/- The solver's method propagate. -/
import Derived.Test.YtagohmpbbbkdjaaDoorSat
namespace Go.Proofs.YtagohmpbbbkdjaaDoor
set_option linter.unusedSimpArgs false
set_option linter.unusedVariables false
open Go.RowKit
set_option maxRecDepth 20000

/-- What propagate hands back. -/
def PropRet (K : Nat → Prop) (w : World) (S V n : Nat) (lv : Value) (ll : List (List Int)) (vals tr : List Int) (e : Ending) (w' : World) : Prop :=
  ∃ (ok : Bool) (vals' tr' : List Int), e = .returned (.bool ok) ∧ Sol K w' S V n lv vals' tr' ∧ Keep K w w' ∧ Prop0 n ll vals tr vals' tr' ∧
    (ok = false → ∀ α, Agree n vals α → ¬ satT α ll) ∧ (ok = true → ∀ c ∈ ll, Settled vals' c)

set_option maxHeartbeats 4000000 in
theorem propagate_any (K : Nat → Prop) (w0 w : World) (S V n : Nat) (lv : Value) (ll : List (List Int)) (vals tr : List Int) (hR : RowsAt w0 lv ll) (hx0 : Ex w0 w) (hK0 : ∀ b, b < w0.heap.size → K b)
    (hs : Sol K w S V n lv vals tr) (ht : Tri vals) (hn : n ≤ 128) (hv : ∀ c ∈ ll, ∀ l ∈ c, litValid l n = true) (hb : tr.length + zeros vals ≤ 1000) :
    Calls Tryd.prog 39 #[.pointer (some ⟨S, 0, none⟩)] w (PropRet K w S V n lv ll vals tr) := by
  have hlen0 : Hid (vals.length = n + 1) := hs.len
  have hlit : Hid (∀ c ∈ ll, ∀ l ∈ c, l ≠ 0 ∧ l.natAbs ≤ n) := fun c hc l hl => by
    have := hv c hc l hl
    rw [litValid_iff] at this
    omega
  have hKE : Hid (∀ wr, Keep K w wr → Ex w0 wr) := fun wr h => h.ex hx0 hK0
  have hR0 := hR
  obtain ⟨ra, rcap, rfl, r1, r2, r3⟩ := hR
  unfold maxLen at r2
  have HR : Hid (RowsAt w0 (.slice ra ll.length rcap) ll) := hR0
  have H0 : Prop0 n ll vals tr vals tr := ⟨Grow.refl ht, fun α h _ => h, hb⟩
  clear r3 hR0 hv hx0 hK0 ht hb
  go_enter Tryd.func39, Tryd.ntmps39
  go_wp2
  go_loopg [3] (zeros vals + 1) (fun g ch wr => ∃ (v1 t1 : List Int) (cb : Bool), ch = .bool cb ∧ Sol K wr S V n (.slice ra ll.length rcap) v1 t1 ∧ Keep K w wr ∧ Prop0 n ll vals tr v1 t1 ∧ Hid (cb = false → ∀ c ∈ ll, Settled v1 c) ∧ Hid (zeros v1 + cb.toNat ≤ g))
  case atStart => exact ⟨vals, tr, true, rfl, hs, Keep.refl _ _, H0, fun h => (by cases h), Nat.le_refl _⟩
  case round =>
    obtain ⟨v1, t1, cb, rfl, hs1, hk1, hp1, hset1, hz1⟩ := hrel
    cases cb
    · have hset : Hid (∀ c ∈ ll, Settled v1 c) := hset1.out rfl
      clear hset1
      go_wp2
      go_ret
      exact ⟨true, v1, t1, rfl, hs1, hk1, hp1, fun h => (by cases h), fun _ => hset.out⟩
    · clear hset1
      obtain ⟨trv, base, hS, _⟩ := hs1.body
      have c1 : wr.cell? ⟨S, 1, none⟩ = some (.slice ra ll.length rcap) := hS.cell 1
      clear hS
      go_wp2
      go_step3
      go_wp2
      go_step3
      go_wp2
      obtain ⟨wo, rfl⟩ : ∃ wo : World, wo = wr := ⟨_, rfl⟩
      go_loopw [3, 16] (fun ch ix wr => ∃ (i : Nat) (v2 t2 : List Int) (cb : Bool), i ≤ ll.length ∧ ix = .int .i64 i ∧ ch = .bool cb ∧ Sol K wr S V n (.slice ra ll.length rcap) v2 t2 ∧ Keep K w wr ∧ Prop0 n ll vals tr v2 t2 ∧ Hid (cb = true → zeros v2 < zeros v1) ∧ Hid (cb = false → v2 = v1 ∧ ∀ j, j < i → Settled v1 (ll.getD j []))) (fun _ ix _ => ll.length - (intOf ix).toNat)
      case atStart => exact ⟨0, v1, t1, false, Nat.zero_le _, rfl, rfl, hs1, hk1, hp1, fun h => (by cases h), fun _ => ⟨rfl, fun j hj => by omega⟩⟩
      case round =>
        obtain ⟨i, v2, t2, cb, hi, rfl, rfl, hs2, hk2, hp2, hz2, hset2⟩ := hrel
        by_cases hlt : i < ll.length
        · obtain ⟨_, _, hv, _, _, h3⟩ := HR.out.ex (hKE.out wr hk2)
          cases hv
          obtain ⟨rb, roff, rv, rfl, hrb, hrc, hrr⟩ := h3 i hlt
          have hmem : Hid (ll.getD i [] ∈ ll) := by show _ ∈ _; rw [getD_getElem hlt]; exact List.getElem_mem hlt
          have hset3 : Hid (Settled v2 (ll.getD i []) → cb = false → v2 = v1 ∧ ∀ j, j < i + 1 → Settled v1 (ll.getD j [])) := fun h hc => by
            obtain ⟨h1, h2⟩ := hset2.out hc
            refine ⟨h1, fun j hj => ?_⟩
            by_cases e : j = i
            · subst e; rw [← h1]; exact h
            · exact h2 j (by omega)
          have hv12 : Hid (cb = false → v2 = v1) := fun h => (hset2.out h).1
          clear h3 hset2
          generalize hrow : ll.getD i [] = row at *
          clear hrow
          have hrow0 := hrr
          obtain ⟨ca, ccap, rfl, q1, q2, q3⟩ := hrr
          unfold maxLen at q2
          clear q3
          have htri : Hid (Tri v2) := hp2.grow.tri
          have hlr : Hid (∀ l ∈ row, l ≠ 0 ∧ l.natAbs ≤ n) := hlit.out row hmem.out
          go_wp2
          go_loop [6, 22] (fun op mx => ∃ (m : Nat) (o : Int), m ≤ row.length ∧ op = .int .i64 o ∧ mx = .int .i64 m ∧ Hid (OpenI v2 row m o)) (fun _ mx => row.length - (intOf mx).toNat)
          case atStart => exact ⟨0, 0, Nat.zero_le _, rfl, rfl, OpenI.start _ _⟩
          case round =>
            obtain ⟨m, o, hm, rfl, rfl, ho⟩ := hrel
            by_cases hlt2 : m < row.length
            · obtain ⟨_, _, hv, _, _, q3⟩ := hrow0
              cases hv
              obtain ⟨cb', coff, rfl, hcb, hcc⟩ := q3 m hlt2
              clear q3
              have hx := hlr.out (row.getD m 0) (by rw [getD_getElem hlt2]; exact List.getElem_mem hlt2)
              have HT := truth_any K wr S V n _ v2 t2 hs2 htri.out (row.getD m 0) (by omega) (by omega) hn
              have hcases := truthV_tri htri.out (row.getD m 0)
              have ho1 : Hid (truthV v2 (row.getD m 0) = 1 → Settled v2 row) := fun h => .inl ⟨row.getD m 0, by rw [getD_getElem hlt2]; exact List.getElem_mem hlt2, h⟩
              have ho2 : Hid (truthV v2 (row.getD m 0) = -1 → OpenI v2 row (m + 1) o) := fun h => ho.out.false h
              have ho3 : Hid (truthV v2 (row.getD m 0) = 0 → (o = 0 ∨ o = row.getD m 0) → OpenI v2 row (m + 1) (row.getD m 0)) := fun h h' => ho.out.open hlt2 hx.1 h h'
              have ho4 : Hid (truthV v2 (row.getD m 0) = 0 → o ≠ 0 → o ≠ row.getD m 0 → Settled v2 row) := fun h h1 h2 => ho.out.two hlt2 h h1 h2
              clear ho hx
              generalize truthV v2 (row.getD m 0) = T at *
              generalize row.getD m 0 = x at *
              rcases hcases with rfl | rfl | rfl
              · have hfin : Hid (cb = false → v2 = v1 ∧ ∀ j, j < i + 1 → Settled v1 (ll.getD j [])) := hset3.out (ho1.out rfl)
                have HT2 : Hid _ := HT
                clear HT ho1 ho2 ho3 ho4 hset3
                go_wp2_with (go_at_call 46; refine Calls.mono HT2.out ?_; rintro e w' ⟨rfl, rfl⟩)
                go_roundw
                case rel => exact ⟨i + 1, v2, t2, cb, by omega, by go_num, rfl, hs2, hk2, hp2, hz2, hfin⟩
                case measure => simp [intOf]; omega
              · have hnx : Hid (OpenI v2 row (m + 1) o) := ho2.out rfl
                have HT2 : Hid _ := HT
                clear HT ho1 ho2 ho3 ho4
                go_wp2_with (go_at_call 46; refine Calls.mono HT2.out ?_; rintro e w' ⟨rfl, rfl⟩)
                go_round
                case rel => exact ⟨m + 1, o, by omega, rfl, by go_num, hnx⟩
                case measure => simp [intOf]; omega
              · have HT2 : Hid _ := HT
                by_cases ho0 : o = 0
                · have hb0 : (o != 0) = false := by simp [ho0]
                  have hnx : Hid (OpenI v2 row (m + 1) x) := ho3.out rfl (.inl ho0)
                  clear HT ho1 ho2 ho3 ho4 ho0
                  go_wp2_with (go_at_call 46; refine Calls.mono HT2.out ?_; rintro e w' ⟨rfl, rfl⟩)
                  go_round
                  case rel => exact ⟨m + 1, x, by omega, rfl, by go_num, hnx⟩
                  case measure => simp [intOf]; omega
                · have hb0 : (o != 0) = true := by simp [ho0]
                  by_cases hox : o = x
                  · have hb1 : (o != x) = false := by simp [hox]
                    have hnx : Hid (OpenI v2 row (m + 1) x) := ho3.out rfl (.inr hox)
                    clear HT ho1 ho2 ho3 ho4 ho0 hox
                    go_wp2_with (go_at_call 46; refine Calls.mono HT2.out ?_; rintro e w' ⟨rfl, rfl⟩)
                    go_round
                    case rel => exact ⟨m + 1, x, by omega, rfl, by go_num, hnx⟩
                    case measure => simp [intOf]; omega
                  · have hb1 : (o != x) = true := by simp [hox]
                    have hfin : Hid (cb = false → v2 = v1 ∧ ∀ j, j < i + 1 → Settled v1 (ll.getD j [])) := hset3.out (ho4.out rfl ho0 hox)
                    clear HT ho1 ho2 ho3 ho4 ho0 hox hset3
                    go_wp2_with (go_at_call 46; refine Calls.mono HT2.out ?_; rintro e w' ⟨rfl, rfl⟩)
                    go_roundw
                    case rel => exact ⟨i + 1, v2, t2, cb, by omega, by go_num, rfl, hs2, hk2, hp2, hz2, hfin⟩
                    case measure => simp [intOf]; omega
            · have ho' : Hid (OpenI v2 row row.length o) := by show OpenI _ _ _ _; rw [show row.length = m by omega]; exact ho.out
              clear ho
              by_cases ho0 : o = 0
              · subst ho0
                have hcf : Hid (∀ α, Agree n vals α → ¬ satT α ll) := hp2.conflict hmem.out hlr.out ho'.out
                clear ho' hset3
                go_wp2
                go_ret
                exact ⟨false, v2, t2, rfl, hs2, hk2, hp2, fun _ => hcf.out, fun h => (by cases h)⟩
              · have hb0 : (o == 0) = false := by simp [ho0]
                have hopn := ho'.out.opn ho0
                have hol := hlr.out o hopn.1
                have hset := set_open K wr S V n _ v2 t2 hs2 htri.out o (by omega) (by omega) ho0 hn hopn.2 (by have := hp2.bound; omega)
                have hset' : Hid _ := hset
                have hpu := hp2.unit hlen0.out hmem.out hlr.out ho'.out ho0
                clear ho' hset hopn hol ho0
                go_wp2_with fail
                refine Calls.mono hset'.out ?_
                rintro e w5 ⟨rfl, hs5, hk5⟩
                obtain ⟨hp5, hz5⟩ := hpu
                have hz6 : Hid (zeros (setV1 v2 o) < zeros v1) := by
                  show _ < _
                  cases cb
                  · rw [← hv12.out rfl]; exact hz5
                  · exact Nat.lt_trans hz5 (hz2.out rfl)
                have hk6 := hk2.trans hk5
                clear hset' hz5 hz2 hset3
                go_wp2
                go_roundw
                case rel => exact ⟨i + 1, _, _, true, by omega, by go_num, rfl, hs5, hk6, hp5, fun _ => hz6.out, fun h => (by cases h)⟩
                case measure => simp [intOf]; omega
        · have hend : Hid (cb = false → ∀ c ∈ ll, Settled v2 c) := fun h c hc => by
            obtain ⟨e, h2⟩ := hset2.out h
            obtain ⟨j, hj, rfl⟩ := List.getElem_of_mem hc
            have := h2 j (by omega)
            rwa [getD_getElem hj, ← e] at this
          have hzz : Hid (zeros v2 + cb.toNat ≤ zeros v1) := by
            show _ ≤ _
            cases cb
            · rw [(hset2.out rfl).1]; exact Nat.le_refl _
            · have := hz2.out rfl; simp only [Bool.toNat_true]; omega
          clear hset2 hz2
          have hgk : zeros v1 < gk := by have := hz1.out; simp only [Bool.toNat_true] at this; omega
          go_wp2
          rw [Exit.noGoto_normal]
          go_wp2
          go_roundg (zeros v1)
          case measure => exact hgk
          case rel => exact ⟨v2, t2, cb, rfl, hs2, hk2, hp2, hend, hzz⟩
end Go.Proofs.YtagohmpbbbkdjaaDoor
