/- The solver's recursive search. -/
import Derived.Test.YtagohmpbbbkdjaaDoorPropagate
namespace Go.Proofs.YtagohmpbbbkdjaaDoor
set_option linter.unusedSimpArgs false
set_option linter.unusedVariables false
open Go.RowKit
set_option maxRecDepth 20000

/-- The assignment that values are. -/
def alphaOf (vals : List Int) (v : Nat) : Bool := decide (vals.getD v 0 = 1)
/-- In the order of models: α comes before β, or they are the same. -/
def LexLe (n : Nat) (α β : Nat → Bool) : Prop := (∀ v, 1 ≤ v → v ≤ n → α v = β v) ∨ ∃ u, 1 ≤ u ∧ u ≤ n ∧ (∀ v, 1 ≤ v → v < u → α v = β v) ∧ α u = false ∧ β u = true
/-- The values are the least model among those that have some values. -/
structure Least (n : Nat) (ll : List (List Int)) (vals vals' : List Int) : Prop where
  total : ∀ v, 1 ≤ v → v ≤ n → vals'.getD v 0 ≠ 0
  sat : satT (alphaOf vals') ll
  agree : Agree n vals (alphaOf vals')
  least : ∀ β, Agree n vals β → satT β ll → LexLe n (alphaOf vals') β

theorem agree_alpha {n : Nat} {vals : List Int} : Agree n vals (alphaOf vals) := fun v _ _ => by
  unfold alphaOf
  exact ⟨fun h => decide_eq_true h, fun h => decide_eq_false (by omega)⟩
theorem total_true {n : Nat} {vals : List Int} {l : Int} (ht : Tri vals) (htot : ∀ v, 1 ≤ v → v ≤ n → vals.getD v 0 ≠ 0) (h1 : l ≠ 0) (h2 : l.natAbs ≤ n) : truthV vals l ≠ 0 := by
  have := htot l.natAbs (by omega) h2
  rw [truthV_abs]
  split <;> omega
theorem least_total {n : Nat} {ll : List (List Int)} {vals tr v1 t1 : List Int} (hp : Prop0 n ll vals tr v1 t1) (hset : ∀ c ∈ ll, Settled v1 c) (hlit : ∀ c ∈ ll, ∀ l ∈ c, l ≠ 0 ∧ l.natAbs ≤ n)
    (htot : ∀ v, 1 ≤ v → v ≤ n → v1.getD v 0 ≠ 0) : Least n ll vals v1 := by
  have htri := hp.grow.tri
  have hag : Agree n vals (alphaOf v1) := by
    obtain ⟨e, _, h1, h2⟩ := hp.grow.ext
    intro v a b
    have key : vals.getD v 0 = 0 ∨ v1.getD v 0 = vals.getD v 0 := by
      by_cases hv : (v : Int) ∈ e
      · left; have := (h1 _ hv).2.2.1; simpa using this
      · right; exact h2 v hv
    unfold alphaOf
    refine ⟨fun h => ?_, fun h => ?_⟩
    · rcases key with k | k
      · omega
      · simp only [decide_eq_true_eq]; omega
    · rcases key with k | k
      · omega
      · simp only [decide_eq_false_iff_not]; omega
  refine ⟨htot, fun c hc => ?_, hag, fun β hb hs => .inl fun v a b => ?_⟩
  · rcases hset c hc with ⟨l, hl, ht⟩ | ⟨l, hl, m, hm, _, h0, _⟩
    · exact ⟨l, hl, true_of_truth agree_alpha (hlit c hc l hl).1 (hlit c hc l hl).2 ht⟩
    · exact absurd h0 (total_true htri htot (hlit c hc l hl).1 (hlit c hc l hl).2)
  · have h1 := hp.keeps β hb hs v a b
    have h2 := htri v
    have h3 := htot v a b
    unfold alphaOf
    rcases h2 with h2 | h2 | h2
    · rw [h1.1 h2]; exact decide_eq_true h2
    · rw [h1.2 h2]; exact decide_eq_false (by omega)
    · exact absurd h2 h3
/-- The values of one more variable. -/
theorem agree_set {n : Nat} {vals : List Int} {β : Nat → Bool} {v : Nat} (hlen : vals.length = n + 1) (hv : 1 ≤ v) (hvn : v ≤ n) (hb : Agree n vals β) :
    (β v = false → Agree n (setV1 vals (-(v : Int))) β) ∧ (β v = true → Agree n (setV1 vals v) β) := by
  refine ⟨fun h => agree_unit hlen (by simpa using hvn) hb ?_, fun h => agree_unit hlen (by simpa using hvn) hb ?_⟩
  · unfold trueL; rw [if_pos (by omega)]; simp [h]
  · unfold trueL; rw [if_neg (by omega)]; simpa using h
theorem agree_of_set {n : Nat} {vals : List Int} {β : Nat → Bool} {l : Int} (hlen : vals.length = n + 1) (hv : l.natAbs ≤ n) (h0 : truthV vals l = 0) (hb : Agree n (setV1 vals l) β) : Agree n vals β := by
  intro v a b
  have h1 : vals.getD l.natAbs 0 = 0 := by rw [truthV_abs] at h0; split at h0 <;> omega
  have := hb v a b
  rw [setV1_get hlen hv] at this
  by_cases h : l.natAbs = v
  · rw [← h, h1]; exact ⟨fun e => (by cases e), fun e => (by cases e)⟩
  · rwa [if_neg h] at this
/-- The first half of a split holds a least model. -/
theorem least_no {n : Nat} {ll : List (List Int)} {v1 v2 : List Int} {v : Nat} (hlen : v1.length = n + 1) (hv : 1 ≤ v) (hvn : v ≤ n) (h0 : v1.getD v 0 = 0) (hlow : ∀ u, 1 ≤ u → u < v → v1.getD u 0 ≠ 0) (htri : Tri v1)
    (h : Least n ll (setV1 v1 (-(v : Int))) v2) : Least n ll v1 v2 := by
  have hnn : truthV v1 (-(v : Int)) = 0 := by rw [truthV_abs, show (-(v : Int)).natAbs = v by omega, h0]; split <;> rfl
  have hag := agree_of_set hlen (by simpa using hvn) hnn h.agree
  refine ⟨h.total, h.sat, hag, fun β hb hs => ?_⟩
  cases hbv : β v
  · exact h.least β ((agree_set hlen hv hvn hb).1 hbv) hs
  · refine .inr ⟨v, hv, hvn, fun u a b => ?_, ?_, hbv⟩
    · have h1 := hag u a (by omega)
      have h2 := hb u a (by omega)
      have h3 := hlow u a b
      rcases htri u with h4 | h4 | h4
      · rw [h1.1 h4, h2.1 h4]
      · rw [h1.2 h4, h2.2 h4]
      · exact absurd h4 h3
    · have := (h.agree v hv hvn).2
      rw [setV1_get hlen (by simpa using hvn)] at this
      exact this (by simp)
/-- The second half, if the first one has no model. -/
theorem least_yes {n : Nat} {ll : List (List Int)} {v1 v2 : List Int} {v : Nat} (hlen : v1.length = n + 1) (hv : 1 ≤ v) (hvn : v ≤ n) (h0 : v1.getD v 0 = 0)
    (hno : ∀ α, Agree n (setV1 v1 (-(v : Int))) α → ¬ satT α ll) (h : Least n ll (setV1 v1 v) v2) : Least n ll v1 v2 := by
  have hnn : truthV v1 (v : Int) = 0 := by rw [truthV_abs, show (v : Int).natAbs = v by omega, h0]; split <;> rfl
  refine ⟨h.total, h.sat, agree_of_set hlen (by simpa using hvn) hnn h.agree, fun β hb hs => ?_⟩
  cases hbv : β v
  · exact absurd hs (hno β ((agree_set hlen hv hvn hb).1 hbv))
  · exact h.least β ((agree_set hlen hv hvn hb).2 hbv) hs
theorem none_of_halves {n : Nat} {ll : List (List Int)} {v1 : List Int} {v : Nat} (hlen : v1.length = n + 1) (hv : 1 ≤ v) (hvn : v ≤ n)
    (hno : ∀ α, Agree n (setV1 v1 (-(v : Int))) α → ¬ satT α ll) (hno2 : ∀ α, Agree n (setV1 v1 v) α → ¬ satT α ll) : ∀ α, Agree n v1 α → ¬ satT α ll := fun α ha hs => by
  cases hbv : α v
  · exact hno α ((agree_set hlen hv hvn ha).1 hbv) hs
  · exact hno2 α ((agree_set hlen hv hvn ha).2 hbv) hs
theorem least_prop {n : Nat} {ll : List (List Int)} {vals tr v1 t1 v2 : List Int} (hp : Prop0 n ll vals tr v1 t1) (hag : Agree n v1 (alphaOf v2) → Agree n vals (alphaOf v2)) (h : Least n ll v1 v2) : Least n ll vals v2 :=
  ⟨h.total, h.sat, hag h.agree, fun β hb hs => h.least β (hp.keeps β hb hs) hs⟩
theorem agree_grow {n : Nat} {vals tr v1 t1 : List Int} (hg : Grow n vals tr v1 t1) {α : Nat → Bool} (h : Agree n v1 α) : Agree n vals α := by
  obtain ⟨e, _, h1, h2⟩ := hg.ext
  intro v a b
  by_cases hv : (v : Int) ∈ e
  · have := (h1 _ hv).2.2.1
    rw [Int.toNat_natCast] at this
    rw [this]; exact ⟨fun e => (by cases e), fun e => (by cases e)⟩
  · rw [← h2 v hv]; exact h v a b

/-- What the search hands back. -/
def TryRet (K : Nat → Prop) (w : World) (S V n : Nat) (lv : Value) (ll : List (List Int)) (vals tr : List Int) (e : Ending) (w' : World) : Prop :=
  ∃ (ok : Bool) (vals' tr' : List Int), e = .returned (.bool ok) ∧ Sol K w' S V n lv vals' tr' ∧ Keep K w w' ∧ Grow n vals tr vals' tr' ∧ tr'.length + zeros vals' ≤ 1000 ∧
    (ok = false → ∀ α, Agree n vals α → ¬ satT α ll) ∧ (ok = true → Least n ll vals vals')

set_option maxHeartbeats 4000000 in
theorem try_any (w0 : World) (S V n : Nat) (lv : Value) (ll : List (List Int)) (hR : RowsAt w0 lv ll) (hn : n ≤ 128) (hv : ∀ c ∈ ll, ∀ l ∈ c, litValid l n = true) (sb tb fb : Nat) :
    ∀ (k v : Nat) (K : Nat → Prop) (w : World) (vals tr : List Int), n + 2 - v ≤ k → 1 ≤ v → v ≤ n + 1 → Ex w0 w → (∀ b, b < w0.heap.size → K b) → K sb → K tb → K fb →
    w.cell? ⟨sb, 0, none⟩ = some (.pointer (some ⟨S, 0, none⟩)) → w.cell? ⟨tb, 0, none⟩ = some (.int .i64 n) →
    w.cell? ⟨fb, 0, none⟩ = some (.func (.func 38) #[] #[.pointer (some ⟨sb, 0, none⟩), .pointer (some ⟨tb, 0, none⟩), .pointer (some ⟨fb, 0, none⟩)]) →
    Sol K w S V n lv vals tr → Tri vals → tr.length + zeros vals ≤ 1000 → (∀ u, 1 ≤ u → u < v → vals.getD u 0 ≠ 0) →
    Calls Tryd.prog 38 #[.int .i64 v, .pointer (some ⟨sb, 0, none⟩), .pointer (some ⟨tb, 0, none⟩), .pointer (some ⟨fb, 0, none⟩)] w (TryRet K w S V n lv ll vals tr) := by
  intro k
  induction k with
  | zero => intro v K w vals tr hk h1 h2; omega
  | succ k ih =>
    intro v K w vals tr hk h1 h2 hx0 hK0 hKs hKt hKf cs ct cf hs htri hbd hlow
    have IH : Hid _ := ih
    clear ih
    have HP := propagate_any K w0 w S V n lv ll vals tr hR hx0 hK0 hs htri hn hv hbd
    have hlen0 : Hid (vals.length = n + 1) := hs.len
    have hlit : Hid (∀ c ∈ ll, ∀ l ∈ c, l ≠ 0 ∧ l.natAbs ≤ n) := fun c hc l hl => by
      have := hv c hc l hl
      rw [litValid_iff] at this
      omega
    have Hlow : Hid _ := hlow
    clear hlow
    go_enter Tryd.func38, Tryd.ntmps38
    go_wp2_with fail
    refine Calls.mono HP ?_
    clear HP
    rintro e w1 ⟨ok, v1, t1, rfl, hs1, hk1, hp1, hno, hset⟩
    have cs1 := hk1.cell hKs cs
    have ct1 := hk1.cell hKt ct
    have cf1 := hk1.cell hKf cf
    cases ok
    · have hno' : Hid (∀ α, Agree n vals α → ¬ satT α ll) := hno rfl
      clear hno hset
      go_wp2
      go_ret
      exact ⟨false, v1, t1, rfl, hs1, hk1, hp1.grow, hp1.bound, fun _ => hno'.out, fun h => (by cases h)⟩
    · have hset' : Hid (∀ c ∈ ll, Settled v1 c) := hset rfl
      clear hno hset
      have hvlen : Hid (v1.length = n + 1) := hs1.len
      have Hlow1 : Hid (∀ u, 1 ≤ u → u < v → v1.getD u 0 ≠ 0) := fun u a b => by
        obtain ⟨e, _, g1, g2⟩ := hp1.grow.ext
        by_cases hu : (u : Int) ∈ e
        · have := (g1 _ hu).2.2.2; rwa [Int.toNat_natCast] at this
        · rw [g2 u hu]; exact Hlow.out u a b
      have hval : ∀ j, j < n + 1 → w1.cell? ⟨V, j, none⟩ = some (.int .i64 (v1.getD j 0)) := fun j hj => by
        rw [hs1.hvals.cell, intsV, List.getElem?_map, List.getElem?_eq_getElem (by rw [hvlen.out]; exact hj), getD_getElem (by rw [hvlen.out]; exact hj)]; rfl
      have Hval : Hid _ := hval
      obtain ⟨trv, base, hS, hown, _⟩ := hs1.body
      obtain ⟨ta, tcap, rfl, _, _, _⟩ := hown.ints
      have cS2 : w1.cell? ⟨S, 2, none⟩ = some (.slice (some ⟨V, 0, none⟩) (n + 1) (n + 1)) := hS.cell 2
      have cS3 : w1.cell? ⟨S, 3, none⟩ = some (.slice ta t1.length tcap) := hS.cell 3
      clear hval hS hown
      go_wp2_with fail
      go_loop [0] (fun x => ∃ u : Nat, v ≤ u ∧ u ≤ n + 1 ∧ x = .int .i64 u ∧ Hid (∀ t, 1 ≤ t → t < u → v1.getD t 0 ≠ 0)) (fun x => n + 1 - (intOf x).toNat)
      case atStart => exact ⟨v, Nat.le_refl _, h2, rfl, Hlow1⟩
      case round =>
        obtain ⟨u, hu1, hu2, rfl, hul⟩ := hrel
        by_cases hun : u ≤ n
        · have hcu := Hval.out u (by omega)
          have hun' : (u : Int) < (n : Int) + 1 := by omega
          by_cases hz : v1.getD u 0 = 0
          · have hzb : ((v1.getD u 0 : Int) != 0) = false := by simp only [bne_eq_false_iff_eq]; exact hz
            have Hz : Hid (v1.getD u 0 = 0) := hz
            clear hz
            generalize v1.getD u 0 = x at hzb hcu
            go_wp2_with fail
            have hxu : Ex w1 (w1.alloc (.cells #[.int .i64 (-(u : Int)), .int .i64 u] 3)) := Ex.alloc _ _
            have hOB : OwnB (w1.alloc (.cells #[.int .i64 (-(u : Int)), .int .i64 u] 3)) w1.heap.size [.int .i64 (-(u : Int)), .int .i64 u] 3 := OwnB.new _ _ _
            have hs2 := hs1.ex hxu
            have hs2' : Sol (fun b => K b ∨ b = w1.heap.size) _ S V n lv v1 t1 := hs2.mono (fun b hb => hb.imp id (fun e => by subst e; exact ⟨Nat.le_refl _, by show _ < (w1.heap.push _).size; simp⟩))
            have hsz := fun b (hb : K b) => (hs1.kept b hb).1
            have hk2 : Keep K w (w1.alloc (.cells #[.int .i64 (-(u : Int)), .int .i64 u] 3)) := hk1.trans (hxu.keep hsz)
            have cs2 := ex_cell cs1 hxu
            have ct2 := ex_cell ct1 hxu
            have cf2 := ex_cell cf1 hxu
            clear hs2 hs1 hcu cS2 cS3 cs1 ct1 cf1 hxu hsz
            generalize hHb : w1.heap.size = H at *
            generalize w1.alloc (.cells #[.int .i64 (-(u : Int)), .int .i64 u] 3) = w2 at *
            clear hHb
            have hkx : Hid (∀ wr, Keep (fun b => K b ∨ b = H) w2 wr → Keep K w wr) := fun wr h => hk2.trans (h.mono fun b hb => .inl hb)
            have hkE : Hid (∀ wr, Keep K w wr → Ex w0 wr) := fun wr h => h.ex hx0 hK0
            have hu0 : 1 ≤ u := by omega
            have hb1 := hp1.bound
            go_loopw [42] (fun ix wr => ∃ j : Nat, j ≤ 2 ∧ ix = .int .i64 j ∧ Sol (fun b => K b ∨ b = H) wr S V n lv v1 t1 ∧ Keep (fun b => K b ∨ b = H) w2 wr ∧ Hid (1 ≤ j → ∀ α, Agree n (setV1 v1 (-(u : Int))) α → ¬ satT α ll) ∧ Hid (2 ≤ j → ∀ α, Agree n (setV1 v1 u) α → ¬ satT α ll)) (fun ix _ => 2 - (intOf ix).toNat)
            case atStart => exact ⟨0, by omega, rfl, hs2', Keep.refl _ _, fun h => by omega, fun h => by omega⟩
            case round =>
              obtain ⟨j, hj, rfl, hs3, hk3, hno1, hno2⟩ := hrel
              have hO3 := hk3.own (.inr rfl) hOB
              have cs3 := hk3.cell (.inl hKs) cs2
              have ct3 := hk3.cell (.inl hKt) ct2
              have cf3 := hk3.cell (.inl hKf) cf2
              have l0 : wr.cell? ⟨H, 0, none⟩ = some (.int .i64 (-(u : Int))) := hO3.cell 0
              have l1 : wr.cell? ⟨H, 1, none⟩ = some (.int .i64 u) := hO3.cell 1
              have step : ∀ l : Int, l.natAbs = u → ∀ w4, Sol (fun b => K b ∨ b = H) w4 S V n lv (setV1 v1 l) (t1 ++ [(l.natAbs : Int)]) → Keep (fun b => K b ∨ b = H) wr w4 →
                  Calls Tryd.prog 38 #[.int .i64 ((u : Int) + 1), .pointer (some ⟨sb, 0, none⟩), .pointer (some ⟨tb, 0, none⟩), .pointer (some ⟨fb, 0, none⟩)] w4 (TryRet (fun b => K b ∨ b = H) w4 S V n lv ll (setV1 v1 l) (t1 ++ [(l.natAbs : Int)])) ∧ Grow n v1 t1 (setV1 v1 l) (t1 ++ [(l.natAbs : Int)]) := by
                intro l hl w4 hs4 hk4
                rw [show ((u : Int) + 1) = ((u + 1 : Nat) : Int) by omega]
                have hnn : truthV v1 l = 0 := by rw [truthV_abs, hl, Hz.out]; split <;> rfl
                have hg := Grow.set (tr := t1) hp1.grow.tri hvlen.out (show l.natAbs ≤ n by omega) (by omega) hnn
                have hzz : zeros (setV1 v1 l) + 1 = zeros v1 := zeros_set (by rw [hvlen.out]; omega) (by rw [hl]; exact Hz.out) (by split <;> decide)
                refine ⟨IH.out (u + 1) _ w4 _ _ (by omega) (by omega) (by omega) (hkE.out _ (hkx.out _ (hk3.trans hk4))) (fun b hb => .inl (hK0 b hb)) (.inl hKs) (.inl hKt) (.inl hKf) (hk4.cell (.inl hKs) cs3) (hk4.cell (.inl hKt) ct3) (hk4.cell (.inl hKf) cf3) hs4 hg.tri (by simp only [List.length_append, List.length_singleton]; omega) ?_, hg⟩
                intro t a b
                rw [setV1_get hvlen.out (by omega)]
                split
                · split <;> decide
                · exact hul.out t a (by omega)
              have Step : Hid _ := step
              clear step
              obtain rfl | rfl | rfl : j = 0 ∨ j = 1 ∨ j = 2 := by omega
              · have hnn : truthV v1 (-(u : Int)) = 0 := by rw [truthV_abs, show (-(u : Int)).natAbs = u by omega, Hz.out]; split <;> rfl
                have hset := set_open _ wr S V n lv v1 t1 hs3 hp1.grow.tri (-(u : Int)) (by omega) (by omega) (by omega) hn hnn (by omega)
                have HS : Hid _ := hset
                clear hset hnn
                go_wp2_with fail
                refine Calls.mono HS.out ?_
                rintro e w4 ⟨rfl, hs4, hk4⟩
                have cs4 := hk4.cell (.inl hKs) cs3
                have cf4 := hk4.cell (.inl hKf) cf3
                have st := Step.out _ (by omega) w4 hs4 hk4
                have ST : Hid _ := st
                clear st HS
                go_wp2_with fail
                refine Calls.mono ST.out.1 ?_
                rintro e w5 ⟨ok, v5, t5, rfl, hs5, hk5, hg5, hb5, hn5, hl5⟩
                have hg15 : Hid (Grow n v1 t1 v5 t5) := ST.out.2.trans hg5
                have hk35 := hk3.trans (hk4.trans hk5)
                clear ST hk4 hs4 cs4 cf4 hg5
                cases ok
                · have hn6 : Hid (∀ α, Agree n (setV1 v1 (-(u : Int))) α → ¬ satT α ll) := hn5 rfl
                  obtain ⟨ex, he, hei, _⟩ := hg15.out.ext
                  have hlen5 : t1.length ≤ t5.length := by rw [he]; simp
                  have hbk := back_any _ w5 S V n lv v5 t5 hs5 t1.length hlen5 (fun x hx => by rw [he, List.drop_left] at hx; exact ⟨(hei x hx).1, (hei x hx).2.1⟩) (by omega)
                  rw [hg15.out.back.1, hg15.out.back.2] at hbk
                  have HB : Hid _ := hbk
                  have cs5 := hk35.cell (.inl hKs) cs2
                  clear hbk hei he hn5 hl5
                  go_wp2_with fail
                  refine Calls.mono HB.out ?_
                  rintro e w6 ⟨rfl, hs6, hk6⟩
                  have hk36 := hk35.trans hk6
                  clear HB hs5 hk5 hk35 hk6
                  go_wp2
                  go_roundw
                  case rel => exact ⟨1, by omega, by go_num, hs6, hk36, fun _ => hn6.out, fun h => by omega⟩
                  case measure => simp [intOf]
                · have hl6 : Hid (Least n ll vals v5) := least_prop hp1 (agree_grow hp1.grow) (least_no hvlen.out hu0 hun Hz.out hul.out hp1.grow.tri (hl5 rfl))
                  have hs6 := hs5.mono (K' := K) (fun b hb => .inl hb)
                  have hk6 := hkx.out _ hk35
                  have hg6 : Hid _ := hp1.grow.trans hg15.out
                  clear hn5 hl5 hs5 hk35 hk5
                  go_wp2
                  go_ret
                  exact ⟨true, v5, t5, rfl, hs6, hk6, hg6.out, hb5, fun h => (by cases h), fun _ => hl6.out⟩
              · have hnn : truthV v1 (u : Int) = 0 := by rw [truthV_abs, show (u : Int).natAbs = u by omega, Hz.out]; split <;> rfl
                have hset := set_open _ wr S V n lv v1 t1 hs3 hp1.grow.tri (u : Int) (by omega) (by omega) (by omega) hn hnn (by omega)
                have HS : Hid _ := hset
                clear hset hnn
                go_wp2_with fail
                refine Calls.mono HS.out ?_
                rintro e w4 ⟨rfl, hs4, hk4⟩
                have cs4 := hk4.cell (.inl hKs) cs3
                have cf4 := hk4.cell (.inl hKf) cf3
                have st := Step.out _ (by omega) w4 hs4 hk4
                have ST : Hid _ := st
                clear st HS
                go_wp2_with fail
                refine Calls.mono ST.out.1 ?_
                rintro e w5 ⟨ok, v5, t5, rfl, hs5, hk5, hg5, hb5, hn5, hl5⟩
                have hg15 : Hid (Grow n v1 t1 v5 t5) := ST.out.2.trans hg5
                have hk35 := hk3.trans (hk4.trans hk5)
                clear ST hk4 hs4 cs4 cf4 hg5
                cases ok
                · have hn6 : Hid (∀ α, Agree n (setV1 v1 u) α → ¬ satT α ll) := hn5 rfl
                  obtain ⟨ex, he, hei, _⟩ := hg15.out.ext
                  have hlen5 : t1.length ≤ t5.length := by rw [he]; simp
                  have hbk := back_any _ w5 S V n lv v5 t5 hs5 t1.length hlen5 (fun x hx => by rw [he, List.drop_left] at hx; exact ⟨(hei x hx).1, (hei x hx).2.1⟩) (by omega)
                  rw [hg15.out.back.1, hg15.out.back.2] at hbk
                  have HB : Hid _ := hbk
                  have cs5 := hk35.cell (.inl hKs) cs2
                  clear hbk hei he hn5 hl5
                  go_wp2_with fail
                  refine Calls.mono HB.out ?_
                  rintro e w6 ⟨rfl, hs6, hk6⟩
                  have hk36 := hk35.trans hk6
                  clear HB hs5 hk5 hk35 hk6
                  go_wp2
                  go_roundw
                  case rel => exact ⟨2, by omega, by go_num, hs6, hk36, fun _ => hno1.out (by omega), fun _ => hn6.out⟩
                  case measure => simp [intOf]
                · have hl6 : Hid (Least n ll vals v5) := least_prop hp1 (agree_grow hp1.grow) (least_yes hvlen.out hu0 hun Hz.out (hno1.out (by omega)) (hl5 rfl))
                  have hs6 := hs5.mono (K' := K) (fun b hb => .inl hb)
                  have hk6 := hkx.out _ hk35
                  have hg6 : Hid _ := hp1.grow.trans hg15.out
                  clear hn5 hl5 hs5 hk35 hk5
                  go_wp2
                  go_ret
                  exact ⟨true, v5, t5, rfl, hs6, hk6, hg6.out, hb5, fun h => (by cases h), fun _ => hl6.out⟩
              · have hno : Hid (∀ α, Agree n vals α → ¬ satT α ll) := fun α ha hs => none_of_halves hvlen.out hu0 hun (hno1.out (by omega)) (hno2.out (by omega)) α (hp1.keeps α ha hs) hs
                have hs6 := hs3.mono (K' := K) (fun b hb => .inl hb)
                have hk6 := hkx.out _ hk3
                clear Step hno1 hno2 hs3 hk3
                go_wp2
                go_ret
                exact ⟨false, v1, t1, rfl, hs6, hk6, hp1.grow, hp1.bound, fun _ => hno.out, fun h => (by cases h)⟩
          · have hzb : ((v1.getD u 0 : Int) != 0) = true := by simp only [bne_iff_ne]; exact hz
            have hul2 : Hid (∀ t, 1 ≤ t → t < u + 1 → v1.getD t 0 ≠ 0) := fun t a b => by
              by_cases e : t = u
              · subst e; exact hz
              · exact hul.out t a (by omega)
            clear hz hul
            generalize v1.getD u 0 = x at hzb hcu
            go_wp2_with fail
            go_round
            case rel => exact ⟨u + 1, by omega, by omega, by go_num, hul2⟩
            case measure => simp [intOf]; omega
        · have hle : Hid (Least n ll vals v1) := least_total hp1 hset'.out hlit.out fun t a b => hul.out t a (by omega)
          clear hul
          go_wp2_with fail
          go_ret
          exact ⟨true, v1, t1, rfl, hs1, hk1, hp1.grow, hp1.bound, fun h => (by cases h), fun _ => hle.out⟩
end Go.Proofs.YtagohmpbbbkdjaaDoor
