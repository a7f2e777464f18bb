/- Chapter 15: ProbeCloses and ProbeMore: the walks. No condition. -/
import Derived.Test.YtnhlfhoeglnajaaLaw15b
import Derived.Test.YtnhlfhoeglnajaaBonesP
import Derived.Test.YtnhlfhoeglnajaaWithin
namespace Go.Proofs.Ytnhlfhoeglnajaa
set_option linter.unusedSimpArgs false
set_option linter.unusedVariables false
open Go.RowKit
set_option maxRecDepth 20000
/-- What Probe says of a list. -/
def probeT (n : Int) (ll : List (List Int)) (l : List Int) : Option (List Int) := probeO n ll (termB l n) (termL l n)
theorem probeT_some {n : Int} {ll : List (List Int)} {l r : List Int} (h : probeT n ll l = some r) : theoryErr n ll = 0 ∧ termB l n = true ∧ Firm n ll (· ∈ r) ∧ (∀ d ∈ l, d ∈ r) ∧ Strict r ∧ ∀ x ∈ r, litValid x n = true := by
  unfold probeT probeO at h
  split at h
  · rename_i hc
    obtain ⟨ht, h1, h2, h3, h4⟩ := probe_self h
    exact ⟨ht, hc.2, h1, fun d hd => h2 d ((termL_mem hc.2 d).2 hd), h3, h4⟩
  · cases h
/-- A term whose literals a firm set has is found, within the set. -/
theorem probeT_firm {n : Int} {ll : List (List Int)} {l : List Int} {S : Int → Prop} (h : Firm n ll S) (ht : theoryErr n ll = 0) (hl : ∀ d ∈ l, S d ∧ litValid d n = true) : ∃ r, probeT n ll l = some r ∧ ∀ x ∈ r, S x := by
  have hv : termB l n = true := by
    rw [termB_eq, List.all_eq_true]
    intro x hx
    rw [Bool.and_eq_true]
    refine ⟨(hl x hx).2, ?_⟩
    rw [Bool.not_eq_true', ← Bool.not_eq_true, List.contains_iff_mem]
    exact fun hn => h.fits.con x (hl x hx).1 (hl _ hn).1
  obtain ⟨r, h1, h2⟩ := probe_firm h ht (f := termL l n) fun d hd => hl d ((termL_mem hv d).1 hd)
  exact ⟨r, by unfold probeT probeO; rw [if_pos ⟨ht, hv⟩]; exact h1, h2⟩
theorem all_in {a b : List Int} (h : ∀ x ∈ a, x ∈ b) : a.all (b.contains ·) = true := List.all_eq_true.2 fun x hx => List.contains_iff_mem.2 (h x hx)
/-- What ProbeCloses asks. -/
theorem closes15 {n : Int} {ll : List (List Int)} {l r : List Int} (h : probeT n ll l = some r) : closB n ll l = true ∧ (closL n ll l).all (r.contains ·) = true ∧ probeT n ll r = some r ∧ theoryErr n ll = 0 ∧
    ∃ q, probeT n ll [] = some q ∧ q.all (r.contains ·) = true ∧ (boneB n ll = true → q.all ((boneO n ll).contains ·) = true) := by
  obtain ⟨ht, hv, hf, hl, hs, hval⟩ := probeT_some h
  have hlv := termB_valid hv
  obtain ⟨c1, c2⟩ := firm_clos hf.fits ht (f := l) fun d hd => ⟨hl d hd, hlv d hd⟩
  obtain ⟨r2, e2, s2⟩ := probeT_firm hf ht (l := r) fun d hd => ⟨hd, hval d hd⟩
  obtain ⟨_, _, _, hl2, hs2, _⟩ := probeT_some e2
  obtain ⟨q, eq, sq⟩ := probeT_firm hf ht (l := []) fun d hd => (by cases hd)
  obtain ⟨_, _, hfq, _, _, hqv⟩ := probeT_some eq
  refine ⟨c1, all_in fun x hx => (c2 x hx).1, by rw [e2, strict_sub hs2 hs s2 hl2], ht, q, eq, all_in sq, fun hb => all_in fun x hx => ?_⟩
  unfold boneO
  rw [if_pos hb]
  obtain ⟨n0, n1, _⟩ := theoryErr_zero ht
  obtain ⟨N, rfl⟩ : ∃ N : Nat, n = N := ⟨n.toNat, by omega⟩
  rw [Int.toNat_natCast]
  have hxv := hqv x hx
  have hxi := (litValid_iff _ _).1 hxv
  have hmodel : ∀ s ∈ modelsL N ll, holdsB s.1 s.2 x = true := fun s hs => by
    have he : evalB N ll s.1 s.2 = true := (List.mem_filter.1 hs).2
    obtain ⟨r3, e3, s3⟩ := probeT_firm (model_firm he) ht (l := []) fun d hd => (by cases hd)
    rw [eq] at e3; cases e3
    exact (s3 x hx).2
  have hno : least N ll [-x] = none := by
    unfold least
    rw [List.find?_eq_none]
    intro s hs
    have := hmodel s hs
    simp only [List.all_cons, List.all_nil, Bool.and_true]
    rw [holdsB_neg (litVar_ne hxv), this]; simp
  unfold boneB at hb
  rw [Bool.and_eq_true, Int.toNat_natCast] at hb
  obtain ⟨s, hs⟩ := Option.isSome_iff_exists.1 hb.2
  rw [hs]
  have hsm : s ∈ modelsL N ll := List.mem_of_find?_eq_some hs
  have hh := hmodel s hsm
  rw [bone_mem]
  refine ⟨(litVar x).toNat - 1, ?_, hno, ?_⟩
  · rw [litVar_of_valid hxv]; split <;> omega
  · have hk : (((litVar x).toNat - 1 : Nat) : Int) + 1 = litVar x := by rw [litVar_of_valid hxv]; split <;> omega
    rw [hk]
    show x = sideV s (litVar x)
    unfold sideV
    unfold holdsB at hh
    rw [Bool.and_eq_true, beq_iff_eq] at hh
    rw [hh.2, litVar_of_valid hxv]
    by_cases hp : 0 < x
    · simp [hp]
    · simp [hp]
/-- What ProbeMore asks. -/
theorem more15 {n : Int} {ll : List (List Int)} {l m : List Int} {x : Int} (h : probeT n ll (l ++ [x]) = some m) : ∃ r, probeT n ll l = some r ∧ r.all (m.contains ·) = true := by
  obtain ⟨ht, hv, hf, hl, _, _⟩ := probeT_some h
  have hlv := termB_valid hv
  obtain ⟨r, e, s⟩ := probeT_firm hf ht (l := l) fun d hd => ⟨hl d (List.mem_append_left _ hd), hlv d (List.mem_append_left _ hd)⟩
  exact ⟨r, e, all_in s⟩
set_option maxRecDepth 100000 in
set_option maxHeartbeats 4000000 in
theorem ProbeCloses_any (n : Int) (lv av : Value) (ll : List (List Int)) (l : List Int) (w : World) (hR : RowsAt w lv ll) (hl : IntsAt w av l) :
    Calls Try.prog 8 #[.agg #[.int .i64 n, lv], av] w fun e w' => e = .returned (.bool true) ∧ Ex w w' := by
  have HSm : Hid (∀ wa, Ex w wa → Calls Try.prog 13 #[.agg #[.int .i64 n, lv]] wa (SmallRet wa n ll)) := fun wa h => small15_any n lv ll wa (hR.ex h)
  have HCl : Hid (∀ wa, Ex w wa → Calls Try.prog 30 #[.agg #[.int .i64 n, lv], av] wa (TermRet wa (closL n ll l) (closB n ll l))) := fun wa h => unitClosure_any n lv av ll l wa (hR.ex h) (hl.ex h)
  have HPr : Hid (∀ wa u m, Ex w wa → IntsAt wa u m → m.length * 8 ≤ 140737488355328 → Calls Try.prog 17 #[.agg #[.int .i64 n, lv], u] wa (TermRet wa ((probeT n ll m).getD []) (probeT n ll m).isSome)) := fun wa u m hw h hb => probeProbe_any n _ _ ll m wa (hR.ex hw) h hb
  have HBo : Hid (∀ wa, Ex w wa → Calls Try.prog 21 #[.agg #[.int .i64 n, lv]] wa (BoneRet wa (boneO n ll) (boneB n ll) (theoryErr n ll))) := fun wa h => Backbone_any n lv ll wa (hR.ex h)
  have HSa : Hid (∀ (wa : World) (u v : Value) (l : List Int), IntsAt wa u l → IntsAt wa v l → Calls Try.prog 25 #[u, v] wa fun e w' => e = .returned (.bool true) ∧ Ex wa w') := fun wa u v l h k => by
    have := r03Same_any u v l l wa h k
    rwa [decide_eq_true rfl] at this
  have HWi : Hid (∀ (wa : World) (u v : Value) (a b : List Int), IntsAt wa u a → IntsAt wa v b → a.all (b.contains ·) = true → Calls Try.prog 31 #[u, v] wa fun e w' => e = .returned (.bool true) ∧ wa = w') := fun wa u v a b h k e => by
    have := within15_any u v a b wa h k
    rwa [e] at this
  have HLw : Hid (∀ r, probeT n ll l = some r → closB n ll l = true ∧ (closL n ll l).all (r.contains ·) = true ∧ probeT n ll r = some r ∧ theoryErr n ll = 0 ∧
    ∃ q, probeT n ll [] = some q ∧ q.all (r.contains ·) = true ∧ (boneB n ll = true → q.all ((boneO n ll).contains ·) = true)) := fun r h => closes15 h
  have HRl : Hid (∀ r, probeT n ll l = some r → r.length ≤ 256) := fun r h => by
    unfold probeT probeO at h
    split at h
    · obtain ⟨g, _, e, _⟩ := probe_is h
      rw [e]; exact closL_len
    · cases h
  have hl0 := hl
  obtain ⟨ra, rcap, rfl, r1, r2, r3⟩ := hR
  obtain ⟨pa, pcap, rfl, p1, p2, p3⟩ := hl
  unfold maxLen at p2
  clear r3 p3
  have oT := OwnB.new w [.int .i64 n, .slice ra ll.length rcap] 24
  have hxa := Ex.alloc w (.cells #[.int .i64 n, .slice ra ll.length rcap] 24)
  go_enter Try.func8, Try.ntmps8
  go_wp2_with fail
  generalize w.alloc (.cells #[.int .i64 n, .slice ra ll.length rcap] 24) = wa at *
  refine (HSm.out _ hxa).mono ?_
  rintro e w2 ⟨b, rfl, hb, hx2⟩
  replace hxa := hxa.trans hx2
  replace oT := oT.ex hx2
  clear hx2 HSm hb
  cases b with
  | false =>
    go_wp2_with (refine (works15_any _).mono ?_; rintro e w' ⟨rfl, hx⟩)
    go_ret
    exact ⟨rfl, hxa.trans hx⟩
  | true =>
  by_cases hlen : 100 < l.length
  · go_wp2_with (refine (works15_any _).mono ?_; rintro e w' ⟨rfl, hx⟩)
    go_ret
    exact ⟨rfl, hxa.trans hx⟩
  have hP1 : Hid _ := HPr.out w2 _ l hxa (hl0.ex hxa) (by omega)
  have c0 := oT.cell 0
  have c1 := oT.cell 1
  have z0 := oT.lt
  go_wp2_with fail
  refine Calls.mono hP1.out ?_
  rintro e w3 ⟨v3, rfl, ho3, hx3⟩
  have hI3 := ho3.ints
  obtain ⟨p3, q3, rfl, _, _, _⟩ := hI3
  have hI3 := ho3.ints
  clear ho3 hP1 c0 c1 z0
  replace oT := oT.ex hx3
  replace hxa := hxa.trans hx3
  have c0 := oT.cell 0
  have c1 := oT.cell 1
  have z0 := oT.lt
  go_wp2_with fail
  refine (HCl.out _ hxa).mono ?_
  rintro e w4 ⟨v4, rfl, ho4, hx4⟩
  have hI4 := ho4.ints
  obtain ⟨p4, q4, rfl, _, _, _⟩ := hI4
  have hI4 := ho4.ints
  clear ho4 c0 c1 z0 HCl hx3
  replace oT := oT.ex hx4
  replace hI3 := hI3.ex hx4
  replace hxa := hxa.trans hx4
  have c0 := oT.cell 0
  have c1 := oT.cell 1
  have z0 := oT.lt
  clear hx4
  cases hp : probeT n ll l with
  | none =>
    clear HLw HRl HPr HBo HSa HWi hI4
    have hl0 : ((((none : Option (List Int)).getD []).length : Nat) : Int) = 0 := rfl
    have hs0 : ((none : Option (List Int)).isSome) = false := rfl
    go_wp2_with (refine (works15_any _).mono ?_; rintro e w' ⟨rfl, hx⟩)
    go_ret
    exact ⟨rfl, hxa.trans hx⟩
  | some r =>
    rw [hp] at hI3
    have hI3' : IntsAt w4 (.slice p3 r.length q3) r := hI3
    obtain ⟨h1, h2, h3, h4, q, h5, h6, h7⟩ := HLw.out r hp
    have hrl := HRl.out r hp
    have hP2 : Hid (∀ wa, Ex w4 wa → Calls Try.prog 17 #[.agg #[.int .i64 n, .slice ra ll.length rcap], .slice p3 r.length q3] wa (TermRet wa r true)) := fun wa h => by
      have := HPr.out wa _ r (hxa.trans h) (hI3'.ex h) (by omega)
      rwa [h3] at this
    have hP3 : Hid (∀ wa, Ex w4 wa → Calls Try.prog 17 #[.agg #[.int .i64 n, .slice ra ll.length rcap], .slice none 0 0] wa (TermRet wa q true)) := fun wa h => by
      have := HPr.out wa _ [] (hxa.trans h) (IntsAt.nil wa) (by decide)
      rwa [h5] at this
    have H2 : Hid _ := h2
    have H6 : Hid _ := h6
    have H7 : Hid _ := h7
    have hB4 : Hid (∀ wa, Ex w4 wa → Calls Try.prog 21 #[.agg #[.int .i64 n, .slice ra ll.length rcap]] wa (BoneRet wa (boneO n ll) (boneB n ll) 0)) := fun wa h => by
      have := HBo.out wa (hxa.trans h)
      rwa [h4] at this
    rw [h1]
    have hgd : ((some r).getD []).length = r.length := rfl
    have hgs : (some r).isSome = true := rfl
    clear h1 h2 h3 h4 h5 h6 h7 HLw HRl HPr HBo hp hI3
    generalize closL n ll l = CL at *
    generalize boneO n ll = BO at *
    generalize boneB n ll = BB at *
    go_wp2_with fail
    refine (hP2.out _ (Ex.refl _)).mono ?_
    rintro e w5 ⟨v5, rfl, ho5, hx5⟩
    have hI5 := ho5.ints
    obtain ⟨p5, q5, rfl, _, _, _⟩ := hI5
    have hI5 := ho5.ints
    clear ho5 c0 c1 z0 hP2
    have hI3 := hI3'.ex hx5
    replace hI4 := hI4.ex hx5
    go_wp2_with fail
    refine (HWi.out _ _ _ _ _ hI4 hI3 H2.out).mono ?_
    rintro e w6 ⟨rfl, rfl⟩
    go_wp2_with fail
    refine (HSa.out _ _ _ _ hI3 hI5).mono ?_
    rintro e w6 ⟨rfl, hx6⟩
    have hx46 := hx5.trans hx6
    have c0 := (oT.ex hx46).cell 0
    have c1 := (oT.ex hx46).cell 1
    have z0 := (oT.ex hx46).lt
    clear hI4 hI5
    go_wp2_with fail
    refine (hP3.out _ hx46).mono ?_
    rintro e w7 ⟨v7, rfl, ho7, hx7⟩
    have hI7 := ho7.ints
    obtain ⟨p7, q7, rfl, _, _, _⟩ := hI7
    have hI7 := ho7.ints
    clear ho7 c0 c1 z0 hP3
    have hx47 := hx46.trans hx7
    have c0 := (oT.ex hx47).cell 0
    have c1 := (oT.ex hx47).cell 1
    have z0 := (oT.ex hx47).lt
    go_wp2_with fail
    refine (hB4.out _ hx47).mono ?_
    rintro e w8 ⟨v8, rfl, ho8, hx8⟩
    have hI8 := ho8.ints
    obtain ⟨p8, q8, rfl, _, _, _⟩ := hI8
    have hI8 := ho8.ints
    have hx48 := hx47.trans hx8
    replace hI7 := hI7.ex hx8
    have hI3 := hI3'.ex hx48
    clear ho8 c0 c1 z0 hB4 hx8 hx7 hx6 hx5
    cases BB with
    | false =>
      clear H7
      go_wp2_with fail
      refine (HWi.out _ _ _ _ _ hI7 hI3 H6.out).mono ?_
      rintro e w9 ⟨rfl, rfl⟩
      go_wp2_with (refine (works15_any _).mono ?_; rintro e w' ⟨rfl, hx⟩)
      go_ret
      exact ⟨rfl, (hxa.trans hx48).trans hx⟩
    | true =>
      have H8 : Hid _ := H7.out (by trivial)
      clear H7
      go_wp2_with fail
      refine (HWi.out _ _ _ _ _ hI7 hI8 H8.out).mono ?_
      rintro e w9 ⟨rfl, rfl⟩
      go_wp2_with fail
      refine (HWi.out _ _ _ _ _ hI7 hI3 H6.out).mono ?_
      rintro e w9 ⟨rfl, rfl⟩
      go_wp2_with (refine (works15_any _).mono ?_; rintro e w' ⟨rfl, hx⟩)
      go_ret
      exact ⟨rfl, (hxa.trans hx48).trans hx⟩
end Go.Proofs.Ytnhlfhoeglnajaa
