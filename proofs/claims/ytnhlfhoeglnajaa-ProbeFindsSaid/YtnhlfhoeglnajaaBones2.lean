/- probe.Backbone where there is a model. No condition. -/
import Derived.Test.YtnhlfhoeglnajaaBones
namespace Go.Proofs.Ytnhlfhoeglnajaa
set_option linter.unusedSimpArgs false
set_option linter.unusedVariables false
open Go.RowKit
set_option maxRecDepth 20000
theorem least_words {n : Nat} {ll : List (List Int)} {l : List Int} {s : Nat × Nat} (hn : n ≤ 128) (h : least n ll l = some s) : s.1 < 18446744073709551616 ∧ s.2 < 18446744073709551616 := by
  have := List.mem_of_find?_eq_some h
  unfold modelsL at this
  obtain ⟨k, _, e⟩ := List.mem_map.1 (List.mem_filter.1 this).1
  rw [← e]
  exact assign_lt hn
set_option maxRecDepth 100000 in
set_option maxHeartbeats 4000000 in
theorem Backbone_some (n : Nat) (lv : Value) (ll : List (List Int)) (s : Nat × Nat) (w : World) (hR : RowsAt w lv ll) (he : theoryErr n ll = 0) (hs : least n ll [] = some s) :
    Calls Try.prog 21 #[.agg #[.int .i64 n, lv]] w (BoneRet w (boneL n ll s n) true 0) := by
  have hn : n ≤ 128 := by have := (theoryErr_zero he).2.1; omega
  obtain ⟨hw1, hw2⟩ := least_words hn hs
  obtain ⟨x, y⟩ := s
  simp only at hw1 hw2
  have HCk : Hid (∀ wa, Ex w wa → Calls Try.prog 33 #[.agg #[.int .i64 n, lv]] wa fun e w' => e = .returned (.int .i64 0) ∧ Ex wa w') := fun wa hx => he ▸ theoryCheck_any n lv ll wa (hR.ex hx)
  have HS : Hid (∀ wa, Ex w wa → Calls Try.prog 47 #[.agg #[.int .i64 n, lv], .slice none 0 0] wa fun e w' => e = .returned (.tuple #[setV x y, .bool true, .int .i64 0]) ∧ Ex wa w') := fun wa hx => by
    have := Solve_ok n lv (.slice none 0 0) ll [] wa (hR.ex hx) (IntsAt.nil wa) (by unfold searchErr; rw [if_pos he]; rfl)
    rw [hs] at this; exact this
  have HS2 : Hid (∀ (l : Int) (m : Nat), m < n → (l = (m : Int) + 1 ∨ l = -((m : Int) + 1)) → ∃ p q : Nat, ∀ wa av, Ex w wa → IntsAt wa av [l] → Calls Try.prog 47 #[.agg #[.int .i64 n, lv], av] wa fun e w' => e = .returned (.tuple #[setV p q, .bool (least n ll [l]).isSome, .int .i64 0]) ∧ Ex wa w') := fun l m hm hl =>
    ⟨_, _, fun wa av hx hI => Solve_ok n lv av ll [l] wa (hR.ex hx) hI (by
      unfold searchErr; rw [if_pos he]
      have : litValid l n = true := by rw [litValid_iff]; omega
      simp [this])⟩
  have HH : Hid (∀ v wa, Calls Try.prog 35 #[setV x y, .int .i64 v] wa fun e w' => e = .returned (.bool (hasB x y v)) ∧ Ex wa w') := fun v wa => varsHas_any x y hw1 hw2 v wa
  have HBn : Hid (∀ m, boneL n ll (x, y) (m + 1) = boneL n ll (x, y) m ++ (if (least n ll [-sideV (x, y) ((m : Int) + 1)]).isSome then [] else [sideV (x, y) ((m : Int) + 1)])) := fun m => boneL_succ n ll (x, y) m
  have HLn : Hid (∀ m, (boneL n ll (x, y) m).length ≤ m) := boneL_len n ll (x, y)
  have HSd : Hid (∀ v, sideV (x, y) v = if hasB x y v then v else -v) := fun v => rfl
  unfold setV at *
  obtain ⟨ra, rcap, rfl, _, _, r3⟩ := hR
  have hbox := OwnB.new w [.int .i64 n, .slice ra ll.length rcap] 24
  have hxa := Ex.alloc w (.cells #[.int .i64 n, .slice ra ll.length rcap] 24)
  clear r3 he hs hw1 hw2
  go_enter Try.func21, Try.ntmps21
  go_wp2_with fail
  refine (HCk.out _ hxa).mono ?_
  rintro e w2 ⟨rfl, hx2⟩
  have c0 := (hbox.ex hx2).cell 0
  have c1 := (hbox.ex hx2).cell 1
  have z2 := (hbox.ex hx2).lt
  clear HCk
  go_wp2_with fail
  refine (HS.out _ (hxa.trans hx2)).mono ?_
  rintro e w3 ⟨rfl, hx3⟩
  clear HS c0 c1 z2
  have oA := OwnB.new w3 [.int .u64 x, .int .u64 y] 28
  have hx4 : Ex w3 _ := Ex.alloc w3 (.cells #[.int .u64 x, .int .u64 y] 28)
  have hB := (hbox.ex hx2).ex hx3
  have hxw := (hxa.trans hx2).trans hx3
  clear hbox hx2 hx3
  go_wp2
  generalize hw4 : w3.alloc (.cells #[.int .u64 x, .int .u64 y] 28) = w4 at *
  have hB4 := hB.ex hx4
  have hx04 := hxw.trans hx4
  generalize hA : w3.heap.size = A at *
  clear hB hw4 hxw hx4
  go_loopw [9, 10] (fun out v wr => ∃ m : Nat, m ≤ n ∧ v = .int .i64 ((m : Int) + 1) ∧ OwnI wr w4.heap.size out (boneL n ll (x, y) m) ∧ Ex w4 wr) (fun _ v _ => n + 1 - (intOf v).toNat)
  case atStart => exact ⟨0, Nat.zero_le _, rfl, OwnI.nil _ _, Ex.refl _⟩
  case round =>
    obtain ⟨m, hm, rfl, hO, hxr⟩ := hrel
    have hBr := hB4.ex hxr
    have oAr := oA.ex hxr
    have c0 := hBr.cell 0
    have c1 := hBr.cell 1
    have z1 := hBr.lt
    have s0 := oAr.cell 0
    have s1 := oAr.cell 1
    have z2 := oAr.lt
    have hsz := (hx04.trans hxr).size
    by_cases hlt : m < n
    · have q1 : (m : Int) + 1 ≤ (n : Int) := by omega
      have hb := HBn.out m
      have hsd := HSd.out ((m : Int) + 1)
      have hlen : Hid ((boneL n ll (x, y) m).length ≤ m) := HLn.out m
      obtain ⟨vv, hvv⟩ : ∃ vv : Int, vv = (m : Int) + 1 := ⟨_, rfl⟩
      have HV : Hid _ := hvv
      have q2 : 1 ≤ vv := by omega
      have q3 : vv ≤ 128 := by omega
      have HHv := HH.out vv wr
      rw [← hvv] at hb hsd q1
      have hS2 : Hid (∀ l, (l = vv ∨ l = -vv) → ∃ p q : Nat, ∀ wa av, Ex w wa → IntsAt wa av [l] → Calls Try.prog 47 #[.agg #[.int .i64 n, .slice ra ll.length rcap], av] wa fun e w' => e = .returned (.tuple #[.agg #[.int .u64 p, .int .u64 q], .bool (least n ll [l]).isSome, .int .i64 0]) ∧ Ex wa w') := fun l hl => HS2.out l m hlt (by rw [← HV.out]; exact hl)
      rw [← hvv]
      clear hvv HS2
      cases hh : hasB x y vv with
      | true =>
        rw [hh] at HHv hsd
        have hsd' : sideV (x, y) vv = vv := hsd
        rw [hsd'] at hb
        obtain ⟨p, q, hS⟩ := hS2.out (-vv) (.inr rfl)
        cases hsome : (least n ll [-vv]).isSome with
        | true =>
          rw [hsome] at hb hS
          have hb' : Hid (boneL n ll (x, y) (m + 1) = boneL n ll (x, y) m) := by show _ = _; rw [hb]; simp
          have HS' : Hid _ := hS
          have HHv' : Hid _ := HHv
          clear hb hsome hh hS2 hsd hsd' hS HHv HH HSd
          go_wp2_with fail
          refine Calls.mono HHv'.out ?_
          rintro e w5 ⟨rfl, hx5⟩
          clear c0 c1 z1 s0 s1 z2 HHv'
          have hxr5 := hxr.trans hx5
          have c0 := (hB4.ex hxr5).cell 0
          have c1 := (hB4.ex hxr5).cell 1
          have z1 := (hB4.ex hxr5).lt
          go_wp2_with fail
          refine (HS'.out _ _ ((hx04.trans hxr5).alloc' _) (intsAt_fresh w5 (-vv) _)).mono ?_
          rintro e w6 ⟨rfl, hx6⟩
          have hx46 : Ex w4 w6 := (hxr5.alloc' _).trans hx6
          have hO6 := (hO.ex hx5).ex ((Ex.alloc _ _).trans hx6)
          have hs6 := hx46.size
          clear c0 c1 z1 HS'
          go_wp2
          go_roundw
          case rel => exact ⟨m + 1, by omega, by rw [HV.out]; go_num, by rw [hb'.out]; exact hO6.ex (Ex.alloc _ _), hx46.alloc' _⟩
          case measure => have := HV.out; simp [intOf]; omega
        | false =>
          rw [hsome] at hb hS
          have hb' : Hid (boneL n ll (x, y) (m + 1) = boneL n ll (x, y) m ++ [vv]) := by show _ = _; rw [hb]; simp
          have HS' : Hid _ := hS
          have HHv' : Hid _ := HHv
          clear hb hsome hh hS2 hsd hsd' hS HHv HH HSd
          go_wp2_with fail
          refine Calls.mono HHv'.out ?_
          rintro e w5 ⟨rfl, hx5⟩
          clear c0 c1 z1 s0 s1 z2 HHv'
          have hxr5 := hxr.trans hx5
          have c0 := (hB4.ex hxr5).cell 0
          have c1 := (hB4.ex hxr5).cell 1
          have z1 := (hB4.ex hxr5).lt
          go_wp2_with fail
          refine (HS'.out _ _ ((hx04.trans hxr5).alloc' _) (intsAt_fresh w5 (-vv) _)).mono ?_
          rintro e w6 ⟨rfl, hx6⟩
          have hx46 : Ex w4 w6 := (hxr5.alloc' _).trans hx6
          have hO6 := (hO.ex hx5).ex ((Ex.alloc _ _).trans hx6)
          have hs6 := hx46.size
          clear c0 c1 z1 HS'
          have hI := intsAt_fresh (w6.alloc (.cells #[.int .u64 p, .int .u64 q] 28)) (vv) 3
          rw [alloc_size] at hI
          go_wp2_with (at_builtin; refine wpList_append_ints rfl (.tmp 59) (.tmp 61) rfl rfl rfl ((hO6.ex (Ex.alloc _ _)).ex (Ex.alloc _ _)) hI ?c1 ?c2 ?_)
          case c1 => have := hlen.out; simp only [List.length_cons, List.length_nil]; omega
          case c2 => rw [alloc_size, alloc_size]; omega
          intro v7 w7 hown hg
          have hx7 : Ex w4 w7 := grown_ex ((hx46.alloc' _).alloc' _) hg (ownsRow_block hO)
          have hO7 : OwnI w7 w4.heap.size v7 (boneL n ll (x, y) m ++ [vv]) := hown
          clear hown hg hI
          go_wp2
          go_roundw
          case rel => exact ⟨m + 1, by omega, by rw [HV.out]; go_num, by rw [hb'.out]; exact hO7, hx7⟩
          case measure => have := HV.out; simp [intOf]; omega
      | false =>
        rw [hh] at HHv hsd
        have hsd' : sideV (x, y) vv = -vv := hsd
        rw [hsd', Int.neg_neg] at hb
        obtain ⟨p, q, hS⟩ := hS2.out (vv) (.inl rfl)
        cases hsome : (least n ll [vv]).isSome with
        | true =>
          rw [hsome] at hb hS
          have hb' : Hid (boneL n ll (x, y) (m + 1) = boneL n ll (x, y) m) := by show _ = _; rw [hb]; simp
          have HS' : Hid _ := hS
          have HHv' : Hid _ := HHv
          clear hb hsome hh hS2 hsd hsd' hS HHv HH HSd
          go_wp2_with fail
          refine Calls.mono HHv'.out ?_
          rintro e w5 ⟨rfl, hx5⟩
          clear c0 c1 z1 s0 s1 z2 HHv'
          have hxr5 := hxr.trans hx5
          have c0 := (hB4.ex hxr5).cell 0
          have c1 := (hB4.ex hxr5).cell 1
          have z1 := (hB4.ex hxr5).lt
          go_wp2_with fail
          refine (HS'.out _ _ ((hx04.trans hxr5).alloc' _) (intsAt_fresh w5 (vv) _)).mono ?_
          rintro e w6 ⟨rfl, hx6⟩
          have hx46 : Ex w4 w6 := (hxr5.alloc' _).trans hx6
          have hO6 := (hO.ex hx5).ex ((Ex.alloc _ _).trans hx6)
          have hs6 := hx46.size
          clear c0 c1 z1 HS'
          go_wp2
          go_roundw
          case rel => exact ⟨m + 1, by omega, by rw [HV.out]; go_num, by rw [hb'.out]; exact hO6.ex (Ex.alloc _ _), hx46.alloc' _⟩
          case measure => have := HV.out; simp [intOf]; omega
        | false =>
          rw [hsome] at hb hS
          have hb' : Hid (boneL n ll (x, y) (m + 1) = boneL n ll (x, y) m ++ [-vv]) := by show _ = _; rw [hb]; simp
          have HS' : Hid _ := hS
          have HHv' : Hid _ := HHv
          clear hb hsome hh hS2 hsd hsd' hS HHv HH HSd
          go_wp2_with fail
          refine Calls.mono HHv'.out ?_
          rintro e w5 ⟨rfl, hx5⟩
          clear c0 c1 z1 s0 s1 z2 HHv'
          have hxr5 := hxr.trans hx5
          have c0 := (hB4.ex hxr5).cell 0
          have c1 := (hB4.ex hxr5).cell 1
          have z1 := (hB4.ex hxr5).lt
          go_wp2_with fail
          refine (HS'.out _ _ ((hx04.trans hxr5).alloc' _) (intsAt_fresh w5 (vv) _)).mono ?_
          rintro e w6 ⟨rfl, hx6⟩
          have hx46 : Ex w4 w6 := (hxr5.alloc' _).trans hx6
          have hO6 := (hO.ex hx5).ex ((Ex.alloc _ _).trans hx6)
          have hs6 := hx46.size
          clear c0 c1 z1 HS'
          have hI := intsAt_fresh (w6.alloc (.cells #[.int .u64 p, .int .u64 q] 28)) (-vv) 3
          rw [alloc_size] at hI
          go_wp2_with (at_builtin; refine wpList_append_ints rfl (.tmp 59) (.tmp 61) rfl rfl rfl ((hO6.ex (Ex.alloc _ _)).ex (Ex.alloc _ _)) hI ?c1 ?c2 ?_)
          case c1 => have := hlen.out; simp only [List.length_cons, List.length_nil]; omega
          case c2 => rw [alloc_size, alloc_size]; omega
          intro v7 w7 hown hg
          have hx7 : Ex w4 w7 := grown_ex ((hx46.alloc' _).alloc' _) hg (ownsRow_block hO)
          have hO7 : OwnI w7 w4.heap.size v7 (boneL n ll (x, y) m ++ [-vv]) := hown
          clear hown hg hI
          go_wp2
          go_roundw
          case rel => exact ⟨m + 1, by omega, by rw [HV.out]; go_num, by rw [hb'.out]; exact hO7, hx7⟩
          case measure => have := HV.out; simp [intOf]; omega
    · obtain rfl : m = n := by omega
      clear HH HSd HS2 HBn HLn
      go_wp2
      refine bodyPost_ret (v := .tuple #[u9, .bool true, .int .i64 0]) (by simp [results, Try.results21, go_sem]) rfl ?_
      exact ⟨_, rfl, hO.base hx04.size, hx04.trans hxr⟩
end Go.Proofs.Ytnhlfhoeglnajaa
