/-
  HyperTells, walked. (Printed by mkhzri.py.)
-/
import Derived.Deep.RegionHeld3
import Derived.Deep.DeepCutAuto
import Derived.Test.YtplidcbfbonjlaaDoorHzLaw
import Derived.Test.YtplidcbfbonjlaaDoorHzRb
import Derived.Test.YtplidcbfbonjlaaDoorHzRg
import Derived.Test.YtplidcbfbonjlaaDoorHzRh
namespace Go.Proofs.YtplidcbfbonjlaaDoor
open Go.RowKit Go.Shelf Go.Lib
set_option linter.unusedVariables false
set_option linter.unusedSimpArgs false

set_option maxRecDepth 100000 in
set_option maxHeartbeats 2000000 in
/-- hyper.Parts where the hypergraph may not be. -/
theorem PartsNo_any (m : Int) (ev : Value) (ls : List (List Int)) (w : World) (h : SlRK .i64 w ev ls) (hno : hypB m ls = false) :
    Calls Tryd.prog 23 #[hypV m ev] w fun e w' => e = .returned (.slice none 0 0) ∧ Below w.heap.size w w' := by
  have hb0 := later_alloc w (.cells #[.int .i64 m, ev] 24)
  have hC := hyperCheck_any m ev ls _ (h.later hb0)
  rw [hno] at hC
  simp only [Bool.false_eq_true, if_false] at hC
  have HC := Lib.hid hC
  have HB0 := Lib.hid hb0
  obtain ⟨ae, ce, rfl, -⟩ := h.open
  clear h hno hb0 hC
  go_enter Tryd.func23, Tryd.ntmps23
  go_wp2_with fail
  refine HC.out.mono ?_
  rintro e w1 ⟨rfl, b1⟩
  have HE := Lib.hid (later_trans HB0.out b1)
  clear b1
  go_wp2_with fail
  go_ret
  exact ⟨rfl, HE.out⟩
/-- What stands all along. -/
structure TelI (w : World) (X Y : Nat) (m : Int) (ev : Value) (ls : List (List Int)) (hv : Value) (E : List (List Int)) (rv : Value) (rs : List (List Int)) (W : World) : Prop where
  bel : Below w.heap.size w W
  bx : HB W X m ev
  by' : HB W Y m hv
  rx : SlRK .i64 W ev ls
  ry : SlRK .i64 W hv E
  rr : SlRK .i64 W rv rs
  tab : TabW W
theorem TelI.later {w W W' : World} {X Y : Nat} {m : Int} {ev hv rv : Value} {ls E rs : List (List Int)} (h : TelI w X Y m ev ls hv E rv rs W) (hb : Below W.heap.size W W') : TelI w X Y m ev ls hv E rv rs W' :=
  ⟨later_trans h.bel hb, kept hb h.bx, kept hb h.by', h.rx.later hb, h.ry.later hb, h.rr.later hb, h.tab.later hb⟩
/-- A row more behind rows of the call's own. -/
theorem own_more {wT wr wA w6 : World} {v v6 x : Value} {ps : List (Value × List Int)} {xs : List Int} (hown : OwnRK .i64 3 27 wT.heap.size wr v ps) (hb : Below wT.heap.size wT wr) (hA : Below wr.heap.size wr wA) (hx : SlI .i64 wT x xs) (hown6 : w6.ownsRow wT.heap.size 27 1 v6 (ps.length + 1) (ps.map Prod.fst ++ [x])) (hgrow6 : wA.grownBy w6 v.ownBlock) : SlRK .i64 w6 v6 (ps.map Prod.snd ++ [xs]) ∧ Below wT.heap.size wT w6 := by
  have hoA := owns_later hown.own hA
  have h0 := later_trans hb hA
  have h6 : Below wT.heap.size wT w6 := h0.grown hgrow6 h0.size (fun k e => owns_above hoA k e)
  refine ⟨SlRK.of_vals (SlC.of_owns hown6) (by simp) fun j hj => ?_, h6⟩
  have hv : (ps.map Prod.fst ++ [x]).getD j undef = if h : j < ps.length then ps[j].1 else x := by
    simp only [List.getD_eq_getElem?_getD]
    by_cases h : j < ps.length
    · rw [dif_pos h, List.getElem?_append_left (by simpa using h)]; simp [h]
    · have : j = ps.length := by simp at hj; omega
      subst this
      rw [dif_neg h, List.getElem?_append_right (by simp)]; simp
  have hr : rowN (ps.map Prod.snd ++ [xs]) j = if h : j < ps.length then ps[j].2 else xs := by
    unfold rowN
    simp only [List.getD_eq_getElem?_getD]
    by_cases h : j < ps.length
    · rw [dif_pos h, List.getElem?_append_left (by simpa using h)]; simp [h]
    · have : j = ps.length := by simp at hj; omega
      subst this
      rw [dif_neg h, List.getElem?_append_right (by simp)]; simp
  rw [hv, hr]
  by_cases h : j < ps.length
  · rw [dif_pos h, dif_pos h]
    obtain ⟨k1, k2⟩ := hown.rows _ (List.getElem_mem h)
    exact SlI.of_owns (own_grown hoA hgrow6 (owns_later k1 hA) (by decide)) k2
  · rw [dif_neg h, dif_neg h]
    exact hx.later h6
theorem row_small {M j : Nat} {rs : List (List Int)} {xs : List Int} (hx : xs.length ≤ 1048576) (hj : j < (rowsL M rs ++ [xs]).length) : (rowN (rowsL M rs ++ [xs]) j).length ≤ 1048576 := by
  have hm := rowN_mem hj
  rcases List.mem_append.1 hm with q | q
  · unfold rowsL at q
    obtain ⟨e, -, he⟩ := List.mem_map.1 q
    have he' : e.take 34 = rowN (rowsL M rs ++ [xs]) j := he
    rw [← he', List.length_take]; omega
  · rw [List.mem_singleton.1 q]; exact hx
set_option maxRecDepth 100000 in
set_option maxHeartbeats 16000000 in
theorem hyperTells_any (m : Int) (ev : Value) (ls : List (List Int)) (rv : Value) (rs : List (List Int)) (w : World) (h : SlRK .i64 w ev ls) (hr : SlRK .i64 w rv rs) (hT : TabW w) :
    Calls Tryd.prog 5 #[hypV m ev, rv] w fun e w' => e = .returned (.bool true) ∧ Below w.heap.size w w' := by
  obtain ⟨i0, hi0, hz0, hz1, hz2⟩ := info_parts info_rowI
  have H := Lib.hid (And.intro h (And.intro hT hr))
  obtain ⟨ae, ce, rfl, -⟩ := h.open
  obtain ⟨ar, cr, rfl, -⟩ := hr.open
  clear h hT hr
  go_enter Tryd.func5, Tryd.ntmps5
  have H0 := Lib.hid (And.intro (box_new w #[.int .i64 m, .slice ae ls.length ce] 24) (later_alloc w (.cells #[.int .i64 m, .slice ae ls.length ce] 24)))
  go_wp2_with fail
  refine (wakes_any _ (H.out.2.1.later H0.out.2)).mono ?_
  rintro e w1 ⟨rfl, hb1⟩
  have H1 := Lib.hid (And.intro (kept hb1 H0.out.1) (later_trans H0.out.2 hb1))
  obtain ⟨c0, c1, f0, f1, lN⟩ := two_of H1.out.1
  clear hb1
  go_wp2_with fail
  refine (own_any m _ ls _ (H.out.1.later H1.out.2)).mono ?_
  rintro e w2 ⟨hv, ps, rfl, hO, hps, hb2⟩
  obtain ⟨ah, ch, rfl⟩ := owns_shape2 hO.own
  have hR := hO.slR
  rw [hps] at hR
  have hpl : ps.length = (ownL ls).length := by rw [← hps, List.length_map]
  obtain ⟨E, hE⟩ : ∃ E, ownL ls = E := ⟨_, rfl⟩
  rw [hE] at hR hpl
  obtain ⟨n, hn⟩ : ∃ n, E.length = n := ⟨_, rfl⟩
  rw [hn] at hpl
  rw [hpl] at hR ⊢
  have bA := later_alloc w2 (.cells #[.int .i64 m, .slice ah n ch] 24)
  have b2A := later_trans hb2 bA
  have bB := later_trans H1.out.2 b2A
  have hI2 : TelI w w.heap.size w2.heap.size m (.slice ae ls.length ce) ls (.slice ah n ch) E (.slice ar rs.length cr) rs (w2.alloc (.cells #[.int .i64 m, .slice ah n ch] 24)) := ⟨bB, kept b2A H1.out.1, box_new _ _ _, H.out.1.later bB, hR.later bA, H.out.2.2.later bB, H.out.2.1.later bB⟩
  have H2 := Lib.hid (And.intro hI2 (And.intro hn hE))
  clear hO hps hpl hb2 hR c0 c1 f0 f1 lN hE hn hI2 bA b2A bB
  go_upto_region 4 with fail
  obtain ⟨W2, hw2⟩ : ∃ W, w2.alloc (.cells #[.int .i64 m, .slice ah n ch] 24) = W := ⟨_, rfl⟩
  rw [hw2] at H2
  try rw [hw2]
  obtain ⟨Y, hY⟩ : ∃ Y, w2.heap.size = Y := ⟨_, rfl⟩
  rw [hY] at H2 ⊢
  obtain ⟨X, hX⟩ : ∃ X, w.heap.size = X := ⟨_, rfl⟩
  have H2' : Hid (TelI w X Y m (.slice ae ls.length ce) ls (.slice ah n ch) E (.slice ar rs.length cr) rs W2) := Lib.hid (by rw [← hX]; exact H2.out.1)
  try rw [hX]
  obtain ⟨c0, c1, -, -, lY⟩ := two_of H2'.out.by'
  clear hw2 hY hX
  have hRi := Right20_any m (.slice ah n ch) E W2 H2'.out.ry
  have HRi := Lib.hid hRi
  clear hRi
  go_wp2_with fail
  refine HRi.out.mono ?_
  rintro e w4 ⟨rfl, b4⟩
  have H4 := Lib.hid (H2'.out.later b4)
  clear c0 c1 lY b4
  obtain ⟨c0, c1, -, -, lY⟩ := two_of H4.out.by'
  cases hy : hypB m E with
  | false =>
    have HY := Lib.hid hy
    clear hy
    have hPa := PartsNo_any m (.slice ah n ch) E w4 H4.out.ry HY.out
    have HPa := Lib.hid hPa
    clear hPa
    go_wp2_with fail
    refine HPa.out.mono ?_
    rintro e w5 ⟨rfl, b5⟩
    have H5 := Lib.hid (H4.out.later b5)
    have hSa := same_any (.slice none 0 0) (.slice none 0 0) [] w5 (SlRK.nil .i64 w5) (SlRK.nil .i64 w5)
    have HSa := Lib.hid hSa
    clear c0 c1 lY b5 hSa
    obtain ⟨c0, c1, -, -, lY⟩ := two_of H5.out.by'
    go_wp2_with fail
    refine HSa.out.mono ?_
    rintro e w6 ⟨rfl, b6⟩
    have H6 := Lib.hid (H5.out.later b6)
    clear c0 c1 lY b6
    obtain ⟨c0, c1, -, -, lY⟩ := two_of H6.out.by'
    have hLe := Left_any m (.slice ah n ch) E w6 H6.out.ry H6.out.tab
    have HLe := Lib.hid hLe
    clear hLe
    go_wp2_with fail
    refine HLe.out.mono ?_
    rintro e w7 ⟨v7, o7, rfl, hv7, hq7, b7⟩
    have ho7 := hq7.no HY.out
    subst ho7
    obtain ⟨a7, c7, rfl, -⟩ := hv7.open
    have hS7 := same_any (.slice a7 ([] : List (List Int)).length c7) (.slice none 0 0) [] w7 hv7 (SlRK.nil .i64 w7)
    have H7 := Lib.hid (And.intro (H6.out.later b7) hS7)
    clear c0 c1 lY b7 hv7 hq7 hS7
    obtain ⟨c0, c1, -, -, lY⟩ := two_of H7.out.1.by'
    go_wp2_with fail
    refine H7.out.2.mono ?_
    rintro e w8 ⟨rfl, b8⟩
    have hAc := AcyclicB_any m (.slice ah n ch) E w8 (H7.out.1.later b8).ry (H7.out.1.later b8).tab
    have hac : acB m E = false := by
      cases q : acB m E with
      | false => rfl
      | true => have := (acB_iff.1 q).1; rw [HY.out] at this; cases this
    rw [hac] at hAc
    have H8 := Lib.hid (And.intro (H7.out.1.later b8) hAc)
    clear c0 c1 lY b8 hAc hac
    obtain ⟨c0, c1, -, -, lY⟩ := two_of H8.out.1.by'
    go_wp2_with fail
    refine H8.out.2.mono ?_
    rintro e w9 ⟨rfl, b9⟩
    have H9 := Lib.hid (H8.out.1.later b9)
    have hTr := Tree_any m (.slice ah n ch) E w9 H9.out.ry
    have HTr := Lib.hid hTr
    clear c0 c1 lY b9 hTr
    obtain ⟨c0, c1, -, -, lY⟩ := two_of H9.out.by'
    go_wp2_with fail
    refine HTr.out.mono ?_
    rintro e wT ⟨tv, P, no, rfl, hP, hT3, b3⟩
    obtain ⟨rfl, rfl⟩ := hT3.bad HY.out
    obtain ⟨ta, tc, rfl⟩ := owns_shape2 hP
    have HT := Lib.hid (And.intro (H9.out.later b3) (SlI.of_tree (E := []) hP (.inl rfl) (by decide)))
    clear c0 c1 lY hT3 hP b3
    obtain ⟨c0, c1, -, -, lY⟩ := two_of HT.out.1.by'
    have HTL : Hid (([] : List Int).length ≤ 1048576) := Lib.hid (by decide)
    have hro := rows_any 6 (by decide) (.slice ar rs.length cr) rs wT HT.out.1.rr
    have HRo := Lib.hid hro
    clear hro
    go_wp2_with fail
    refine HRo.out.mono ?_
    rintro e wq ⟨v20, ps, rfl, hO, hps, hb⟩
    obtain ⟨a20, c20, rfl⟩ := owns_shape2 hO.own
    have hpl : ps.length ≤ 6 := by
      have h1 := congrArg List.length hps
      unfold rowsL at h1
      rw [List.length_map, List.length_map, List.length_take] at h1
      omega
    have hlen9 : (rowsL 6 rs ++ [([] : List Int)]).length = ps.length + 1 := by rw [← hps]; simp
    have hO2 := hO.own.alloc (.cells #[(.slice ta ([] : List Int).length tc)] 27)
    have hsz : wT.heap.size ≤ wq.heap.size := hb.size
    have HO := Lib.hid (And.intro hO (And.intro hps (And.intro hb hlen9)))
    clear hO hps hb c0 c1 lY hlen9
    go_upto_region 21 with (at_builtin; refine wpList_append_own _ rfl (.tmp 84) (.tmp 86) 22 rfl wT.heap.size 27 i0 _ 1 24 Tryd.underlying22 hi0 hz0 hz1 hz2 rfl (by decide) _ _ _ rfl hO2 ⟨wq.heap.size, 0, none⟩ 1 1 [(.slice ta ([] : List Int).length tc)] rfl rfl (cells_new _ _ _) (by simp [Value.oneCell']) (by unfold maxLen; omega) (by omega) (by simp; omega) ?_; intro v6 w6 hown6 hgrow6 _; obtain ⟨g6, cap6, rfl⟩ := ownsRow_succ hown6)
    have hM := own_more HO.out.1 HO.out.2.2.1 (later_alloc wq _) HT.out.2 hown6 hgrow6
    rw [HO.out.2.1] at hM
    have HM := Lib.hid (And.intro hM (HT.out.1.later hM.2))
    clear hM hown6 hgrow6 hO2 hsz
    obtain ⟨nL, hnL⟩ : ∃ k, ps.length + 1 = k := ⟨_, rfl⟩
    have HN := Lib.hid (HO.out.2.2.2.trans hnL)
    rw [hnL] at HM ⊢
    have hnI : (ps.length : Int) + 1 = (nL : Int) := by omega
    try rw [hnI]
    have hnL7 : nL ≤ 7 := by omega
    clear hnL hpl hnI
    go_wp2_with fail
    go_loopw [89] (fun x wr => ∃ k : Nat, k ≤ nL ∧ x = .int .i64 k ∧ Below w6.heap.size w6 wr) (fun x _ => nL - (intOf x).toNat)
    case atStart => exact ⟨0, Nat.zero_le _, rfl, Below.refl _ _⟩
    case round =>
      obtain ⟨k, hk, rfl, hb⟩ := hrel
      have hI := HM.out.2.later hb
      obtain ⟨y0, y1, -, -, lY⟩ := two_of hI.by'
      have HBW := Lib.hid hb
      by_cases hkn : k < nL
      · have hkl : k < (rowsL 6 rs ++ [([] : List Int)]).length := by rw [HN.out]; exact hkn
        obtain ⟨a9, c9, e1, _, _, _, f4⟩ := (HM.out.1.1.later hb).open
        obtain ⟨b, o, e2, lb, fc⟩ := f4 (by omega)
        injection e1 with e1a e1b e1c
        have e3 := e1a.trans e2
        injection e3 with e3
        injection e3 with e3a e3b
        subst e3a e3b
        obtain ⟨rk, ck, sk⟩ := fc k hkl
        rw [Nat.zero_add] at ck
        obtain ⟨ak, dk, rfl, -⟩ := sk.open
        have hsm := row_small (M := 6) (rs := rs) (xs := ([] : List Int)) HTL.out hkl
        have hJo := Joins_any m (.slice ah n ch) _ E _ wr hI.ry sk hsm
        have HIk := Lib.hid (And.intro hI (And.intro sk hsm))
        have HJo := Lib.hid hJo
        clear hI sk hsm hJo fc f4 e1a e1b e1c e2 hkl hb
        go_wp2_with fail
        refine HJo.out.mono ?_
        rintro e w21 ⟨⟨b1, rfl, hq1⟩, b21⟩
        have hb1' : b1 = false := by
          cases b1 with
          | false => rfl
          | true => have := (hq1.1 rfl).1; rw [HY.out] at this; cases this
        subst hb1'
        have HB21 := Lib.hid (later_trans HBW.out b21)
        clear hq1 b21
        go_wp2_with fail
        go_roundw
        case rel => exact ⟨k + 1, by omega, by go_num, HB21.out⟩
        case measure => simp [intOf]; omega
      · obtain rfl : k = nL := by omega
        obtain ⟨wR, hwR⟩ : ∃ x, wr = x := ⟨_, rfl⟩
        rw [hwR] at hI
        have hC2 : ∀ W, Below wR.heap.size wR W → Calls Tryd.prog 9 #[hypV m (.slice ae ls.length ce)] W fun e w' => ∃ a c, e = .returned (.agg #[.int .i64 m, .slice a n c]) ∧ SlRK .i64 w' (.slice a n c) E ∧ Below W.heap.size W w' := fun W hW => by
          refine (own_any m _ ls W (hI.rx.later hW)).mono ?_
          rintro e w' ⟨v', p', rfl, hO', hp', hb'⟩
          have hR' := hO'.slR
          rw [hp', H2.out.2.2] at hR'
          obtain ⟨a, c, rfl, -⟩ := hR'.open
          rw [H2.out.2.1] at hR' ⊢
          exact ⟨a, c, rfl, hR', hb'⟩
        have hS2 : ∀ W v, Below wR.heap.size wR W → SlRK .i64 W v E → Calls Tryd.prog 20 #[.slice ah n ch, v] W fun e w' => e = .returned (.bool true) ∧ Below W.heap.size W w' := fun W v hW hv => same_any _ v E W (hI.ry.later hW) hv
        obtain ⟨x0, x1, -, -, lX⟩ := two_of hI.bx
        clear y0 y1 lY
        obtain ⟨y0, y1, -, -, lY⟩ := two_of hI.by'
        have HK : Hid (∀ W, Below wR.heap.size wR W → W.cell? ⟨X, 0, none⟩ = some (.int .i64 m) ∧ W.cell? ⟨X, 1, none⟩ = some (.slice ae ls.length ce) ∧ W.cell? ⟨Y, 0, none⟩ = some (.int .i64 m) ∧ W.cell? ⟨Y, 1, none⟩ = some (.slice ah n ch)) := Lib.hid (fun W hb => ⟨cell_next hb x0, cell_next hb x1, cell_next hb y0, cell_next hb y1⟩)
        have HC := Lib.hid (And.intro hC2 hS2)
        have HI := Lib.hid hI
        clear hC2 hS2 hI hb
        rw [hwR]
        clear hwR
        have hfd : ∀ a c W, (Instr.field 24 (.agg #[.int .i64 m, .slice a n c]) 1).run Tryd.prog W = .ok (.slice a n c) W := fun _ _ _ => by kernel_rfl
        go_upto_region 26 with fail
        go_cut [4] (fun s4 wx => s4 = .bool true ∧ Below wR.heap.size wR wx)
        case first =>
          go_region_held3 (fun W => W.cell? ⟨X, 0, none⟩ = some (.int .i64 m) ∧ W.cell? ⟨X, 1, none⟩ = some (.slice ae ls.length ce) ∧ W.cell? ⟨Y, 0, none⟩ = some (.int .i64 m) ∧ W.cell? ⟨Y, 1, none⟩ = some (.slice ah n ch))
            (first | exact HK.out _ (later_refl _) | exact HK.out _ (later_drew _) | exact HK.out _ hbT | exact HK.out _ hbO | assumption)
            (first
              | (go_at_call 9; refine (HC.out.1 _ (by first | exact hbT | exact hbO | exact later_drew _ | exact later_refl _)).mono ?_; rintro e wO ⟨oa, oc, rfl, hoR, hO1⟩; have hbO : Below wR.heap.size wR wO := later_trans (by first | exact hbT | exact hbO | exact later_drew _ | exact later_refl _) hO1)
              | (go_at_call 20; refine (HC.out.2 _ _ (by first | exact hbT | exact hbO | exact later_drew _ | exact later_refl _) hoR).mono ?_; rintro e wT9 ⟨rfl, hT1⟩; have hbT : Below wR.heap.size wR wT9 := later_trans (by first | exact hbT | exact hbO | exact later_drew _ | exact later_refl _) hT1))
          all_goals (go_wp2_with fail)
          all_goals go_meet
          all_goals exact ⟨rfl, hbT⟩
        case rest =>
          obtain ⟨rfl, hcb⟩ := hcut
          have HE := Lib.hid (later_trans HI.out.bel hcb)
          clear hcb
          go_wp2_with fail
          go_ret
          exact ⟨rfl, HE.out⟩

  | true =>
    have HY := Lib.hid hy
    have hy4 := hypB_yes hy
    have hn40 : n ≤ 40 := by have := H2.out.2.1; omega
    obtain ⟨mm, rfl⟩ : ∃ mm : Nat, m = mm := ⟨m.toNat, (Int.toNat_of_nonneg hy4.1).symm⟩
    clear hy hy4
    have hHP : ∀ W, Below w4.heap.size w4 W → Calls Tryd.prog 21 #[hypV (mm : Int) (.slice ah n ch)] W fun e w' => ∃ a c, e = .returned (.slice a (partsTo E mm).length c) ∧ SlRK .i64 w' (.slice a (partsTo E mm).length c) (partsTo E mm) ∧ Below W.heap.size W w' := fun W hW => by
      refine (Parts20_any (mm : Int) _ E W (H4.out.later hW).ry HY.out).mono ?_
      rintro e w' ⟨v', rfl, hv', hb'⟩
      rw [Int.toNat_natCast] at hv'
      obtain ⟨a, c, rfl, -⟩ := hv'.open
      exact ⟨a, c, rfl, hv', hb'⟩
    have hHL : ∀ W, Below w4.heap.size w4 W → Calls Tryd.prog 22 #[hypV (mm : Int) (.slice ah n ch)] W fun e w' => ∃ a c out, e = .returned (.slice a (List.length out) c) ∧ SlRK .i64 w' (.slice a (List.length out) c) out ∧ LeftR (E.map setL) out ∧ Below W.heap.size W w' := fun W hW => by
      refine (Left20_any (mm : Int) _ E W (H4.out.later hW).ry HY.out).mono ?_
      rintro e w' ⟨v', out, rfl, hv', hl', hb'⟩
      obtain ⟨a, c, rfl, -⟩ := hv'.open
      exact ⟨a, c, out, rfl, hv', hl', hb'⟩
    have HK : Hid (∀ W, Below w4.heap.size w4 W → W.cell? ⟨Y, 0, none⟩ = some (.int .i64 (mm : Int)) ∧ W.cell? ⟨Y, 1, none⟩ = some (.slice ah n ch)) := Lib.hid (fun W hb => ⟨cell_next hb c0, cell_next hb c1⟩)
    have HC := Lib.hid (And.intro hHP hHL)
    clear hHP hHL
    go_upto_if 20 with fail
    go_cut [7, 8] (fun s7 s8 wx => ∃ (pa : Option Addr) (pc : Nat) (la : Option Addr) (lc : Nat) (out : List (List Int)), s7 = .slice pa (partsTo E mm).length pc ∧ s8 = .slice la out.length lc ∧ SlRK .i64 wx (.slice pa (partsTo E mm).length pc) (partsTo E mm) ∧ SlRK .i64 wx (.slice la out.length lc) out ∧ LeftR (E.map setL) out ∧ Below w4.heap.size w4 wx)
    case first =>
      go_upto_region 7 with fail
      go_region_held3 (fun W => W.cell? ⟨Y, 0, none⟩ = some (.int .i64 (mm : Int)) ∧ W.cell? ⟨Y, 1, none⟩ = some (.slice ah n ch))
        (first | exact HK.out _ (later_refl _) | exact HK.out _ (later_drew _) | exact HK.out _ hbL | exact HK.out _ hbP | assumption)
        (first
          | (go_at_call 21; refine (HC.out.1 _ (by first | exact hbL | exact hbP | exact later_drew _ | exact later_refl _)).mono ?_; rintro e wP ⟨pa, pc, rfl, hpR, hP1⟩; have hbP : Below w4.heap.size w4 wP := later_trans (by first | exact hbL | exact hbP | exact later_drew _ | exact later_refl _) hP1)
          | (go_at_call 22; refine (HC.out.2 _ (by first | exact hbL | exact hbP | exact later_drew _ | exact later_refl _)).mono ?_; rintro e wL ⟨la, lc, out, rfl, hlR, hlQ, hL1⟩; have hbL : Below w4.heap.size w4 wL := later_trans (by first | exact hbL | exact hbP | exact later_drew _ | exact later_refl _) hL1))
      all_goals (go_wp2_with fail)
      all_goals go_meet
      all_goals first
        | exact ⟨_, _, _, _, _, rfl, rfl, hpR.later hL1, hlR, hlQ, hbL⟩
        | exact ⟨_, _, _, _, _, rfl, rfl, hpR, hlR.later hP1, hlQ, hbP⟩
    case rest =>
      obtain ⟨pa, pc, la, lc, out, rfl, rfl, hpR, hlR, hlQ, hcb⟩ := hcut
      clear c0 c1 lY
      have hI5 := H4.out.later hcb
      obtain ⟨c0, c1, -, -, lY⟩ := two_of hI5.by'
      obtain ⟨ac, hac⟩ : ∃ ac, acB (mm : Int) E = ac := ⟨_, rfl⟩
      have hlP : LeftP (mm : Int) E out := ⟨fun _ => hlQ, fun q => (by rw [HY.out] at q; cases q)⟩
      have haq : ((out.length : Int) == 0) = ac := by
        rw [← hac, Bool.eq_iff_iff, beq_iff_eq, ← hlP.nil_iff HY.out]
        constructor
        · intro e; exact List.eq_nil_of_length_eq_zero (by omega)
        · intro e; rw [e]; rfl
      have hPa := Parts_any (mm : Int) (.slice ah n ch) E wc hI5.ry hI5.tab HY.out
      rw [Int.toNat_natCast] at hPa
      have H5 := Lib.hid (And.intro hI5 (And.intro hpR (And.intro hlR (And.intro hlQ (And.intro hac hPa)))))
      clear hpR hlR hlQ hcb hI5 hlP hac hPa
      go_upto_region 9 with fail
      try rw [haq]
      clear haq
      go_wp2_with fail
      refine H5.out.2.2.2.2.2.mono ?_
      rintro e w6 ⟨v6, rfl, hv6, b6⟩
      obtain ⟨a6, c6, rfl, -⟩ := hv6.open
      have hS6 := same_any (.slice a6 (partsTo E mm).length c6) _ (partsTo E mm) w6 hv6 (H5.out.2.1.later b6)
      have H6 := Lib.hid (And.intro (H5.out.1.later b6) (And.intro b6 hS6))
      clear c0 c1 lY b6 hv6 hS6
      obtain ⟨c0, c1, -, -, lY⟩ := two_of H6.out.1.by'
      go_wp2_with fail
      refine H6.out.2.2.mono ?_
      rintro e w7 ⟨rfl, b7⟩
      have hLe := Left_any (mm : Int) (.slice ah n ch) E w7 (H6.out.1.later b7).ry (H6.out.1.later b7).tab
      have H7 := Lib.hid (And.intro (H6.out.1.later b7) (And.intro (later_trans H6.out.2.1 b7) hLe))
      clear c0 c1 lY b7 hLe
      obtain ⟨c0, c1, -, -, lY⟩ := two_of H7.out.1.by'
      go_wp2_with fail
      refine H7.out.2.2.mono ?_
      rintro e w8 ⟨v8, o8, rfl, hv8, hq8, b8⟩
      have ho8 : o8 = out := (hq8.yes HY.out).unique H5.out.2.2.2.1
      subst ho8
      obtain ⟨a8, c8, rfl, -⟩ := hv8.open
      have hS8 := same_any (.slice a8 (List.length o8) c8) _ o8 w8 hv8 (H5.out.2.2.1.later (later_trans H7.out.2.1 b8))
      have H8 := Lib.hid (And.intro (H7.out.1.later b8) hS8)
      clear c0 c1 lY b8 hv8 hq8 hS8
      obtain ⟨c0, c1, -, -, lY⟩ := two_of H8.out.1.by'
      go_wp2_with fail
      refine H8.out.2.mono ?_
      rintro e w9 ⟨rfl, b9⟩
      have hAc := AcyclicB_any (mm : Int) (.slice ah n ch) E w9 (H8.out.1.later b9).ry (H8.out.1.later b9).tab
      rw [H5.out.2.2.2.2.1] at hAc
      have H9 := Lib.hid (And.intro (H8.out.1.later b9) hAc)
      clear c0 c1 lY b9 hAc
      obtain ⟨c0, c1, -, -, lY⟩ := two_of H9.out.1.by'
      go_wp2_with fail
      refine H9.out.2.mono ?_
      rintro e w10 ⟨rfl, b10⟩
      have hTr := Tree_any (mm : Int) (.slice ah n ch) E w10 (H9.out.1.later b10).ry
      have H10 := Lib.hid (And.intro (H9.out.1.later b10) hTr)
      clear c0 c1 lY b10 hTr
      obtain ⟨c0, c1, -, -, lY⟩ := two_of H10.out.1.by'
      have hbne : (ac != ac) = false := by cases ac <;> rfl
      cases ac with
      | false =>
        go_wp2_with fail
        refine H10.out.2.mono ?_
        rintro e wT ⟨tv, P, no, rfl, hP, hT3, b3⟩
        obtain ⟨rfl, rfl⟩ : no = 301 ∧ P = [] := by
          rcases hT3.ok HY.out with q | q
          · rw [H5.out.2.2.2.2.1] at q; exact absurd q.2.1 (by decide)
          · exact ⟨q.1, q.2.2⟩
        obtain ⟨ta, tc, rfl⟩ := owns_shape2 hP
        have HT := Lib.hid (And.intro (H10.out.1.later b3) (SlI.of_tree (E := []) hP (.inl rfl) (by decide)))
        clear c0 c1 lY hT3 hP b3
        obtain ⟨c0, c1, -, -, lY⟩ := two_of HT.out.1.by'
        have HTL : Hid (([] : List Int).length ≤ 1048576) := Lib.hid (by decide)
        have hro := rows_any 6 (by decide) (.slice ar rs.length cr) rs wT HT.out.1.rr
        have HRo := Lib.hid hro
        clear hro
        go_wp2_with fail
        refine HRo.out.mono ?_
        rintro e wq ⟨v20, ps, rfl, hO, hps, hb⟩
        obtain ⟨a20, c20, rfl⟩ := owns_shape2 hO.own
        have hpl : ps.length ≤ 6 := by
          have h1 := congrArg List.length hps
          unfold rowsL at h1
          rw [List.length_map, List.length_map, List.length_take] at h1
          omega
        have hlen9 : (rowsL 6 rs ++ [([] : List Int)]).length = ps.length + 1 := by rw [← hps]; simp
        have hO2 := hO.own.alloc (.cells #[(.slice ta ([] : List Int).length tc)] 27)
        have hsz : wT.heap.size ≤ wq.heap.size := hb.size
        have HO := Lib.hid (And.intro hO (And.intro hps (And.intro hb hlen9)))
        clear hO hps hb c0 c1 lY hlen9
        go_upto_region 21 with (at_builtin; refine wpList_append_own _ rfl (.tmp 84) (.tmp 86) 22 rfl wT.heap.size 27 i0 _ 1 24 Tryd.underlying22 hi0 hz0 hz1 hz2 rfl (by decide) _ _ _ rfl hO2 ⟨wq.heap.size, 0, none⟩ 1 1 [(.slice ta ([] : List Int).length tc)] rfl rfl (cells_new _ _ _) (by simp [Value.oneCell']) (by unfold maxLen; omega) (by omega) (by simp; omega) ?_; intro v6 w6 hown6 hgrow6 _; obtain ⟨g6, cap6, rfl⟩ := ownsRow_succ hown6)
        have hM := own_more HO.out.1 HO.out.2.2.1 (later_alloc wq _) HT.out.2 hown6 hgrow6
        rw [HO.out.2.1] at hM
        have HM := Lib.hid (And.intro hM (HT.out.1.later hM.2))
        clear hM hown6 hgrow6 hO2 hsz
        obtain ⟨nL, hnL⟩ : ∃ k, ps.length + 1 = k := ⟨_, rfl⟩
        have HN := Lib.hid (HO.out.2.2.2.trans hnL)
        rw [hnL] at HM ⊢
        have hnI : (ps.length : Int) + 1 = (nL : Int) := by omega
        try rw [hnI]
        have hnL7 : nL ≤ 7 := by omega
        clear hnL hpl hnI
        go_wp2_with fail
        go_loopw [89] (fun x wr => ∃ k : Nat, k ≤ nL ∧ x = .int .i64 k ∧ Below w6.heap.size w6 wr) (fun x _ => nL - (intOf x).toNat)
        case atStart => exact ⟨0, Nat.zero_le _, rfl, Below.refl _ _⟩
        case round =>
          obtain ⟨k, hk, rfl, hb⟩ := hrel
          have hI := HM.out.2.later hb
          obtain ⟨y0, y1, -, -, lY⟩ := two_of hI.by'
          have HBW := Lib.hid hb
          by_cases hkn : k < nL
          · have hkl : k < (rowsL 6 rs ++ [([] : List Int)]).length := by rw [HN.out]; exact hkn
            obtain ⟨a9, c9, e1, _, _, _, f4⟩ := (HM.out.1.1.later hb).open
            obtain ⟨b, o, e2, lb, fc⟩ := f4 (by omega)
            injection e1 with e1a e1b e1c
            have e3 := e1a.trans e2
            injection e3 with e3
            injection e3 with e3a e3b
            subst e3a e3b
            obtain ⟨rk, ck, sk⟩ := fc k hkl
            rw [Nat.zero_add] at ck
            obtain ⟨ak, dk, rfl, -⟩ := sk.open
            have hsm := row_small (M := 6) (rs := rs) (xs := ([] : List Int)) HTL.out hkl
            have hJo := Joins_any (mm : Int) (.slice ah n ch) _ E _ wr hI.ry sk hsm
            have HIk := Lib.hid (And.intro hI (And.intro sk hsm))
            have HJo := Lib.hid hJo
            clear hI sk hsm hJo fc f4 e1a e1b e1c e2 hkl hb
            go_wp2_with fail
            refine HJo.out.mono ?_
            rintro e w21 ⟨⟨b1, rfl, hq1⟩, b21⟩
            have hI21 := HIk.out.1.later b21
            clear y0 y1 lY
            obtain ⟨y0, y1, -, -, lY⟩ := two_of hI21.by'
            have hJ2 := Joins20_any mm (.slice ah n ch) (.slice ak (rowN (rowsL 6 rs ++ [([] : List Int)]) k).length dk) E _ w21 hI21.ry (HIk.out.2.1.later b21) HIk.out.2.2 HY.out
            have HJ2 := Lib.hid (And.intro hJ2 (And.intro hq1 (later_trans HBW.out b21)))
            clear hJ2 hq1 b21 hI21
            go_wp2_with fail
            refine HJ2.out.1.mono ?_
            rintro e w22 ⟨⟨b2, rfl, hq2⟩, b22⟩
            have hbb : b1 = b2 := by
              rw [Bool.eq_iff_iff, HJ2.out.2.1, hq2]
              exact ⟨fun q => q.2, fun q => ⟨HY.out, q⟩⟩
            subst hbb
            have HB22 := Lib.hid (later_trans HJ2.out.2.2 b22)
            clear hq2 b22
            have hbne : (b1 != b1) = false := by cases b1 <;> rfl
            cases b1 with
            | true =>
              go_wp2_with fail
              go_roundw
              case rel => exact ⟨k + 1, by omega, by go_num, HB22.out⟩
              case measure => simp [intOf]; omega
            | false =>
              go_wp2_with fail
              go_roundw
              case rel => exact ⟨k + 1, by omega, by go_num, HB22.out⟩
              case measure => simp [intOf]; omega
          · obtain rfl : k = nL := by omega
            obtain ⟨wR, hwR⟩ : ∃ x, wr = x := ⟨_, rfl⟩
            rw [hwR] at hI
            have hC2 : ∀ W, Below wR.heap.size wR W → Calls Tryd.prog 9 #[hypV (mm : Int) (.slice ae ls.length ce)] W fun e w' => ∃ a c, e = .returned (.agg #[.int .i64 (mm : Int), .slice a n c]) ∧ SlRK .i64 w' (.slice a n c) E ∧ Below W.heap.size W w' := fun W hW => by
              refine (own_any (mm : Int) _ ls W (hI.rx.later hW)).mono ?_
              rintro e w' ⟨v', p', rfl, hO', hp', hb'⟩
              have hR' := hO'.slR
              rw [hp', H2.out.2.2] at hR'
              obtain ⟨a, c, rfl, -⟩ := hR'.open
              rw [H2.out.2.1] at hR' ⊢
              exact ⟨a, c, rfl, hR', hb'⟩
            have hS2 : ∀ W v, Below wR.heap.size wR W → SlRK .i64 W v E → Calls Tryd.prog 20 #[.slice ah n ch, v] W fun e w' => e = .returned (.bool true) ∧ Below W.heap.size W w' := fun W v hW hv => same_any _ v E W (hI.ry.later hW) hv
            obtain ⟨x0, x1, -, -, lX⟩ := two_of hI.bx
            clear y0 y1 lY
            obtain ⟨y0, y1, -, -, lY⟩ := two_of hI.by'
            have HK : Hid (∀ W, Below wR.heap.size wR W → W.cell? ⟨X, 0, none⟩ = some (.int .i64 (mm : Int)) ∧ W.cell? ⟨X, 1, none⟩ = some (.slice ae ls.length ce) ∧ W.cell? ⟨Y, 0, none⟩ = some (.int .i64 (mm : Int)) ∧ W.cell? ⟨Y, 1, none⟩ = some (.slice ah n ch)) := Lib.hid (fun W hb => ⟨cell_next hb x0, cell_next hb x1, cell_next hb y0, cell_next hb y1⟩)
            have HC := Lib.hid (And.intro hC2 hS2)
            have HI := Lib.hid hI
            clear hC2 hS2 hI hb
            rw [hwR]
            clear hwR
            have hfd : ∀ a c W, (Instr.field 24 (.agg #[.int .i64 (mm : Int), .slice a n c]) 1).run Tryd.prog W = .ok (.slice a n c) W := fun _ _ _ => by kernel_rfl
            go_upto_region 26 with fail
            go_cut [4] (fun s4 wx => s4 = .bool true ∧ Below wR.heap.size wR wx)
            case first =>
              go_region_held3 (fun W => W.cell? ⟨X, 0, none⟩ = some (.int .i64 (mm : Int)) ∧ W.cell? ⟨X, 1, none⟩ = some (.slice ae ls.length ce) ∧ W.cell? ⟨Y, 0, none⟩ = some (.int .i64 (mm : Int)) ∧ W.cell? ⟨Y, 1, none⟩ = some (.slice ah n ch))
                (first | exact HK.out _ (later_refl _) | exact HK.out _ (later_drew _) | exact HK.out _ hbT | exact HK.out _ hbO | assumption)
                (first
                  | (go_at_call 9; refine (HC.out.1 _ (by first | exact hbT | exact hbO | exact later_drew _ | exact later_refl _)).mono ?_; rintro e wO ⟨oa, oc, rfl, hoR, hO1⟩; have hbO : Below wR.heap.size wR wO := later_trans (by first | exact hbT | exact hbO | exact later_drew _ | exact later_refl _) hO1)
                  | (go_at_call 20; refine (HC.out.2 _ _ (by first | exact hbT | exact hbO | exact later_drew _ | exact later_refl _) hoR).mono ?_; rintro e wT9 ⟨rfl, hT1⟩; have hbT : Below wR.heap.size wR wT9 := later_trans (by first | exact hbT | exact hbO | exact later_drew _ | exact later_refl _) hT1))
              all_goals (go_wp2_with fail)
              all_goals go_meet
              all_goals exact ⟨rfl, hbT⟩
            case rest =>
              obtain ⟨rfl, hcb⟩ := hcut
              have HE := Lib.hid (later_trans HI.out.bel hcb)
              clear hcb
              go_wp2_with fail
              go_ret
              exact ⟨rfl, HE.out⟩

      | true =>
        go_wp2_with fail
        refine H10.out.2.mono ?_
        rintro e wt0 ⟨tv, P, no, rfl, hP, hT3, b3⟩
        obtain ⟨rfl, hJ⟩ : no = 0 ∧ JoinP (E.map setL) P := by
          rcases hT3.ok HY.out with q | q
          · exact ⟨q.1, q.2.2⟩
          · rw [H5.out.2.2.2.2.1] at q; exact absurd q.2.1 (by decide)
        obtain ⟨ta, tc, rfl⟩ := owns_shape2 hP
        have hPn : P.length = n := by have := hJ.len; rw [List.length_map] at this; rw [this]; exact H2.out.2.1
        have hPI : SlI .i64 wt0 (.slice ta P.length tc) P := SlI.of_tree (E := E.map setL) hP (.inr hJ) (by omega)
        have HTL : Hid (P.length ≤ 1048576) := Lib.hid (by omega)
        have hJ1 := Joins20_any mm (.slice ah n ch) (.slice ta P.length tc) E P wt0 (H10.out.1.later b3).ry hPI HTL.out HY.out
        have HT0 := Lib.hid (And.intro (H10.out.1.later b3) (And.intro hPI (And.intro hJ hJ1)))
        clear c0 c1 lY hT3 hP b3 hPI hJ1 hJ hPn
        obtain ⟨c0, c1, -, -, lY⟩ := two_of HT0.out.1.by'
        go_wp2_with fail
        refine HT0.out.2.2.2.mono ?_
        rintro e wT ⟨hTe, b11⟩
        obtain rfl := hTe.is HT0.out.2.2.1
        have HT := Lib.hid (And.intro (HT0.out.1.later b11) (HT0.out.2.1.later b11))
        clear c0 c1 lY hTe b11
        obtain ⟨c0, c1, -, -, lY⟩ := two_of HT.out.1.by'
        have hro := rows_any 6 (by decide) (.slice ar rs.length cr) rs wT HT.out.1.rr
        have HRo := Lib.hid hro
        clear hro
        go_wp2_with fail
        refine HRo.out.mono ?_
        rintro e wq ⟨v20, ps, rfl, hO, hps, hb⟩
        obtain ⟨a20, c20, rfl⟩ := owns_shape2 hO.own
        have hpl : ps.length ≤ 6 := by
          have h1 := congrArg List.length hps
          unfold rowsL at h1
          rw [List.length_map, List.length_map, List.length_take] at h1
          omega
        have hlen9 : (rowsL 6 rs ++ [P]).length = ps.length + 1 := by rw [← hps]; simp
        have hO2 := hO.own.alloc (.cells #[(.slice ta P.length tc)] 27)
        have hsz : wT.heap.size ≤ wq.heap.size := hb.size
        have HO := Lib.hid (And.intro hO (And.intro hps (And.intro hb hlen9)))
        clear hO hps hb c0 c1 lY hlen9
        go_upto_region 21 with (at_builtin; refine wpList_append_own _ rfl (.tmp 84) (.tmp 86) 22 rfl wT.heap.size 27 i0 _ 1 24 Tryd.underlying22 hi0 hz0 hz1 hz2 rfl (by decide) _ _ _ rfl hO2 ⟨wq.heap.size, 0, none⟩ 1 1 [(.slice ta P.length tc)] rfl rfl (cells_new _ _ _) (by simp [Value.oneCell']) (by unfold maxLen; omega) (by omega) (by simp; omega) ?_; intro v6 w6 hown6 hgrow6 _; obtain ⟨g6, cap6, rfl⟩ := ownsRow_succ hown6)
        have hM := own_more HO.out.1 HO.out.2.2.1 (later_alloc wq _) HT.out.2 hown6 hgrow6
        rw [HO.out.2.1] at hM
        have HM := Lib.hid (And.intro hM (HT.out.1.later hM.2))
        clear hM hown6 hgrow6 hO2 hsz
        obtain ⟨nL, hnL⟩ : ∃ k, ps.length + 1 = k := ⟨_, rfl⟩
        have HN := Lib.hid (HO.out.2.2.2.trans hnL)
        rw [hnL] at HM ⊢
        have hnI : (ps.length : Int) + 1 = (nL : Int) := by omega
        try rw [hnI]
        have hnL7 : nL ≤ 7 := by omega
        clear hnL hpl hnI
        go_wp2_with fail
        go_loopw [89] (fun x wr => ∃ k : Nat, k ≤ nL ∧ x = .int .i64 k ∧ Below w6.heap.size w6 wr) (fun x _ => nL - (intOf x).toNat)
        case atStart => exact ⟨0, Nat.zero_le _, rfl, Below.refl _ _⟩
        case round =>
          obtain ⟨k, hk, rfl, hb⟩ := hrel
          have hI := HM.out.2.later hb
          obtain ⟨y0, y1, -, -, lY⟩ := two_of hI.by'
          have HBW := Lib.hid hb
          by_cases hkn : k < nL
          · have hkl : k < (rowsL 6 rs ++ [P]).length := by rw [HN.out]; exact hkn
            obtain ⟨a9, c9, e1, _, _, _, f4⟩ := (HM.out.1.1.later hb).open
            obtain ⟨b, o, e2, lb, fc⟩ := f4 (by omega)
            injection e1 with e1a e1b e1c
            have e3 := e1a.trans e2
            injection e3 with e3
            injection e3 with e3a e3b
            subst e3a e3b
            obtain ⟨rk, ck, sk⟩ := fc k hkl
            rw [Nat.zero_add] at ck
            obtain ⟨ak, dk, rfl, -⟩ := sk.open
            have hsm := row_small (M := 6) (rs := rs) (xs := P) HTL.out hkl
            have hJo := Joins_any (mm : Int) (.slice ah n ch) _ E _ wr hI.ry sk hsm
            have HIk := Lib.hid (And.intro hI (And.intro sk hsm))
            have HJo := Lib.hid hJo
            clear hI sk hsm hJo fc f4 e1a e1b e1c e2 hkl hb
            go_wp2_with fail
            refine HJo.out.mono ?_
            rintro e w21 ⟨⟨b1, rfl, hq1⟩, b21⟩
            have hI21 := HIk.out.1.later b21
            clear y0 y1 lY
            obtain ⟨y0, y1, -, -, lY⟩ := two_of hI21.by'
            have hJ2 := Joins20_any mm (.slice ah n ch) (.slice ak (rowN (rowsL 6 rs ++ [P]) k).length dk) E _ w21 hI21.ry (HIk.out.2.1.later b21) HIk.out.2.2 HY.out
            have HJ2 := Lib.hid (And.intro hJ2 (And.intro hq1 (later_trans HBW.out b21)))
            clear hJ2 hq1 b21 hI21
            go_wp2_with fail
            refine HJ2.out.1.mono ?_
            rintro e w22 ⟨⟨b2, rfl, hq2⟩, b22⟩
            have hbb : b1 = b2 := by
              rw [Bool.eq_iff_iff, HJ2.out.2.1, hq2]
              exact ⟨fun q => q.2, fun q => ⟨HY.out, q⟩⟩
            subst hbb
            have HB22 := Lib.hid (later_trans HJ2.out.2.2 b22)
            clear hq2 b22
            have hbne : (b1 != b1) = false := by cases b1 <;> rfl
            cases b1 with
            | true =>
              go_wp2_with fail
              go_roundw
              case rel => exact ⟨k + 1, by omega, by go_num, HB22.out⟩
              case measure => simp [intOf]; omega
            | false =>
              go_wp2_with fail
              go_roundw
              case rel => exact ⟨k + 1, by omega, by go_num, HB22.out⟩
              case measure => simp [intOf]; omega
          · obtain rfl : k = nL := by omega
            obtain ⟨wR, hwR⟩ : ∃ x, wr = x := ⟨_, rfl⟩
            rw [hwR] at hI
            have hC2 : ∀ W, Below wR.heap.size wR W → Calls Tryd.prog 9 #[hypV (mm : Int) (.slice ae ls.length ce)] W fun e w' => ∃ a c, e = .returned (.agg #[.int .i64 (mm : Int), .slice a n c]) ∧ SlRK .i64 w' (.slice a n c) E ∧ Below W.heap.size W w' := fun W hW => by
              refine (own_any (mm : Int) _ ls W (hI.rx.later hW)).mono ?_
              rintro e w' ⟨v', p', rfl, hO', hp', hb'⟩
              have hR' := hO'.slR
              rw [hp', H2.out.2.2] at hR'
              obtain ⟨a, c, rfl, -⟩ := hR'.open
              rw [H2.out.2.1] at hR' ⊢
              exact ⟨a, c, rfl, hR', hb'⟩
            have hS2 : ∀ W v, Below wR.heap.size wR W → SlRK .i64 W v E → Calls Tryd.prog 20 #[.slice ah n ch, v] W fun e w' => e = .returned (.bool true) ∧ Below W.heap.size W w' := fun W v hW hv => same_any _ v E W (hI.ry.later hW) hv
            obtain ⟨x0, x1, -, -, lX⟩ := two_of hI.bx
            clear y0 y1 lY
            obtain ⟨y0, y1, -, -, lY⟩ := two_of hI.by'
            have HK : Hid (∀ W, Below wR.heap.size wR W → W.cell? ⟨X, 0, none⟩ = some (.int .i64 (mm : Int)) ∧ W.cell? ⟨X, 1, none⟩ = some (.slice ae ls.length ce) ∧ W.cell? ⟨Y, 0, none⟩ = some (.int .i64 (mm : Int)) ∧ W.cell? ⟨Y, 1, none⟩ = some (.slice ah n ch)) := Lib.hid (fun W hb => ⟨cell_next hb x0, cell_next hb x1, cell_next hb y0, cell_next hb y1⟩)
            have HC := Lib.hid (And.intro hC2 hS2)
            have HI := Lib.hid hI
            clear hC2 hS2 hI hb
            rw [hwR]
            clear hwR
            have hfd : ∀ a c W, (Instr.field 24 (.agg #[.int .i64 (mm : Int), .slice a n c]) 1).run Tryd.prog W = .ok (.slice a n c) W := fun _ _ _ => by kernel_rfl
            go_upto_region 26 with fail
            go_cut [4] (fun s4 wx => s4 = .bool true ∧ Below wR.heap.size wR wx)
            case first =>
              go_region_held3 (fun W => W.cell? ⟨X, 0, none⟩ = some (.int .i64 (mm : Int)) ∧ W.cell? ⟨X, 1, none⟩ = some (.slice ae ls.length ce) ∧ W.cell? ⟨Y, 0, none⟩ = some (.int .i64 (mm : Int)) ∧ W.cell? ⟨Y, 1, none⟩ = some (.slice ah n ch))
                (first | exact HK.out _ (later_refl _) | exact HK.out _ (later_drew _) | exact HK.out _ hbT | exact HK.out _ hbO | assumption)
                (first
                  | (go_at_call 9; refine (HC.out.1 _ (by first | exact hbT | exact hbO | exact later_drew _ | exact later_refl _)).mono ?_; rintro e wO ⟨oa, oc, rfl, hoR, hO1⟩; have hbO : Below wR.heap.size wR wO := later_trans (by first | exact hbT | exact hbO | exact later_drew _ | exact later_refl _) hO1)
                  | (go_at_call 20; refine (HC.out.2 _ _ (by first | exact hbT | exact hbO | exact later_drew _ | exact later_refl _) hoR).mono ?_; rintro e wT9 ⟨rfl, hT1⟩; have hbT : Below wR.heap.size wR wT9 := later_trans (by first | exact hbT | exact hbO | exact later_drew _ | exact later_refl _) hT1))
              all_goals (go_wp2_with fail)
              all_goals go_meet
              all_goals exact ⟨rfl, hbT⟩
            case rest =>
              obtain ⟨rfl, hcb⟩ := hcut
              have HE := Lib.hid (later_trans HI.out.bel hcb)
              clear hcb
              go_wp2_with fail
              go_ret
              exact ⟨rfl, HE.out⟩

end Go.Proofs.YtplidcbfbonjlaaDoor
