/-
  HyperTrees, walked.
-/
import Derived.Deep.RegionHeld3
import Derived.Deep.DeepCutAuto
import Derived.Test.YtplidcbfbonjlaaDoorHzLaw
namespace Go.Proofs.YtplidcbfbonjlaaDoor
open Go.RowKit Go.Shelf Go.Lib
set_option linter.unusedVariables false
set_option linter.unusedSimpArgs false

set_option maxRecDepth 100000 in
set_option maxHeartbeats 8000000 in
theorem hyperTrees_any (m : Int) (ev : Value) (ls : List (List Int)) (w : World) (h : SlRK .i64 w ev ls) (hT : TabW w) :
    Calls Tryd.prog 3 #[hypV m ev] w fun e w' => e = .returned (.bool true) ∧ Below w.heap.size w w' := by
  have H := Lib.hid (And.intro h hT)
  obtain ⟨ae, ce, rfl, -⟩ := h.open
  clear h hT
  go_enter Tryd.func3, Tryd.ntmps3
  have H0 := Lib.hid (And.intro (box_new w #[.int .i64 m, .slice ae ls.length ce] 24) (later_alloc w (.cells #[.int .i64 m, .slice ae ls.length ce] 24)))
  go_wp2_with fail
  refine (wakes_any _ (H.out.2.later H0.out.2)).mono ?_
  rintro e w1 ⟨rfl, hb1⟩
  have H1 := Lib.hid (And.intro (kept hb1 H0.out.1) (later_trans H0.out.2 hb1))
  obtain ⟨c0, c1, f0, f1, lN⟩ := two_of H1.out.1
  clear hb1
  go_wp2_with fail
  refine (own_any m _ ls _ (H.out.1.later H1.out.2)).mono ?_
  rintro e w2 ⟨hv, ps, rfl, hO, hps, hb2⟩
  obtain ⟨ah, ch, rfl⟩ := owns_shape2 hO.own
  have hR := hO.slR
  rw [hps] at hR
  have hpl : ps.length = (ownL ls).length := by rw [← hps, List.length_map]
  obtain ⟨E, hE⟩ : ∃ E, ownL ls = E := ⟨_, rfl⟩
  rw [hE] at hR hpl
  obtain ⟨n, hn⟩ : ∃ n, E.length = n := ⟨_, rfl⟩
  rw [hn] at hpl
  rw [hpl] at hR ⊢
  have hb2' := later_trans hb2 (later_alloc w2 (.cells #[.int .i64 m, .slice ah n ch] 24))
  have hI2 : HyI w w2.heap.size m (.slice ah n ch) E (w2.alloc (.cells #[.int .i64 m, .slice ah n ch] 24)) := ⟨later_trans H1.out.2 hb2', box_new _ _ _, hR.later (later_alloc _ _), by have := hb2.size; omega, H.out.2.later (later_trans H1.out.2 hb2')⟩
  clear hO hps hpl hb2 hb2' hR c0 c1 f0 f1 lN hE
  go_upto_region 4 with fail
  obtain ⟨W2, hw2⟩ : ∃ W, w2.alloc (.cells #[.int .i64 m, .slice ah n ch] 24) = W := ⟨_, rfl⟩
  rw [hw2] at hI2
  try rw [hw2]
  obtain ⟨Y, hY⟩ : ∃ Y, w2.heap.size = Y := ⟨_, rfl⟩
  rw [hY] at hI2 ⊢
  have H2 := Lib.hid (And.intro hI2 hn)
  obtain ⟨c0, c1, -, -, lY⟩ := two_of hI2.box
  clear hI2 hw2 hY hn
  have hTr := Tree_any m (.slice ah n ch) E W2 H2.out.1.row
  have HTr := Lib.hid hTr
  clear hTr
  go_wp2_with fail
  refine HTr.out.mono ?_
  rintro e w3 ⟨tv, P, no, rfl, hP, hT3, b3⟩
  obtain ⟨ta, tc, rfl⟩ := owns_shape2 hP
  have hI3 := H2.out.1.later b3
  have hC3 := hyperCheck_any m (.slice ah n ch) E w3 hI3.row
  clear c0 c1 lY
  obtain ⟨c0, c1, -, -, lY⟩ := two_of hI3.box
  cases hy : hypB m E with
  | false =>
    obtain ⟨rfl, rfl⟩ := hT3.bad hy
    rw [hy] at hC3
    simp only [Bool.false_eq_true, if_false] at hC3
    have HC := Lib.hid hC3
    have hPI := SlI.of_tree (E := []) hP (.inl rfl) (by decide)
    have H3 := Lib.hid (And.intro hI3 (And.intro hy hPI))
    clear hC3 hI3 hy hT3 hP b3 hPI
    go_wp2_with fail
    refine HC.out.mono ?_
    rintro e w4 ⟨rfl, b4⟩
    have hI4 := H3.out.1.later b4
    have hJo := Joins_any m (.slice ah n ch) (.slice ta (List.length ([] : List Int)) tc) E [] w4 hI4.row (H3.out.2.2.later b4) (by decide)
    clear c0 c1 lY
    obtain ⟨c0, c1, -, -, lY⟩ := two_of hI4.box
    have H4 := Lib.hid (And.intro hI4 hJo)
    clear hI4 hJo b4
    go_wp2_with fail
    refine H4.out.2.mono ?_
    rintro e w5 ⟨⟨b, rfl, hb⟩, b5⟩
    have hb' : b = false := by
      cases b with
      | false => rfl
      | true => have := (hb.1 rfl).1; rw [H3.out.2.1] at this; cases this
    subst hb'
    have HE := Lib.hid (later_trans H4.out.1.bel b5)
    clear b5 hb
    go_wp2_with fail
    go_ret
    exact ⟨rfl, HE.out⟩
  | true =>
    rw [hy] at hC3
    simp only [if_true] at hC3
    have hy4 := hypB_yes hy
    have hn40 : n ≤ 40 := by have := H2.out.2; omega
    have HC := Lib.hid hC3
    obtain ⟨ac, hac⟩ : ∃ ac, acB m E = ac := ⟨_, rfl⟩
    have hok := hT3.ok hy
    rw [hac] at hok
    have hPI : SlI .i64 w3 (.slice ta P.length tc) P := SlI.of_tree (E := E.map setL) hP (by rcases hok with ⟨-, -, q⟩ | ⟨-, -, q⟩; exact .inr q; exact .inl q) (by rcases hok with ⟨-, -, q⟩ | ⟨-, -, q⟩; (have := q.len; rw [List.length_map] at this; have := H2.out.2; omega); (rw [q]; decide))
    have H3 := Lib.hid (And.intro hI3 (And.intro hy (And.intro hPI hac)))
    have HY := Lib.hid hy4
    have HOK := Lib.hid hok
    clear hC3 hI3 hy hT3 hP b3 hPI hac hok hy4
    go_wp2_with fail
    refine HC.out.mono ?_
    rintro e w4 ⟨rfl, b4⟩
    have hI4 := H3.out.1.later b4
    clear c0 c1 lY
    obtain ⟨c0, c1, -, -, lY⟩ := two_of hI4.box
    have hAc : ∀ W, Below w4.heap.size w4 W → Calls Tryd.prog 13 #[hypV m (.slice ah n ch)] W fun e w' => e = .returned (.bool ac) ∧ Below W.heap.size W w' := fun W hb => by
      have := AcyclicB_any m (.slice ah n ch) E W (hI4.row.later hb) (hI4.tab.later hb)
      rwa [H3.out.2.2.2] at this
    have hLe : ∀ W, Below w4.heap.size w4 W → Calls Tryd.prog 14 #[hypV m (.slice ah n ch)] W fun e w' => ∃ a k c, e = .returned (.slice a k c) ∧ ((k : Int) == 0) = ac ∧ Below W.heap.size W w' := fun W hb => by
      have := LeftB_any m (.slice ah n ch) E W (hI4.row.later hb) (hI4.tab.later hb) H3.out.2.1
      rwa [H3.out.2.2.2] at this
    have HK : Hid (∀ W, Below w4.heap.size w4 W → W.cell? ⟨Y, 0, none⟩ = some (.int .i64 m) ∧ W.cell? ⟨Y, 1, none⟩ = some (.slice ah n ch)) := Lib.hid (fun W hb => ⟨cell_next hb c0, cell_next hb c1⟩)
    have HAL := Lib.hid (And.intro hAc hLe)
    have H4 := Lib.hid (And.intro hI4 (b4))
    clear hAc hLe hI4 b4
    -- [R
    go_upto_region 7 with fail
    go_cut [45] (fun s45 wx => s45 = .bool false ∧ Below w4.heap.size w4 wx)
    case first =>
      cases ac with
      | true =>
        obtain ⟨rfl, -, hJ⟩ : no = 0 ∧ True ∧ JoinP (E.map setL) P := by
          rcases HOK.out with q | q
          · exact ⟨q.1, trivial, q.2.2⟩
          · exact absurd q.2.1 (by decide)
        clear hJ
        go_region_held3 (fun W => W.cell? ⟨Y, 0, none⟩ = some (.int .i64 m) ∧ W.cell? ⟨Y, 1, none⟩ = some (.slice ah n ch))
          (first | exact HK.out _ (later_refl _) | exact HK.out _ (later_drew _) | exact HK.out _ hbQ | exact HK.out _ hbP | assumption)
          (first
            | (go_at_call 13; refine (HAL.out.1 _ (by first | exact hbQ | exact hbP | exact later_drew _ | exact later_refl _)).mono ?_; rintro e wQ ⟨rfl, hQ1⟩; have hbQ : Below w4.heap.size w4 wQ := (later_trans (by first | exact hbQ | exact hbP | exact later_drew _ | exact later_refl _) hQ1))
            | (go_at_call 14; refine (HAL.out.2 _ (by first | exact hbQ | exact hbP | exact later_drew _ | exact later_refl _)).mono ?_; rintro e wP ⟨pa, pk, pc, rfl, hpk, hP1⟩; have hbP : Below w4.heap.size w4 wP := (later_trans (by first | exact hbQ | exact hbP | exact later_drew _ | exact later_refl _) hP1)))
        all_goals (go_wp2_with fail)
        all_goals go_meet
        all_goals exact ⟨rfl, by first | exact hbQ | exact hbP⟩
      | false =>
        obtain rfl : no = 301 := by
          rcases HOK.out with q | q
          · exact absurd q.2.1 (by decide)
          · exact q.1
        go_region_held3 (fun W => W.cell? ⟨Y, 0, none⟩ = some (.int .i64 m) ∧ W.cell? ⟨Y, 1, none⟩ = some (.slice ah n ch))
          (first | exact HK.out _ (later_refl _) | exact HK.out _ (later_drew _) | exact HK.out _ hbQ | exact HK.out _ hbP | assumption)
          (first
            | (go_at_call 13; refine (HAL.out.1 _ (by first | exact hbQ | exact hbP | exact later_drew _ | exact later_refl _)).mono ?_; rintro e wQ ⟨rfl, hQ1⟩; have hbQ : Below w4.heap.size w4 wQ := (later_trans (by first | exact hbQ | exact hbP | exact later_drew _ | exact later_refl _) hQ1))
            | (go_at_call 14; refine (HAL.out.2 _ (by first | exact hbQ | exact hbP | exact later_drew _ | exact later_refl _)).mono ?_; rintro e wP ⟨pa, pk, pc, rfl, hpk, hP1⟩; have hbP : Below w4.heap.size w4 wP := (later_trans (by first | exact hbQ | exact hbP | exact later_drew _ | exact later_refl _) hP1)))
        all_goals (go_wp2_with fail)
        all_goals go_meet
        all_goals exact ⟨rfl, by first | exact hbQ | exact hbP⟩
    case rest =>
      obtain ⟨rfl, hcb⟩ := hcut
      have hI5 := H4.out.1.later hcb
      have hP5 := H3.out.2.2.1.later (later_trans H4.out.2 hcb)
      clear c0 c1 lY
      obtain ⟨c0, c1, -, -, lY⟩ := two_of hI5.box
      cases ac with
      | false =>
        obtain ⟨rfl, rfl⟩ : no = 301 ∧ P = [] := by
          rcases HOK.out with q | q
          · exact absurd q.2.1 (by decide)
          · exact ⟨q.1, q.2.2⟩
        have HE := Lib.hid hI5.bel
        clear hI5 hP5 hcb
        simp only [List.length_nil]
        go_wp2_with fail
        go_ret
        exact ⟨rfl, HE.out⟩
      | true =>
        obtain ⟨rfl, hJ⟩ : no = 0 ∧ JoinP (E.map setL) P := by
          rcases HOK.out with q | q
          · exact ⟨q.1, q.2.2⟩
          · exact absurd q.2.1 (by decide)
        have hPn : P.length = n := by have := hJ.len; rw [List.length_map] at this; rw [this]; exact H2.out.2
        have hmp := HY.out
        obtain ⟨mm, rfl⟩ : ∃ mm : Nat, m = mm := ⟨m.toNat, (Int.toNat_of_nonneg hmp.1).symm⟩
        have hm32 : mm ≤ 32 := by have := hmp.2.1; omega
        rw [hPn] at hP5
        rw [hPn]
        have H5 := Lib.hid (And.intro hI5 (And.intro hP5 (And.intro hJ hPn)))
        clear hI5 hP5 hJ hPn hcb hmp
        go_wp2_with fail
        go_loop [57] (fun c => ∃ v : Nat, v ≤ mm ∧ c = .int .i64 v) (fun c => mm - (intOf c).toNat)
        case atStart => exact ⟨0, Nat.zero_le _, rfl⟩
        case round =>
          obtain ⟨v, hv, rfl⟩ := hrel
          by_cases hvm : v < mm
          · have hvI : (v : Int) < mm := by omega
            go_wp2_with fail
            go_loop [63, 7] (fun i t => ∃ (k : Nat) (x : Int), k ≤ n ∧ i = .int .i64 k ∧ t = .int .i64 x ∧ TopI (E.map setL) P v n x) (fun i _ => n - (intOf i).toNat)
            case atStart => exact ⟨0, -1, Nat.zero_le _, rfl, rfl, .inl rfl⟩
            case round =>
              obtain ⟨k, x, hk, rfl, rfl, hx⟩ := hrel
              have HX := Lib.hid hx
              clear hx
              by_cases hkn : k < n
              · have hkI : (k : Int) < n := by omega
                obtain ⟨_, _, e1, _, _, _, f4⟩ := H5.out.1.row.open
                obtain ⟨b, o, e2, _, fc⟩ := f4 (by have := H2.out.2; omega)
                injection e1 with e1a e1b e1c
                subst e1a e1c
                subst e2
                obtain ⟨rk, ck, sk⟩ := fc k (by have := H2.out.2; omega)
                obtain ⟨ak, dk, rfl, -⟩ := sk.open
                have hCo := Contains_any _ _ (v : Int) wc sk
                have hrow := has_row (hypB_ok H3.out.2.1) (i := k) (v := v) (by have := H2.out.2; omega)
                have HCo := Lib.hid hCo
                have HR := Lib.hid hrow
                have HFC := Lib.hid fc
                clear hCo hrow fc f4 e1b sk
                obtain ⟨q, hq⟩ : ∃ q : Bool, decide ((v : Int) ∈ rowN E k) = q := ⟨_, rfl⟩
                rw [hq] at HCo
                go_wp2_with fail
                refine HCo.out.mono ?_
                rintro e w9 ⟨rfl, h9⟩
                rw [h9]
                clear h9 w9
                cases q with
                | false =>
                  clear hq
                  go_wp2_with fail
                  go_round
                  case rel => exact ⟨k + 1, x, hkn, by go_num, rfl, HX.out⟩
                  case measure => simp [intOf]; omega
                | true =>
                  have hH := HR.out.2 (of_decide_eq_true hq)
                  have HH := Lib.hid hH
                  clear hH hq
                  go_wp2_with fail
                  go_loop [76, 10] (fun i t => ∃ j a : Nat, j ≤ n ∧ i = .int .i64 j ∧ t = .int .i64 a ∧ ClimbI (E.map setL) P v j n a) (fun i _ => n - (intOf i).toNat)
                  case atStart => exact ⟨0, k, Nat.zero_le _, rfl, rfl, ClimbI.start H5.out.2.2.1 (by rw [List.length_map]; exact H2.out.2) hkn HH.out⟩
                  case round =>
                    obtain ⟨j, a, hj, rfl, rfl, hCl⟩ := hrel
                    have HCl := Lib.hid hCl
                    by_cases hjn : j < n
                    · have hjI : (j : Int) < n := by omega
                      have hal := hCl.lt
                      obtain ⟨_, _, g1, _, _, _, g4⟩ := H5.out.2.1.open
                      obtain ⟨b', o', g2, _, gc⟩ := g4 (by have := H5.out.2.2.2; omega)
                      injection g1 with g1a g1b g1c
                      subst g1a g1c
                      subst g2
                      have haP : a < P.length := by have := H5.out.2.2.2; omega
                      have ga := gc a haP
                      have hat := H5.out.2.2.1.root.at haP
                      have hPa : P.getD a 0 = P[a] := getD_at haP
                      obtain ⟨x', hx'⟩ : ∃ x', P[a] = x' := ⟨_, rfl⟩
                      rw [hPa, hx'] at hat
                      rw [hx'] at ga hPa
                      clear g4 gc g1b hx' hCl
                      rcases hat with rfl | ⟨h0, hl⟩
                      · have hst := HCl.out.stay (fun p hp _ => by rw [hPa] at hp; omega)
                        have HS := Lib.hid hst
                        clear hst hPa haP
                        go_wp2_with fail
                        go_round
                        case rel => exact ⟨j + 1, a, hjn, by go_num, rfl, HS.out⟩
                        case measure => simp [intOf]; omega
                      · obtain ⟨p, rfl⟩ : ∃ p : Nat, x' = p := ⟨x'.toNat, (Int.toNat_of_nonneg h0).symm⟩
                        have hpn : p < n := by have := H5.out.2.2.2; omega
                        obtain ⟨rk', ck', sk'⟩ := HFC.out p (by have := H2.out.2; omega)
                        obtain ⟨ak', dk', rfl, -⟩ := sk'.open
                        have hCo := Contains_any _ _ (v : Int) wc sk'
                        have hrow := has_row (hypB_ok H3.out.2.1) (i := p) (v := v) (by have := H2.out.2; omega)
                        have HCo' := Lib.hid hCo
                        obtain ⟨q, hq⟩ : ∃ q : Bool, decide ((v : Int) ∈ rowN E p) = q := ⟨_, rfl⟩
                        rw [hq] at HCo'
                        have hnx : (q = true → ClimbI (E.map setL) P v (j + 1) n p) ∧ (q = false → ClimbI (E.map setL) P v (j + 1) n a) := by
                          cases q with
                          | true => exact ⟨fun _ => HCl.out.up (by rw [List.length_map]; exact H2.out.2) hPa hpn (hrow.2 (of_decide_eq_true hq)), fun e => (by cases e)⟩
                          | false =>
                            refine ⟨fun e => (by cases e), fun _ => HCl.out.stay (fun p' hp' hh => ?_)⟩
                            rw [hPa] at hp'
                            obtain rfl : p = p' := by omega
                            exact absurd (hrow.1 hh) (of_decide_eq_false hq)
                        have HNX := Lib.hid hnx
                        clear hCo hrow hq sk' hPa haP hl hnx
                        go_wp2_with fail
                        refine HCo'.out.mono ?_
                        rintro e w9 ⟨rfl, h9⟩
                        rw [h9]
                        clear h9 w9
                        cases q with
                        | true =>
                          have HC1 := Lib.hid (HNX.out.1 rfl)
                          go_wp2_with fail
                          go_round
                          case rel => exact ⟨j + 1, p, hjn, by go_num, rfl, HC1.out⟩
                          case measure => simp [intOf]; omega
                        | false =>
                          have HC1 := Lib.hid (HNX.out.2 rfl)
                          go_wp2_with fail
                          go_round
                          case rel => exact ⟨j + 1, a, hjn, by go_num, rfl, HC1.out⟩
                          case measure => simp [intOf]; omega
                    · obtain rfl : j = n := by omega
                      have hTp := hCl.done
                      have hal := hCl.lt
                      have HT := Lib.hid hTp
                      clear hTp hCl
                      rcases HX.out with rfl | ⟨a', rfl, h1, h2⟩
                      · go_wp2_with fail
                        go_round
                        case rel => exact ⟨k + 1, a, hkn, by go_num, rfl, .inr ⟨a, rfl, hal, HT.out⟩⟩
                        case measure => simp [intOf]; omega
                      · obtain rfl : a' = a := Top.only H5.out.2.2.1 (by rw [List.length_map]; have := H2.out.2; omega) (by rw [List.length_map]; have := H2.out.2; omega) h2 HT.out
                        clear h2
                        go_wp2_with fail
                        go_round
                        case rel => exact ⟨k + 1, a', hkn, by go_num, rfl, .inr ⟨a', rfl, h1, HT.out⟩⟩
                        case measure => simp [intOf]; omega
              · obtain rfl : k = n := by omega
                go_wp2_with fail
                go_round
                case rel => exact ⟨v + 1, hvm, by go_num⟩
                case measure => simp [intOf]; omega
          · obtain rfl : v = mm := by omega
            have hJo := Joins_any (v : Int) (.slice ah n ch) (.slice ta n tc) E P wc H5.out.1.row H5.out.2.1 (by have := H5.out.2.2.2; omega)
            have HJo := Lib.hid (And.intro hJo H5.out.1.bel)
            clear hJo
            go_wp2_with fail
            refine HJo.out.1.mono ?_
            rintro e w9 ⟨hTe, b9⟩
            obtain rfl := hTe.is ⟨H3.out.2.1, H5.out.2.2.1⟩
            have HE := Lib.hid (later_trans HJo.out.2 b9)
            clear b9 hTe
            go_wp2_with fail
            go_ret
            exact ⟨rfl, HE.out⟩
    -- R]
end Go.Proofs.YtplidcbfbonjlaaDoor
