/-
  The law PlanCovers, walked.
-/
import Derived.Test.YtdmfhlfhlflakaaDoorPlLst
import Derived.Test.YtdmfhlfhlflakaaDoorPlCovs
import Derived.Test.YtdmfhlfhlflakaaDoorPlCvP
import Derived.Test.YtdmfhlfhlflakaaDoorPlClR
import Derived.Test.YtdmfhlfhlflakaaDoorPlWakes
import Derived.Test.YtdmfhlfhlflakaaDoorPlCvK
import Derived.Deep.AppendLies
namespace Go.Proofs.YtdmfhlfhlflakaaDoor
open Go.RowKit
set_option linter.unusedVariables false
set_option linter.unusedSimpArgs false

set_option maxRecDepth 100000 in
set_option maxHeartbeats 8000000 in
theorem planCovers_any (S : Shp) (c : Cov) (more : Int) (ev sv wv' : Value) (w : World) (h : ShR w ev sv S) (hw : SlI .i64 w wv' c.ws) (hmo : (Lit.int .i64 more).wf = true) (hO : One w) :
    Calls Tryd.prog 3 #[shpV S.many ev sv, covV wv' c.of, .int .i64 more] w fun e w' => e = .returned (.bool true) ∧ Below w.heap.size w w' := by
  obtain ⟨S2, hS2⟩ : ∃ S2, S2 = ownS S := ⟨_, rfl⟩
  have hm2 : S2.many = S.many := by rw [hS2]; rfl
  obtain ⟨m, ls, zs⟩ := S
  obtain ⟨ws, o⟩ := c
  simp only at hm2 hw ⊢
  have H := Lib.hid (And.intro h (And.intro hw hO))
  have HM := Lib.hid (And.intro hm2 hS2)
  obtain ⟨ae, ce, rfl, -⟩ := h.edges.open
  obtain ⟨az, cz, rfl, -⟩ := h.sizes.open
  obtain ⟨aw, cw, rfl, e1, e2, -⟩ := hw.open
  simp only at H ⊢
  obtain ⟨mw, hmw⟩ : ∃ x, min ws.length 42 = x := ⟨_, rfl⟩
  have hmin : Value.int .i64 (if (42 : Int) < ws.length then (42 : Int) else (ws.length : Int)) = .int .i64 (mw : Int) := by rw [show (if (42 : Int) < ws.length then (42 : Int) else (ws.length : Int)) = (mw : Int) from by split <;> omega]
  have hmc : mw ≤ cw := by omega
  have hml : mw ≤ ws.length := by omega
  have hwsm : ws.length ≤ 9223372036854775807 := by omega
  have hmw42 : mw ≤ 42 := by omega
  have HLm := Lib.hid (show (ws.take mw).length = mw by rw [List.length_take]; omega)
  have hi0 := Tryd.prog
  clear h hw hO hm2 hS2 hmw hi0
  go_enter Tryd.func3, Tryd.ntmps3
  have bS0 : SB ((w.alloc (.cells #[.int .i64 m, .slice ae ls.length ce, .slice az zs.length cz] 27)).alloc (.cells #[.slice aw ws.length cw, .int .i64 o] 29)) w.heap.size m (.slice ae ls.length ce) (.slice az zs.length cz) := box_alloc (box_new _ _ _) _
  have bC0 : CB ((w.alloc (.cells #[.int .i64 m, .slice ae ls.length ce, .slice az zs.length cz] 27)).alloc (.cells #[.slice aw ws.length cw, .int .i64 o] 29)) (w.heap.size + 1) (.slice aw ws.length cw) o := by have h := box_new (w.alloc (.cells #[.int .i64 m, .slice ae ls.length ce, .slice az zs.length cz] 27)) #[.slice aw ws.length cw, .int .i64 o] 29; rw [World.size_alloc] at h; exact h
  have l0 : Below w.heap.size w ((w.alloc (.cells #[.int .i64 m, .slice ae ls.length ce, .slice az zs.length cz] 27)).alloc (.cells #[.slice aw ws.length cw, .int .i64 o] 29)) := later_trans (later_alloc _ _) (later_alloc _ _)
  have H0 := Lib.hid (And.intro bS0 (And.intro bC0 l0))
  clear bS0 bC0 l0
  go_wp2_with fail
  refine (wakes_any _ (H.out.2.2.later H0.out.2.2)).mono ?_
  rintro e w1 ⟨rfl, hb1⟩
  have H1 := Lib.hid (And.intro (kept hb1 H0.out.1) (And.intro (kept hb1 H0.out.2.1) (later_trans H0.out.2.2 hb1)))
  obtain ⟨c0, c1, c2, f0, f1, f2, lN⟩ := three_of H1.out.1
  clear hb1
  go_wp2_with fail
  refine (own_any ⟨m, ls, zs⟩ _ _ _ (H.out.1.later H1.out.2.2)).mono ?_
  rintro e w2 ⟨ev2, sv2, rfl, hS2, hb2⟩
  rw [← HM.out.2] at hS2
  have hb2' := later_trans hb2 (later_alloc w2 (.cells #[.int .i64 m, ev2, sv2] 27))
  have H2 := Lib.hid (And.intro (hS2.later (later_alloc w2 (.cells #[.int .i64 m, ev2, sv2] 27))) (And.intro (kept hb2' H1.out.2.1) (And.intro (later_trans H1.out.2.2 hb2') (box_new w2 #[.int .i64 m, ev2, sv2] 27))))
  obtain ⟨p1, q1, rfl, -⟩ := hS2.shR.edges.open
  obtain ⟨p2, q2, rfl, -⟩ := hS2.shR.sizes.open
  obtain ⟨d0, d1, g0, g1, lC⟩ := two_of H2.out.2.1
  have hs2 := lt_of_block H1.out.2.1
  have hs22 := hb2.size
  clear hb2 hb2' hS2 c0 c1 c2 f0 f1 f2
  go_upto_region 4 with fail
  go_cut [] (fun wx => ∃ wv' : Value, LstW w m (.slice p1 S2.edges.length q1) (.slice p2 S2.sizes.length q2) wv' S2 ⟨ws.take mw, o⟩ w2.heap.size wx)
  case first =>
    go_wp2_with fail
    refine (cloneI_any _ (ws.take mw) _ (SlI.cut2 (k := .i64) (SlI.later H.out.2.1 H2.out.2.2.1) hml) (by simp; omega)).mono ?_
    rintro e w3 ⟨v3, rfl, ho3, hb3⟩
    obtain ⟨a3, q3, hv3⟩ := owns_shape2 ho3
    have hn3 : (ws.take mw).length = mw := HLm.out
    rw [hn3] at hv3
    subst hv3
    have hsz3 := lt_of_block H2.out.2.2.2
    have hx3 : w1.heap.size ≤ (w2.alloc (.cells #[.int .i64 m, .slice p1 S2.edges.length q1, .slice p2 S2.sizes.length q2] 27)).heap.size := by omega
    have hL := LstW.of (ws := ws.take mw) (later_trans H2.out.2.2.1 hb3) (kept hb3 H2.out.2.1) (kept hb3 H2.out.2.2.2) (H2.out.1.later hb3) (owns_down ho3 hx3) (fun x hx => H.out.2.1.2 x (List.mem_of_mem_take hx)) (by omega) hs2
    obtain ⟨d0, d1, g0, g1, lC⟩ := two_of (kept hb3 H2.out.2.1)
    have HL := Lib.hid hL
    clear hb3 ho3 hn3 hL hx3
    go_wp2_with fail
    go_meet
    exact ⟨_, HL.out⟩
  case rest =>
    obtain ⟨wv3, hL⟩ := hcut
    clear d0 d1 g0 g1 lC
    obtain ⟨Y, hY⟩ : ∃ Y, w2.heap.size = Y := ⟨_, rfl⟩
    rw [hY] at hL ⊢
    obtain ⟨a3, q3, rfl, -⟩ := hL.ws.open
    have hn3 : (ws.take mw).length = mw := HLm.out
    simp only [hn3] at hL
    obtain ⟨c2, hc2⟩ : ∃ c2 : Cov, (⟨ws.take mw, o⟩ : Cov) = c2 := ⟨_, rfl⟩
    have ho : c2.of = o := by rw [← hc2]
    rw [hc2] at hL
    have hB := Bound_any S2 c2 _ _ _ wc hL.own hL.ws (H.out.2.2.later hL.bel)
    rw [HM.out.1, ho] at hB
    have hCv := fun W hb => Covers_any S2 c2 _ _ _ W (hL.later hb).own (hL.later hb).ws
    rw [HM.out.1, ho] at hCv
    obtain ⟨c0, c1, c2', f0, f1, f2, lY⟩ := three_of hL.b5
    obtain ⟨d0, d1, g0, g1, lC⟩ := two_of hL.bc
    rw [ho] at d1
    have HL := Lib.hid hL
    have HB := Lib.hid hB
    have HCv := Lib.hid hCv
    clear hL hB hCv hn3 hc2 hY hs2 hs22 hmin hmc hml hwsm hmw42
    obtain ⟨q, hq⟩ : ∃ q, boundE S2 c2 = q := ⟨_, rfl⟩
    obtain ⟨bN, hbN⟩ : ∃ bN, boundN S2 c2 = bN := ⟨_, rfl⟩
    by_cases hq0 : q = 0
    · subst hq0
      have hbl := (boundN_lt hq).2.1
      rw [hbN] at hbl
      obtain ⟨bh, bl, hbw, -⟩ := wv_open bN hbl
      have hV : boundV S2 c2 = .tuple #[.agg #[.int .u64 bh, .int .u64 bl], .int .i64 0] := by
        unfold boundV
        rw [hbN, hq, hbw]
      rw [hV] at HB
      have hcv1 : (shpB S2 && coversB S2 c2) = true := by
        obtain ⟨k1, k2, -⟩ := boundE_zero hq
        rw [k1, k2]; rfl
      rw [hcv1] at HCv
      have HN := Lib.hid (And.intro hq (And.intro hbN (And.intro hbl (And.intro hbw ho))))
      have hlen40 : S2.edges.length ≤ 40 := by
        obtain ⟨k1, -, -⟩ := boundE_zero hq
        exact (shpB_yes k1).2.2.1
      clear hV hq hbN hbl hbw ho hcv1
      go_wp2_with fail
      refine HB.out.mono ?_
      rintro e w4 ⟨rfl, hb4⟩
      have hb4' := later_trans hb4 (later_alloc w4 (.cells #[.int .u64 bh, .int .u64 bl] 35))
      have H4 := Lib.hid (And.intro hb4' (box_new w4 #[.int .u64 bh, .int .u64 bl] 35))
      obtain ⟨c0, c1, c2', f0, f1, f2, lY⟩ := three_of (kept hb4 HL.out.b5)
      obtain ⟨d0, d1, g0, g1, lC⟩ := two_of (kept hb4 HL.out.bc)
      rw [HN.out.2.2.2.2] at d1
      clear hb4 hb4'
      go_wp2_with fail
      refine (HCv.out _ H4.out.1).mono ?_
      rintro e w5 ⟨rfl, hb5⟩
      have h5 := later_trans H4.out.1 hb5
      have H5 := Lib.hid (And.intro h5 (kept hb5 H4.out.2))
      obtain ⟨c0, c1, c2', f0, f1, f2, lY⟩ := three_of (kept h5 HL.out.b5)
      obtain ⟨d0, d1, g0, g1, lC⟩ := two_of (kept h5 HL.out.bc)
      rw [HN.out.2.2.2.2] at d1
      clear hb5 h5
      by_cases h40 : S2.edges.length = 40
      · have h40i : ((S2.edges.length : Nat) : Int) = 40 := by omega
        have h40b : (((S2.edges.length : Nat) : Int) == 40) = true := by simp [h40i]
        have HE := Lib.hid h40
        clear h40 h40i
        go_wp2_with fail
        refine (HCv.out _ H5.out.1).mono ?_
        rintro e w6 ⟨rfl, hb6⟩
        have H6 := Lib.hid (later_trans HL.out.bel (later_trans H5.out.1 hb6))
        clear hb6
        go_wp2_with fail
        go_ret
        exact ⟨rfl, H6.out⟩
      · have h40b : (((S2.edges.length : Nat) : Int) == 40) = false := by simp; omega
        have h39 : S2.edges.length < 40 := by omega
        have HE := Lib.hid h40
        clear h40
        obtain ⟨n, hn⟩ : ∃ n, (IntKind.u64.wrap more).tmod 1000 = n := ⟨_, rfl⟩
        have hw0 : 0 ≤ IntKind.u64.wrap more := by unfold IntKind.wrap; simp [IntKind.signed, IntKind.bits]; omega
        have hn0 : 0 ≤ n ∧ n ≤ 999 := by rw [← hn, Int.tmod_eq_emod_of_nonneg hw0]; omega
        clear hw0
        have HNn := Lib.hid hn
        clear hn
        go_upto_region 10 with fail
        go_cut [10] (fun s10 wx => ∃ (T : Nat) (ev sv : Value), s10 = .pointer (some ⟨T, 0, none⟩) ∧ SB wx T m ev sv ∧ ShR wx ev sv (plusS S2 n) ∧ Below w5.heap.size w5 wx)
        case first =>
          as_aux_lemma =>
          obtain ⟨rv, hrC, hrR⟩ := (HL.out.later H5.out.1).own.edges
          have HRv := Lib.hid (And.intro hrC hrR)
          generalize hA : Act.mk _ _ = a0
          have e7 : a0.eval (.tmp 7) = .pointer (some ⟨Y, 0, none⟩) := by rw [← hA]; rfl
          have e2 : a0.eval (.tmp 2) = .int .i64 more := by rw [← hA]; rfl
          have hsz : 200 < a0.tmps.size := by rw [← hA]; exact Nat.le_of_ble_eq_true rfl
          have HA := Lib.hid hA
          clear hA hrC hrR
          obtain ⟨i8, hi8, hza8, hzb8, hzc8⟩ := info_parts info_rowI
          obtain ⟨i18, hi18, hza18, hzb18, hzc18⟩ := info_parts info_int
          refine Inv.wp_region_inv (J := fun L a w' => Inv.Fa 22 a0 cvS (cvF w5.heap.size Y m (.slice p1 S2.edges.length q1) (.slice p2 S2.sizes.length q2) S2.edges.length ((List.range S2.edges.length).map rv) S2.sizes more n) L a w' ∧ Below w5.heap.size w5 w') (by kernel_rfl) (by kernel_rfl) ⟨Inv.Fa.start _, later_drew _⟩ ?_ ?_
          · rintro L a w' i op ⟨hF, hb⟩ h0 hop hall
            have hi : i < 22 := (Array.getElem?_eq_some_iff.1 hop).1
            refine Inv.wpOp_of hop ?_
            have hcase : i = 0 ∨ i = 1 ∨ i = 2 ∨ i = 3 ∨ i = 4 ∨ i = 5 ∨ i = 6 ∨ i = 7 ∨ i = 8 ∨ i = 9 ∨ i = 10 ∨ i = 11 ∨ i = 12 ∨ i = 13 ∨ i = 14 ∨ i = 15 ∨ i = 16 ∨ i = 17 ∨ i = 18 ∨ i = 19 ∨ i = 20 ∨ i = 21 := by omega
            rcases hcase with rfl | rfl | rfl | rfl | rfl | rfl | rfl | rfl | rfl | rfl | rfl | rfl | rfl | rfl | rfl | rfl | rfl | rfl | rfl | rfl | rfl | rfl
            · obtain rfl := (Option.some.inj hop).symm
              have y7 : a.tmps[7]?.getD undef = .pointer (some ⟨Y, 0, none⟩) := by have h := (hF.ag.eval (s := 7) (by decide)).trans e7; simpa [Act.eval] using h
              have hs0 : 68 < a.tmps.size := by have := hF.ag.size; omega
              go_simp
              refine cv_step (i := 0) (v := .pointer (some ⟨Y, 0, none⟩)) hF (by decide) h0 (later_refl _) ?_
              exact Inv.eval_put_same hs0 _
            · obtain rfl := (Option.some.inj hop).symm
              have d0 : L.getD 0 false = true := hall ⟨0, .data⟩ (by simp) rfl
              have y68 : a.tmps[68]?.getD undef = .pointer (some ⟨Y, 0, none⟩) := by have h := hF.facts 0 (by decide) d0; simpa [cvF, Act.eval] using h
              have hs0 : 69 < a.tmps.size := by have := hF.ag.size; omega
              go_simp
              refine cv_step (i := 1) (v := .pointer (some ⟨Y, 0, none⟩)) hF (by decide) h0 (later_refl _) ?_
              exact Inv.eval_put_same hs0 _
            · obtain rfl := (Option.some.inj hop).symm
              have d1 : L.getD 1 false = true := hall ⟨1, .data⟩ (by simp) rfl
              have y69 : a.tmps[69]?.getD undef = .pointer (some ⟨Y, 0, none⟩) := by have h := hF.facts 1 (by decide) d1; simpa [cvF, Act.eval] using h
              obtain ⟨k0, k1, k2, -, -, -, kY⟩ := three_of (kept hb (kept H5.out.1 HL.out.b5))
              have hs0 : 70 < a.tmps.size := by have := hF.ag.size; omega
              go_simp
              refine cv_step (i := 2) (v := .int .i64 m) hF (by decide) h0 (later_refl _) ?_
              exact Inv.eval_put_same hs0 _
            · obtain rfl := (Option.some.inj hop).symm
              have y7 : a.tmps[7]?.getD undef = .pointer (some ⟨Y, 0, none⟩) := by have h := (hF.ag.eval (s := 7) (by decide)).trans e7; simpa [Act.eval] using h
              have hs0 : 71 < a.tmps.size := by have := hF.ag.size; omega
              go_simp
              refine cv_step (i := 3) (v := .pointer (some ⟨Y, 0, none⟩)) hF (by decide) h0 (later_refl _) ?_
              exact Inv.eval_put_same hs0 _
            · obtain rfl := (Option.some.inj hop).symm
              have d3 : L.getD 3 false = true := hall ⟨3, .data⟩ (by simp) rfl
              have y71 : a.tmps[71]?.getD undef = .pointer (some ⟨Y, 0, none⟩) := by have h := hF.facts 3 (by decide) d3; simpa [cvF, Act.eval] using h
              have hs0 : 72 < a.tmps.size := by have := hF.ag.size; omega
              go_simp
              refine cv_step (i := 4) (v := .pointer (some ⟨Y, 1, none⟩)) hF (by decide) h0 (later_refl _) ?_
              exact Inv.eval_put_same hs0 _
            · obtain rfl := (Option.some.inj hop).symm
              have d4 : L.getD 4 false = true := hall ⟨4, .data⟩ (by simp) rfl
              have y72 : a.tmps[72]?.getD undef = .pointer (some ⟨Y, 1, none⟩) := by have h := hF.facts 4 (by decide) d4; simpa [cvF, Act.eval] using h
              obtain ⟨k0, k1, k2, -, -, -, kY⟩ := three_of (kept hb (kept H5.out.1 HL.out.b5))
              have hs0 : 73 < a.tmps.size := by have := hF.ag.size; omega
              go_simp
              refine cv_step (i := 5) (v := .slice p1 S2.edges.length q1) hF (by decide) h0 (later_refl _) ?_
              exact Inv.eval_put_same hs0 _
            · obtain rfl := (Option.some.inj hop).symm
              have d5 : L.getD 5 false = true := hall ⟨5, .data⟩ (by simp) rfl
              have y73 : a.tmps[73]?.getD undef = .slice p1 S2.edges.length q1 := by have h := hF.facts 5 (by decide) d5; simpa [cvF, Act.eval] using h
              have hs0 : 74 < a.tmps.size := by have := hF.ag.size; omega
              have hbw := later_trans H5.out.1 hb
              have hCl := cloneRv_any _ S2.edges rv w' (HRv.out.1.later hb) (fun r hr => (HRv.out.2 r hr).later hb) (by omega)
              go_simp
              refine hCl.mono ?_
              rintro e w9 ⟨v9, rfl, ho9, hb9⟩
              have hbs := hb.size
              obtain ⟨a9, c9, rfl⟩ := owns_shape2 ho9
              refine ⟨cv_step (i := 6) (v := .slice a9 S2.edges.length c9) hF (by decide) h0 hb9 ?_, later_trans hb hb9⟩
              exact fun _ => by
                show rowC _ _ _ _ _ (Act.eval _ (.tmp 74))
                rw [show Act.eval (a.put (some (cvD 6)) (.slice a9 S2.edges.length c9)) (.tmp 74) = .slice a9 S2.edges.length c9 from Inv.eval_put_same hs0 _]
                exact ⟨a9, c9, rfl, owns_down ho9 hbs⟩
            · obtain rfl := (Option.some.inj hop).symm
              have hs0 : 75 < a.tmps.size := by have := hF.ag.size; omega
              go_simp
              refine ⟨cv_step (i := 7) (v := .slice (some ⟨w'.heap.size, 0, none⟩) 1 1) hF (by decide) h0 (later_alloc _ _) ?_, later_trans hb (later_alloc _ _)⟩
              exact fun _ => ⟨w'.heap.size, Inv.eval_put_same hs0 _, box_new _ _ _⟩
            · obtain rfl := (Option.some.inj hop).symm
              have dr : L.getD 6 false = true := hall ⟨6, .data⟩ (by simp) rfl
              have dc : L.getD 7 false = true := hall ⟨7, .data⟩ (by simp) rfl
              have h8f := false_of h0
              obtain ⟨av, cv, er, hor⟩ := (hF.facts 6 (by decide) dr : L.getD 8 false = false → rowC _ _ _ _ _ _) h8f
              obtain ⟨b, ec, hoc⟩ := (hF.facts 7 (by decide) dc : L.getD 8 false = false → rowB _ _ _ _) h8f
              rw [er] at hor
              have hs0 : 76 < a.tmps.size := by have := hF.ag.size; omega
              have hbs := hb.size
              have hk := h39
              refine step_append_lies _ rfl (.tmp 74) (.tmp 75) 22 rfl w5.heap.size 25 i8 _ 1 24 Tryd.underlying22 hi8 hza8 hzb8 hzc8 rfl (by decide) (.slice av S2.edges.length cv) S2.edges.length _ er hor ⟨b, 0, none⟩ 1 1 [.slice none 0 0] ec rfl (World.news_of_block hoc) (by simp [Value.oneCell']) (by decide) (by unfold maxLen; omega) (by omega) hbs _ rfl ?_
              intro g6 cap6 w6 hown6 hgrow6 hat6 hlt6
              have hl1 : (L.setIfInBounds 8 true).getD 8 false = true := by rw [Inv.listed_set h0]; simp
              refine ⟨hF.step (d := 76) h0 (by decide) (fun j hj hne hl hf => cvF_app1 hf hne h8f hl1 (fun _ => cv_put (i := 8) (by decide) h0 hj hne hf _) (set_less h0) hor hgrow6) ?_, hb.grown hgrow6 hbs (fun k e => owns_above hor k e)⟩
              show rowG _ _ _ _ _ (Act.eval _ (.tmp 76))
              rw [Inv.eval_put_same hs0]
              exact ⟨g6, cap6, rfl, hown6⟩
            · obtain rfl := (Option.some.inj hop).symm
              have d2 : L.getD 2 false = true := hall ⟨2, .data⟩ (by simp) rfl
              have d8 : L.getD 8 false = true := hall ⟨8, .data⟩ (by simp) rfl
              have y70 : a.tmps[70]?.getD undef = .int .i64 m := by have h := hF.facts 2 (by decide) d2; simpa [cvF, Act.eval] using h
              obtain ⟨g8, c8, e8, o8⟩ : rowG _ _ _ _ _ _ := hF.facts 8 (by decide) d8
              have y76 : a.tmps[76]?.getD undef = .slice (some ⟨g8, 0, none⟩) (S2.edges.length + 1) c8 := by simpa [Act.eval] using e8
              rw [e8] at o8
              have hs0 : 77 < a.tmps.size := by have := hF.ag.size; omega
              have HO8 := Lib.hid o8
              clear o8 e8
              go_simp
              refine cv_step (i := 9) (v := .agg #[.int .i64 m, .slice (some ⟨g8, 0, none⟩) (S2.edges.length + 1) c8]) hF (by decide) h0 (later_refl _) ?_
              exact ⟨getD_set_true d8, _, Inv.eval_put_same hs0 _, g8, c8, rfl, HO8.out⟩
            · obtain rfl := (Option.some.inj hop).symm
              have y7 : a.tmps[7]?.getD undef = .pointer (some ⟨Y, 0, none⟩) := by have h := (hF.ag.eval (s := 7) (by decide)).trans e7; simpa [Act.eval] using h
              have hs0 : 78 < a.tmps.size := by have := hF.ag.size; omega
              go_simp
              refine cv_step (i := 10) (v := .pointer (some ⟨Y, 2, none⟩)) hF (by decide) h0 (later_refl _) ?_
              exact Inv.eval_put_same hs0 _
            · obtain rfl := (Option.some.inj hop).symm
              have d10 : L.getD 10 false = true := hall ⟨10, .data⟩ (by simp) rfl
              have y78 : a.tmps[78]?.getD undef = .pointer (some ⟨Y, 2, none⟩) := by have h := hF.facts 10 (by decide) d10; simpa [cvF, Act.eval] using h
              obtain ⟨k0, k1, k2, -, -, -, kY⟩ := three_of (kept hb (kept H5.out.1 HL.out.b5))
              have hs0 : 79 < a.tmps.size := by have := hF.ag.size; omega
              go_simp
              refine cv_step (i := 11) (v := .slice p2 S2.sizes.length q2) hF (by decide) h0 (later_refl _) ?_
              exact Inv.eval_put_same hs0 _
            · obtain rfl := (Option.some.inj hop).symm
              have d11 : L.getD 11 false = true := hall ⟨11, .data⟩ (by simp) rfl
              have y79 : a.tmps[79]?.getD undef = .slice p2 S2.sizes.length q2 := by have h := hF.facts 11 (by decide) d11; simpa [cvF, Act.eval] using h
              have hs0 : 80 < a.tmps.size := by have := hF.ag.size; omega
              have hz40 : S2.sizes.length ≤ 40 := by have := (shpB_yes (boundE_zero HN.out.1).1).2.2.2.1; omega
              have hCl := cloneI_any _ S2.sizes w' ((HL.out.later H5.out.1).own.sizes.later hb) (by omega)
              go_simp
              refine hCl.mono ?_
              rintro e w9 ⟨v9, rfl, ho9, hb9⟩
              have hbs := hb.size
              obtain ⟨a9, c9, rfl⟩ := owns_shape2 ho9
              refine ⟨cv_step (i := 12) (v := .slice a9 S2.sizes.length c9) hF (by decide) h0 hb9 ?_, later_trans hb hb9⟩
              exact fun _ => by
                show rowC _ _ _ _ _ (Act.eval _ (.tmp 80))
                rw [show Act.eval (a.put (some (cvD 12)) (.slice a9 S2.sizes.length c9)) (.tmp 80) = .slice a9 S2.sizes.length c9 from Inv.eval_put_same hs0 _]
                exact ⟨a9, c9, rfl, owns_down ho9 hbs⟩
            · obtain rfl := (Option.some.inj hop).symm
              have y2 : a.tmps[2]?.getD undef = .int .i64 more := by have h := (hF.ag.eval (s := 2) (by decide)).trans e2; simpa [Act.eval] using h
              have hs0 : 81 < a.tmps.size := by have := hF.ag.size; omega
              go_simp
              refine cv_step (i := 13) (v := .int .i64 more) hF (by decide) h0 (later_refl _) ?_
              exact Inv.eval_put_same hs0 _
            · obtain rfl := (Option.some.inj hop).symm
              have d13 : L.getD 13 false = true := hall ⟨13, .data⟩ (by simp) rfl
              have y81 : a.tmps[81]?.getD undef = .int .i64 more := by have h := hF.facts 13 (by decide) d13; simpa [cvF, Act.eval] using h
              have hs0 : 82 < a.tmps.size := by have := hF.ag.size; omega
              go_simp
              refine cv_step (i := 14) (v := .int .u64 (IntKind.u64.wrap more)) hF (by decide) h0 (later_refl _) ?_
              exact Inv.eval_put_same hs0 _
            · obtain rfl := (Option.some.inj hop).symm
              have d14 : L.getD 14 false = true := hall ⟨14, .data⟩ (by simp) rfl
              have y82 : a.tmps[82]?.getD undef = .int .u64 (IntKind.u64.wrap more) := by have h := hF.facts 14 (by decide) d14; simpa [cvF, Act.eval] using h
              have hs0 : 83 < a.tmps.size := by have := hF.ag.size; omega
              have hnn := HNn.out
              go_simp
              refine cv_step (i := 15) (v := .int .u64 n) hF (by decide) h0 (later_refl _) ?_
              exact Inv.eval_put_same hs0 _
            · obtain rfl := (Option.some.inj hop).symm
              have d15 : L.getD 15 false = true := hall ⟨15, .data⟩ (by simp) rfl
              have y83 : a.tmps[83]?.getD undef = .int .u64 n := by have h := hF.facts 15 (by decide) d15; simpa [cvF, Act.eval] using h
              have hs0 : 84 < a.tmps.size := by have := hF.ag.size; omega
              have hnn : IntKind.i64.wrap n = n := by unfold IntKind.wrap; simp [IntKind.signed, IntKind.bits]; omega
              go_simp
              refine cv_step (i := 16) (v := .int .i64 n) hF (by decide) h0 (later_refl _) ?_
              exact Inv.eval_put_same hs0 _
            · obtain rfl := (Option.some.inj hop).symm
              have d16 : L.getD 16 false = true := hall ⟨16, .data⟩ (by simp) rfl
              have y84 : a.tmps[84]?.getD undef = .int .i64 n := by have h := hF.facts 16 (by decide) d16; simpa [cvF, Act.eval] using h
              have hs0 : 85 < a.tmps.size := by have := hF.ag.size; omega
              go_simp
              refine ⟨cv_step (i := 17) (v := .slice (some ⟨w'.heap.size, 0, none⟩) 1 1) hF (by decide) h0 (later_alloc _ _) ?_, later_trans hb (later_alloc _ _)⟩
              exact fun _ => ⟨w'.heap.size, Inv.eval_put_same hs0 _, box_new _ _ _⟩
            · obtain rfl := (Option.some.inj hop).symm
              have dr : L.getD 12 false = true := hall ⟨12, .data⟩ (by simp) rfl
              have dc : L.getD 17 false = true := hall ⟨17, .data⟩ (by simp) rfl
              have h8f := false_of h0
              obtain ⟨av, cv, er, hor⟩ := (hF.facts 12 (by decide) dr : L.getD 18 false = false → rowC _ _ _ _ _ _) h8f
              obtain ⟨b, ec, hoc⟩ := (hF.facts 17 (by decide) dc : L.getD 18 false = false → rowB _ _ _ _) h8f
              rw [er] at hor
              have hs0 : 86 < a.tmps.size := by have := hF.ag.size; omega
              have hbs := hb.size
              have hk : S2.sizes.length ≤ 40 := by have := (shpB_yes (boundE_zero HN.out.1).1).2.2.2.1; omega
              refine step_append_lies _ rfl (.tmp 80) (.tmp 85) 25 rfl w5.heap.size 3 i18 _ 1 8 Tryd.underlying25 hi18 hza18 hzb18 hzc18 rfl (by decide) (.slice av S2.sizes.length cv) S2.sizes.length _ er hor ⟨b, 0, none⟩ 1 1 [.int .i64 n] ec rfl (World.news_of_block hoc) (by simp [Value.oneCell']) (by decide) (by unfold maxLen; omega) (by omega) hbs _ rfl ?_
              intro g6 cap6 w6 hown6 hgrow6 hat6 hlt6
              have hl1 : (L.setIfInBounds 18 true).getD 18 false = true := by rw [Inv.listed_set h0]; simp
              refine ⟨hF.step (d := 86) h0 (by decide) (fun j hj hne hl hf => cvF_app2 hf hne h8f hl1 (fun _ => cv_put (i := 18) (by decide) h0 hj hne hf _) (set_less h0) hor hgrow6) ?_, hb.grown hgrow6 hbs (fun k e => owns_above hor k e)⟩
              show rowG _ _ _ _ _ (Act.eval _ (.tmp 86))
              rw [Inv.eval_put_same hs0]
              exact ⟨g6, cap6, rfl, hown6⟩
            · obtain rfl := (Option.some.inj hop).symm
              have d9 : L.getD 9 false = true := hall ⟨9, .data⟩ (by simp) rfl
              have d18 : L.getD 18 false = true := hall ⟨18, .data⟩ (by simp) rfl
              obtain ⟨l8, x9, e9, g9, c9, rfl, o9⟩ : L.getD 8 false = true ∧ ∃ x, a.eval (.tmp 77) = .agg #[.int .i64 m, x] ∧ rowG _ _ _ _ _ x := hF.facts 9 (by decide) d9
              obtain ⟨g18, c18, e18, o18⟩ : rowG _ _ _ _ _ _ := hF.facts 18 (by decide) d18
              rw [e18] at o18
              have y77 : a.tmps[77]?.getD undef = .agg #[.int .i64 m, .slice (some ⟨g9, 0, none⟩) (S2.edges.length + 1) c9] := by simpa [Act.eval] using e9
              have y86 : a.tmps[86]?.getD undef = .slice (some ⟨g18, 0, none⟩) (S2.sizes.length + 1) c18 := by simpa [Act.eval] using e18
              have hs0 : 87 < a.tmps.size := by have := hF.ag.size; omega
              have HO9 := Lib.hid (And.intro o9 o18)
              clear o9 o18 e9 e18
              go_simp
              refine cv_step (i := 19) (v := .agg #[.int .i64 m, .slice (some ⟨g9, 0, none⟩) (S2.edges.length + 1) c9, .slice (some ⟨g18, 0, none⟩) (S2.sizes.length + 1) c18]) hF (by decide) h0 (later_refl _) ?_
              exact ⟨⟨getD_set_true l8, getD_set_true d18⟩, _, _, Inv.eval_put_same hs0 _, ⟨g9, c9, rfl, HO9.out.1⟩, ⟨g18, c18, rfl, HO9.out.2⟩⟩
            · obtain rfl := (Option.some.inj hop).symm
              have hs0 : 10 < a.tmps.size := by have := hF.ag.size; omega
              have hsz0 := hb.size
              go_simp
              refine ⟨cv_step (i := 20) (v := .pointer (some ⟨w'.heap.size, 0, none⟩)) hF (by decide) h0 (later_alloc _ _) ?_, later_trans hb (later_alloc _ _)⟩
              exact fun _ => ⟨w'.heap.size, Inv.eval_put_same hs0 _, hsz0, box_new _ _ _⟩
            · obtain rfl := (Option.some.inj hop).symm
              have d19 : L.getD 19 false = true := hall ⟨19, .data⟩ (by simp) rfl
              have d20 : L.getD 20 false = true := hall ⟨20, .data⟩ (by simp) rfl
              obtain ⟨⟨l8, l18⟩, x9, y9, e9, ⟨g9, c9, rfl, o9⟩, ⟨g18, c18, rfl, o18⟩⟩ : (L.getD 8 false = true ∧ L.getD 18 false = true) ∧ ∃ x y, a.eval (.tmp 87) = .agg #[.int .i64 m, x, y] ∧ rowG _ _ _ _ _ x ∧ rowG _ _ _ _ _ y := hF.facts 19 (by decide) d19
              obtain ⟨X, e10, hBX, hX⟩ := (hF.facts 20 (by decide) d20 : L.getD 21 false = false → boxS _ _ _ _) (false_of h0)
              have y87 : a.tmps[87]?.getD undef = .agg #[.int .i64 m, .slice (some ⟨g9, 0, none⟩) (S2.edges.length + 1) c9, .slice (some ⟨g18, 0, none⟩) (S2.sizes.length + 1) c18] := by simpa [Act.eval] using e9
              have y10 : a.tmps[10]?.getD undef = .pointer (some ⟨X, 0, none⟩) := by simpa [Act.eval] using e10
              obtain ⟨k0, k1, k2, j0, j1, j2, kX⟩ := three_of hX
              have jX := fun i => box_frozen (i := i) hX
              have HO9 := Lib.hid (And.intro o9 (And.intro o18 hX))
              clear o9 o18 e9 hX
              go_simp
              refine ⟨cv_store hF h0 d20 l8 l18 e10 hBX HO9.out.2.2 ⟨g9, c9, rfl, HO9.out.1⟩ ⟨g18, c18, rfl, HO9.out.2.1⟩, ?_⟩
              exact below_set (below_set (below_set hb hBX) hBX) hBX
          · rintro L a w' ⟨hF, hb⟩ hall
            obtain ⟨-, x9, y9, ⟨X, e10, hBX, hX⟩, ⟨g9, c9, rfl, o9⟩, ⟨g18, c18, rfl, o18⟩⟩ : (L.getD 20 false = true ∧ L.getD 8 false = true ∧ L.getD 18 false = true) ∧ ∃ x y, boxS _ _ _ _ ∧ rowG _ _ _ _ _ x ∧ rowG _ _ _ _ _ y := hF.facts 21 (by decide) (hall 21 (by decide))
            obtain ⟨f, hact⟩ := hF.ag.block 10 68 20 (by decide) (by omega) (by decide)
            have e10' : a.tmps.getD 10 undef = .pointer (some ⟨X, 0, none⟩) := e10
            rw [← HA.out, e10'] at hact
            simp only [List.take_succ_cons, List.take_zero, List.drop_succ_cons, List.drop_zero, List.cons_append, List.nil_append, Nat.reduceSub, Nat.reduceAdd, show List.range 20 = [0, 1, 2, 3, 4, 5, 6, 7, 8, 9, 10, 11, 12, 13, 14, 15, 16, 17, 18, 19] from rfl, List.map_cons, List.map_nil] at hact
            have hsh : ShR w' (.slice (some ⟨g9, 0, none⟩) (S2.edges.length + 1) c9) (.slice (some ⟨g18, 0, none⟩) (S2.sizes.length + 1) c18) (plusS S2 n) := by
              have hL := (HL.out.later H5.out.1).own
              refine ⟨SlRK.app o9 (fun r hr => (HRv.out.2 r hr).later hb), ?_, hL.many⟩
              refine SlI.of_owns (xs := S2.sizes ++ [n]) (n := S2.sizes.length + 1) (base := w5.heap.size) (e := 3) ?_ (fun x hx => ?_)
              · rw [List.map_append]; exact o18
              · rcases List.mem_append.1 hx with hx | hx
                · exact hL.sizes.2 x hx
                · obtain rfl := List.mem_singleton.1 hx
                  exact WalkArith.wf_i64 (by omega)
            have HE := Lib.hid (And.intro hsh (And.intro hX hb))
            clear hF hall e10 e10' o9 o18 hsh hX hb HRv e7 e2 hsz
            subst hact
            clear HA
            go_wp2_with fail
            go_meet
            exact ⟨X, _, _, rfl, HE.out.2.1, HE.out.1, HE.out.2.2⟩
        case rest =>
          obtain ⟨T, evT, svT, rfl, hT, hShT, hb10⟩ := hcut
          have hL2 := HL.out.later (later_trans H5.out.1 hb10)
          have HL2 := Lib.hid hL2
          have HT := Lib.hid (And.intro hT (And.intro hShT (And.intro hb10 (kept hb10 H5.out.2))))
          have HMW : Hid (c2.ws.length = mw) := Lib.hid (by have := hL2.ws.open; obtain ⟨_, _, e, -⟩ := this; injection e with _ e _; omega)
          clear hT hShT hb10 hL2 c0 c1 c2' f0 f1 f2 lY d0 d1 g0 g1 lC
          go_upto_region 11 with fail
          go_cut [11] (fun s11 wx => ∃ (U : Nat) (wvU : Value), s11 = .pointer (some ⟨U, 0, none⟩) ∧ CB wx U wvU o ∧ SlI .i64 wx wvU (c2.ws ++ [0]) ∧ Below wc.heap.size wc wx)
          case first =>
            as_aux_lemma =>
            have hmw42 : mw ≤ 42 := by have h1 := (coversB_of (boundE_zero HN.out.1).2.1).1; have h2 := HMW.out; omega
            generalize hA : Act.mk _ _ = a0
            have e4 : a0.eval (.tmp 4) = .pointer (some ⟨w.heap.size + 1, 0, none⟩) := by rw [← hA]; rfl
            have hsz : 200 < a0.tmps.size := by rw [← hA]; exact Nat.le_of_ble_eq_true rfl
            have HA := Lib.hid hA
            clear hA
            obtain ⟨i18, hi18, hza18, hzb18, hzc18⟩ := info_parts info_int
            refine Inv.wp_region_inv (J := fun L a w' => Inv.Fa 10 a0 cgS (cvG wc.heap.size (w.heap.size + 1) (.slice a3 mw q3) o c2.ws) L a w' ∧ Below wc.heap.size wc w') (by kernel_rfl) (by kernel_rfl) ⟨Inv.Fa.start _, later_drew _⟩ ?_ ?_
            · rintro L a w' i op ⟨hF, hb⟩ h0 hop hall
              have hi : i < 10 := (Array.getElem?_eq_some_iff.1 hop).1
              refine Inv.wpOp_of hop ?_
              have hcase : i = 0 ∨ i = 1 ∨ i = 2 ∨ i = 3 ∨ i = 4 ∨ i = 5 ∨ i = 6 ∨ i = 7 ∨ i = 8 ∨ i = 9 := by omega
              rcases hcase with rfl | rfl | rfl | rfl | rfl | rfl | rfl | rfl | rfl | rfl
              · obtain rfl := (Option.some.inj hop).symm
                have y4 : a.tmps[4]?.getD undef = .pointer (some ⟨w.heap.size + 1, 0, none⟩) := by have h := (hF.ag.eval (s := 4) (by decide)).trans e4; simpa [Act.eval] using h
                have hs0 : 88 < a.tmps.size := by have := hF.ag.size; omega
                go_simp
                refine cg_step (i := 0) (v := .pointer (some ⟨w.heap.size + 1, 0, none⟩)) hF (by decide) h0 (later_refl _) ?_
                exact Inv.eval_put_same hs0 _
              · obtain rfl := (Option.some.inj hop).symm
                have d0 : L.getD 0 false = true := hall ⟨0, .data⟩ (by simp) rfl
                have y88 : a.tmps[88]?.getD undef = .pointer (some ⟨w.heap.size + 1, 0, none⟩) := by have h := hF.facts 0 (by decide) d0; simpa [cvG, Act.eval] using h
                obtain ⟨k0, k1, -, -, kC⟩ := two_of (kept hb HL2.out.bc)
                have hs0 : 89 < a.tmps.size := by have := hF.ag.size; omega
                go_simp
                refine cg_step (i := 1) (v := .slice a3 mw q3) hF (by decide) h0 (later_refl _) ?_
                exact Inv.eval_put_same hs0 _
              · obtain rfl := (Option.some.inj hop).symm
                have d1 : L.getD 1 false = true := hall ⟨1, .data⟩ (by simp) rfl
                have y89 : a.tmps[89]?.getD undef = .slice a3 mw q3 := by have h := hF.facts 1 (by decide) d1; simpa [cvG, Act.eval] using h
                have hs0 : 90 < a.tmps.size := by have := hF.ag.size; omega
                have hCl := cloneI_any _ c2.ws w' (HL2.out.ws.later hb) (by have := HMW.out; omega)
                rw [HMW.out] at hCl
                go_simp
                refine hCl.mono ?_
                rintro e w9 ⟨v9, rfl, ho9, hb9⟩
                have hbs := hb.size
                obtain ⟨a9, c9, rfl⟩ := owns_shape2 ho9
                refine ⟨cg_step (i := 2) (v := .slice a9 mw c9) hF (by decide) h0 hb9 ?_, later_trans hb hb9⟩
                exact fun _ => by
                  show rowC _ _ _ _ _ (Act.eval _ (.tmp 90))
                  rw [show Act.eval (a.put (some (cgD 2)) (.slice a9 mw c9)) (.tmp 90) = .slice a9 mw c9 from Inv.eval_put_same hs0 _]
                  exact ⟨a9, c9, by rw [HMW.out], by rw [HMW.out]; exact owns_down ho9 hbs⟩
              · obtain rfl := (Option.some.inj hop).symm
                have hs0 : 91 < a.tmps.size := by have := hF.ag.size; omega
                go_simp
                refine ⟨cg_step (i := 3) (v := .slice (some ⟨w'.heap.size, 0, none⟩) 1 1) hF (by decide) h0 (later_alloc _ _) ?_, later_trans hb (later_alloc _ _)⟩
                exact fun _ => ⟨w'.heap.size, Inv.eval_put_same hs0 _, box_new _ _ _⟩
              · obtain rfl := (Option.some.inj hop).symm
                have dr : L.getD 2 false = true := hall ⟨2, .data⟩ (by simp) rfl
                have dc : L.getD 3 false = true := hall ⟨3, .data⟩ (by simp) rfl
                have h8f := false_of h0
                obtain ⟨av, cv, er, hor⟩ := (hF.facts 2 (by decide) dr : L.getD 4 false = false → rowC _ _ _ _ _ _) h8f
                obtain ⟨b, ec, hoc⟩ := (hF.facts 3 (by decide) dc : L.getD 4 false = false → rowB _ _ _ _) h8f
                rw [er] at hor
                have hs0 : 92 < a.tmps.size := by have := hF.ag.size; omega
                have hbs := hb.size
                have hk : c2.ws.length ≤ 42 := by have := HMW.out; omega
                refine step_append_lies _ rfl (.tmp 90) (.tmp 91) 25 rfl wc.heap.size 3 i18 _ 1 8 Tryd.underlying25 hi18 hza18 hzb18 hzc18 rfl (by decide) (.slice av c2.ws.length cv) c2.ws.length _ er hor ⟨b, 0, none⟩ 1 1 [.int .i64 0] ec rfl (World.news_of_block hoc) (by simp [Value.oneCell']) (by decide) (by unfold maxLen; omega) (by omega) hbs _ rfl ?_
                intro g6 cap6 w6 hown6 hgrow6 hat6 hlt6
                have hl1 : (L.setIfInBounds 4 true).getD 4 false = true := by rw [Inv.listed_set h0]; simp
                refine ⟨hF.step (d := 92) h0 (by decide) (fun j hj hne hl hf => cvG_app hf hne h8f hl1 (fun _ => cg_put (i := 4) (by decide) h0 hj hne hf _) (set_less h0) hor hgrow6) ?_, hb.grown hgrow6 hbs (fun k e => owns_above hor k e)⟩
                show rowG _ _ _ _ _ (Act.eval _ (.tmp 92))
                rw [Inv.eval_put_same hs0]
                exact ⟨g6, cap6, rfl, hown6⟩
              · obtain rfl := (Option.some.inj hop).symm
                have y4 : a.tmps[4]?.getD undef = .pointer (some ⟨w.heap.size + 1, 0, none⟩) := by have h := (hF.ag.eval (s := 4) (by decide)).trans e4; simpa [Act.eval] using h
                have hs0 : 93 < a.tmps.size := by have := hF.ag.size; omega
                go_simp
                refine cg_step (i := 5) (v := .pointer (some ⟨w.heap.size + 1, 1, none⟩)) hF (by decide) h0 (later_refl _) ?_
                exact Inv.eval_put_same hs0 _
              · obtain rfl := (Option.some.inj hop).symm
                have d5 : L.getD 5 false = true := hall ⟨5, .data⟩ (by simp) rfl
                have y93 : a.tmps[93]?.getD undef = .pointer (some ⟨w.heap.size + 1, 1, none⟩) := by have h := hF.facts 5 (by decide) d5; simpa [cvG, Act.eval] using h
                obtain ⟨k0, k1, -, -, kC⟩ := two_of (kept hb HL2.out.bc)
                rw [HN.out.2.2.2.2] at k1
                have hs0 : 94 < a.tmps.size := by have := hF.ag.size; omega
                go_simp
                refine cg_step (i := 6) (v := .int .i64 o) hF (by decide) h0 (later_refl _) ?_
                exact Inv.eval_put_same hs0 _
              · obtain rfl := (Option.some.inj hop).symm
                have d4 : L.getD 4 false = true := hall ⟨4, .data⟩ (by simp) rfl
                have d6 : L.getD 6 false = true := hall ⟨6, .data⟩ (by simp) rfl
                have y94 : a.tmps[94]?.getD undef = .int .i64 o := by have h := hF.facts 6 (by decide) d6; simpa [cvG, Act.eval] using h
                obtain ⟨g8, c8, e8, o8⟩ : rowG _ _ _ _ _ _ := hF.facts 4 (by decide) d4
                have y92 : a.tmps[92]?.getD undef = .slice (some ⟨g8, 0, none⟩) (c2.ws.length + 1) c8 := by simpa [Act.eval] using e8
                rw [e8] at o8
                have hs0 : 95 < a.tmps.size := by have := hF.ag.size; omega
                have HO8 := Lib.hid o8
                clear o8 e8
                go_simp
                refine cg_step (i := 7) (v := .agg #[.slice (some ⟨g8, 0, none⟩) (c2.ws.length + 1) c8, .int .i64 o]) hF (by decide) h0 (later_refl _) ?_
                exact ⟨getD_set_true d4, _, Inv.eval_put_same hs0 _, g8, c8, rfl, HO8.out⟩
              · obtain rfl := (Option.some.inj hop).symm
                have hs0 : 11 < a.tmps.size := by have := hF.ag.size; omega
                have hsz0 := hb.size
                go_simp
                refine ⟨cg_step (i := 8) (v := .pointer (some ⟨w'.heap.size, 0, none⟩)) hF (by decide) h0 (later_alloc _ _) ?_, later_trans hb (later_alloc _ _)⟩
                exact fun _ => ⟨w'.heap.size, Inv.eval_put_same hs0 _, hsz0, box_new _ _ _⟩
              · obtain rfl := (Option.some.inj hop).symm
                have d7 : L.getD 7 false = true := hall ⟨7, .data⟩ (by simp) rfl
                have d8 : L.getD 8 false = true := hall ⟨8, .data⟩ (by simp) rfl
                obtain ⟨l4, x9, e9, g9, c9, rfl, o9⟩ : L.getD 4 false = true ∧ ∃ x, a.eval (.tmp 95) = .agg #[x, .int .i64 o] ∧ rowG _ _ _ _ _ x := hF.facts 7 (by decide) d7
                obtain ⟨X, e10, hBX, hX⟩ := (hF.facts 8 (by decide) d8 : L.getD 9 false = false → boxC _ _ _ _) (false_of h0)
                have y95 : a.tmps[95]?.getD undef = .agg #[.slice (some ⟨g9, 0, none⟩) (c2.ws.length + 1) c9, .int .i64 o] := by simpa [Act.eval] using e9
                have y11 : a.tmps[11]?.getD undef = .pointer (some ⟨X, 0, none⟩) := by simpa [Act.eval] using e10
                obtain ⟨k0, k1, j0, j1, kX⟩ := two_of hX
                have jX := fun i => box_frozen (i := i) hX
                have HO9 := Lib.hid (And.intro o9 hX)
                clear o9 e9 hX
                go_simp
                refine ⟨cg_store hF h0 d8 l4 e10 hBX HO9.out.2 ⟨g9, c9, rfl, HO9.out.1⟩, ?_⟩
                exact below_set (below_set hb hBX) hBX
            · rintro L a w' ⟨hF, hb⟩ hall
              obtain ⟨-, x9, ⟨X, e10, hBX, hX⟩, ⟨g9, c9, rfl, o9⟩⟩ : (L.getD 8 false = true ∧ L.getD 4 false = true) ∧ ∃ x, boxC _ _ _ _ ∧ rowG _ _ _ _ _ x := hF.facts 9 (by decide) (hall 9 (by decide))
              obtain ⟨f, hact⟩ := hF.ag.block 11 88 8 (by decide) (by omega) (by decide)
              have e10' : a.tmps.getD 11 undef = .pointer (some ⟨X, 0, none⟩) := e10
              rw [← HA.out, e10'] at hact
              simp only [List.take_succ_cons, List.take_zero, List.drop_succ_cons, List.drop_zero, List.cons_append, List.nil_append, Nat.reduceSub, Nat.reduceAdd, show List.range 8 = [0, 1, 2, 3, 4, 5, 6, 7] from rfl, List.map_cons, List.map_nil] at hact
              have hws : SlI .i64 w' (.slice (some ⟨g9, 0, none⟩) (c2.ws.length + 1) c9) (c2.ws ++ [0]) := by
                refine SlI.of_owns (xs := c2.ws ++ [0]) (n := c2.ws.length + 1) (base := wc.heap.size) (e := 3) ?_ (fun x hx => ?_)
                · rw [List.map_append]; exact o9
                · rcases List.mem_append.1 hx with hx | hx
                  · exact HL2.out.ws.2 x hx
                  · obtain rfl := List.mem_singleton.1 hx
                    decide
              have HE := Lib.hid (And.intro hws (And.intro hX hb))
              clear hF hall e10 e10' o9 hws hX hb e4 hsz
              subst hact
              clear HA
              go_wp2_with fail
              go_meet
              exact ⟨X, _, rfl, HE.out.2.1, HE.out.1, HE.out.2.2⟩
          case rest =>
            obtain ⟨U, wvU, rfl, hU, hwU, hb11⟩ := hcut
            have hL3 := HL2.out.later hb11
            have hPl := cv_plus HN.out.1 h39 hn0.1 (show n ≤ 1048576 by omega)
            have hBd := Bound_any (plusS S2 n) (plusC c2) evT svT wvU wc (HT.out.2.1.later hb11) hwU (H.out.2.2.later hL3.bel)
            have hV2 : boundV (plusS S2 n) (plusC c2) = .tuple #[.agg #[.int .u64 bh, .int .u64 bl], .int .i64 0] := by
              unfold boundV; rw [hPl.2, hPl.1, HN.out.2.1, HN.out.2.2.2.1]
            rw [hV2, show (plusS S2 n).many = m from HM.out.1, show (plusC c2).of = o from HN.out.2.2.2.2] at hBd
            have hTk := kept hb11 HT.out.1
            have h8k := kept hb11 HT.out.2.2.2
            have hSh2 := HT.out.2.1
            obtain ⟨p3, r3, rfl, -⟩ := hSh2.edges.open
            obtain ⟨p4, r4, rfl, -⟩ := hSh2.sizes.open
            obtain ⟨p5, r5, rfl, -⟩ := hwU.open
            obtain ⟨kE, hkE⟩ : ∃ kE, (plusS S2 n).edges.length = kE := ⟨_, rfl⟩
            obtain ⟨kS, hkS⟩ : ∃ kE, (plusS S2 n).sizes.length = kE := ⟨_, rfl⟩
            obtain ⟨kW, hkW⟩ : ∃ kE, (c2.ws ++ [0]).length = kE := ⟨_, rfl⟩
            rw [hkE, hkS, hkW] at hBd
            rw [hkE, hkS] at hTk
            rw [hkW] at hU
            obtain ⟨c0, c1, c2', f0, f1, f2, lT⟩ := three_of hTk
            obtain ⟨d0, d1, g0, g1, lU⟩ := two_of hU
            have HBd := Lib.hid (And.intro hBd (And.intro h8k hL3))
            clear hBd hSh2 hkE hkS hkW hwU hPl hV2 hTk h8k hL3
            go_wp2_with fail
            refine HBd.out.1.mono ?_
            rintro e w6 ⟨rfl, hb6⟩
            have hb6' := later_trans hb6 (later_alloc w6 (.cells #[.int .u64 bh, .int .u64 bl] 35))
            have H6 := Lib.hid (And.intro (HBd.out.2.2.later hb6') (kept hb6' HBd.out.2.1))
            obtain ⟨c0, c1, -, -, lA⟩ := two_of (box_new w6 #[.int .u64 bh, .int .u64 bl] 35)
            obtain ⟨d0, d1, -, -, lB⟩ := two_of H6.out.2
            have hne := neq_wide
            have hgn := guardn_wide
            clear hb6 hb6' hU
            obtain ⟨v0, v1, -, -, lC⟩ := two_of H6.out.1.bc
            rw [HN.out.2.2.2.2] at v1
            go_upto_if 112 with fail
            obtain ⟨W6, hW6⟩ : ∃ W, w6.alloc (.cells #[.int .u64 bh, .int .u64 bl] 35) = W := ⟨_, rfl⟩
            rw [hW6] at H6
            rw [hW6] at v0 v1 lC
            try rw [hW6]
            clear hW6 c0 c1 lA d0 d1 lB
            go_cut [] (fun wx => Below W6.heap.size W6 wx)
            case first =>
              -- [F
              by_cases hm0 : mw = 0
              · have hb0 : decide ((0 : Int) < (mw : Int)) = false := decide_eq_false (by omega)
                have hb0' : decide (0 < mw) = false := decide_eq_false (by omega)
                rw [hb0']
                clear hm0
                go_wp2_with fail
                go_meet
                exact later_refl _
              · have hb1 : decide ((0 : Int) < (mw : Int)) = true := decide_eq_true (by omega)
                have hmp : 0 < mw := by omega
                have hmw42 : mw ≤ 42 := by have h1 := (coversB_of (boundE_zero HN.out.1).2.1).1; have h2 := HMW.out; omega
                have hwm : IntKind.u64.wrap (mw : Int) = mw := by unfold IntKind.wrap; simp [IntKind.signed, IntKind.bits]; omega
                have hw0 : 0 ≤ IntKind.u64.wrap more := by unfold IntKind.wrap; simp [IntKind.signed, IntKind.bits]; omega
                obtain ⟨k, hk⟩ : ∃ k : Nat, (IntKind.u64.wrap more).tmod (mw : Int) = k := ⟨((IntKind.u64.wrap more).tmod (mw : Int)).toNat, by rw [Int.tmod_eq_emod_of_nonneg hw0]; have := Int.emod_nonneg (IntKind.u64.wrap more) (b := (mw : Int)) (by omega); omega⟩
                have hkm : k < mw := by rw [Int.tmod_eq_emod_of_nonneg hw0] at hk; have := Int.emod_lt_of_pos (IntKind.u64.wrap more) (b := (mw : Int)) (by omega); omega
                have hwk : IntKind.i64.wrap (k : Int) = k := wrap_i64 (by omega) (by omega)
                have hmz : ((mw : Int) == 0) = false := by rw [beq_eq_false_iff_ne]; omega
                have hb1' : decide (0 < mw) = true := decide_eq_true (by omega)
                rw [hb1']
                have hmI : ¬ (mw : Int) = 0 := by omega
                have HKm := Lib.hid hkm
                clear hw0
                go_upto_region 17 with fail
                clear hk hwm hmI hm0 hmz
                go_cut [15] (fun s15 wx => ∃ V g cap : Nat, s15 = .pointer (some ⟨V, 0, none⟩) ∧ CB wx V (.slice (some ⟨g, 0, none⟩) mw cap) o ∧ wx.ownsRow W6.heap.size 3 1 (.slice (some ⟨g, 0, none⟩) mw cap) mw (c2.ws.map (.int .i64)) ∧ W6.heap.size ≤ V ∧ W6.heap.size ≤ g ∧ Below W6.heap.size W6 wx)
                case first =>
                  -- [G
                  as_aux_lemma =>
                  have HCl : Hid (∀ W, Below W6.heap.size W6 W → Calls Tryd.prog 11 #[.slice a3 mw q3] W fun e w' => ∃ v', e = .returned v' ∧ w'.ownsRow W.heap.size 3 1 v' mw (c2.ws.map (.int .i64)) ∧ Below W.heap.size W w') := Lib.hid (fun W hb => by
                    have := cloneI_any _ c2.ws W ((H6.out.1.later hb).ws) (by have := HMW.out; omega)
                    rw [HMW.out] at this
                    exact this)
                  have HKeep : Hid (∀ W, Below W6.heap.size W6 W → W.cell? ⟨w.heap.size + 1, 0, none⟩ = some (.slice a3 mw q3) ∧ W.cell? ⟨w.heap.size + 1, 1, none⟩ = some (.int .i64 o)) := Lib.hid (fun W hb => ⟨cell_next hb v0, cell_next hb v1⟩)
                  clear v0 v1
                  go_region_held3 (fun W => W.cell? ⟨w.heap.size + 1, 0, none⟩ = some (.slice a3 mw q3) ∧ W.cell? ⟨w.heap.size + 1, 1, none⟩ = some (.int .i64 o))
                    (first | exact HKeep.out _ (later_refl _) | exact HKeep.out _ (later_drew _) | exact HKeep.out _ (later_trans (later_drew _) (later_alloc _ _)) | exact HKeep.out _ (later_trans (later_alloc _ _) (later_drew _)) | exact HKeep.out _ (later_alloc _ _) | exact HKeep.out _ hbC | exact HKeep.out _ (later_trans hbC (later_alloc _ _)) | exact HKeep.out _ (below_set (below_set hbC (Nat.le_refl _)) (Nat.le_refl _)) | exact HKeep.out _ (below_set (below_set (later_trans hbC (later_alloc _ _)) hbC.size) hbC.size) | assumption)
                    (first
                      | (go_at_call 11; refine (HCl.out _ (later_drew _)).mono ?_; rintro e w9 ⟨v9, rfl, ho9, hb9⟩; have hbC : Below W6.heap.size W6 w9 := (later_trans (later_drew _) hb9); obtain ⟨g9, c9, rfl, hg9⟩ := owns_some ho9 hmp)
                      | (go_at_call 11; refine (HCl.out _ (later_trans (later_alloc _ _) (later_drew _))).mono ?_; rintro e w9 ⟨v9, rfl, ho9, hb9⟩; have hbC : Below W6.heap.size W6 w9 := (later_trans (later_trans (later_alloc _ _) (later_drew _)) hb9); have mO := new_keptD hb9; obtain ⟨n0, n1, f0, f1, ln⟩ := two_of mO; obtain ⟨g9, c9, rfl, hg9⟩ := owns_some ho9 hmp)
                      | (go_at_call 11; refine (HCl.out _ (later_trans (later_drew _) (later_alloc _ _))).mono ?_; rintro e w9 ⟨v9, rfl, ho9, hb9⟩; have hbC : Below W6.heap.size W6 w9 := (later_trans (later_trans (later_drew _) (later_alloc _ _)) hb9); have mO := new_kept hb9; obtain ⟨n0, n1, f0, f1, ln⟩ := two_of mO; obtain ⟨g9, c9, rfl, hg9⟩ := owns_some ho9 hmp))
                  all_goals (go_wp2_with fail)
                  all_goals go_meet
                  all_goals first
                    | exact ⟨w9.heap.size, g9, c9, rfl, box_new _ _ _, owns_later (owns_down ho9 (Nat.le_refl _)) (later_alloc _ _), hbC.size, hg9, later_trans hbC (later_alloc _ _)⟩
                    | (refine ⟨W6.heap.size, g9, c9, rfl, ?_, own_set (own_set (owns_down ho9 (by simp)) mO (by decide) _) (box_set mO _) (by decide) _, Nat.le_refl _, Nat.le_trans (by simp) hg9, below_set (below_set hbC (Nat.le_refl _)) (Nat.le_refl _)⟩; have hn := box_set (i := 1) (box_set (i := 0) mO (.slice (some ⟨g9, 0, none⟩) mw c9)) (.int .i64 o); simpa [CB] using hn)
                  -- G]
                case rest =>
                  obtain ⟨V, g, cap, rfl, hV, ho, hBV, hBg, hb17⟩ := hcut
                  obtain ⟨wk, hwk1⟩ : ∃ wk, c2.ws.getD k 0 = wk := ⟨_, rfl⟩
                  have hkl : k < c2.ws.length := by have := HMW.out; omega
                  have hwb := (coversB_of (boundE_zero HN.out.1).2.1).2.2.2 k hkl
                  rw [hwk1] at hwb
                  have hgk : (c2.ws.map (Value.int .i64))[k]? = some (.int .i64 wk) := by rw [← hwk1, getD_at hkl]; simp [hkl]
                  obtain ⟨cg, fg⟩ := owns_cell ho hgk
                  have hVg : V ≠ g := fun e => own_ne ho hV (by decide) (by rw [e]; rfl)
                  obtain ⟨nk, hnk⟩ : ∃ nk, min (wk + 1) 16 = nk := ⟨_, rfl⟩
                  have hmin2 : Value.int .i64 (if (16 : Int) < wk + 1 then (16 : Int) else wk + 1) = .int .i64 nk := by rw [show (if (16 : Int) < wk + 1 then (16 : Int) else wk + 1) = nk from by split <;> omega]
                  clear hmin2
                  have hwk2 : IntKind.i64.wrap (wk + 1) = wk + 1 := wrap_i64 (by omega) (by omega)
                  have hnk16 : 0 ≤ nk ∧ nk ≤ 16 := by omega
                  have HNK := Lib.hid hnk
                  have hMore : (c2.ws.map (Value.int .i64)).set k (.int .i64 nk) = (moreC c2 k).ws.map (Value.int .i64) := by
                    show _ = (c2.ws.set k (min (c2.ws.getD k 0 + 1) 16)).map _
                    rw [hwk1, hnk, List.map_set]
                  obtain ⟨v0, v1, -, -, lV⟩ := two_of hV
                  have hkmI : (k : Int) < mw := by omega
                  have HV := Lib.hid (And.intro hV (And.intro ho (And.intro hBg (And.intro hb17 (And.intro hMore (And.intro hVg hnk16))))))
                  clear hV ho hBV hBg hb17 hMore hVg hwk1 hnk hgk hwb hnk16 hkl
                  go_upto_region 18 with fail
                  go_cut [] (fun wx => ∃ wvV : Value, CB wx V wvV o ∧ SlI .i64 wx wvV (moreC c2 k).ws ∧ Below W6.heap.size W6 wx)
                  case first =>
                    -- [H
                    as_aux_lemma =>
                    have HF : Hid (∀ y : Int, y = nk → ∃ wvV : Value, CB (wc.setCell ⟨g, k, none⟩ (.int .i64 y)).drew V wvV o ∧ SlI .i64 (wc.setCell ⟨g, k, none⟩ (.int .i64 y)).drew wvV (moreC c2 k).ws ∧ Below W6.heap.size W6 (wc.setCell ⟨g, k, none⟩ (.int .i64 y)).drew) := Lib.hid (by
                      rintro y rfl
                      refine ⟨_, kept (later_drew _) (box_other HV.out.1 HV.out.2.2.2.2.2.1 _), SlI.of_owns (n := mw) (base := W6.heap.size) (e := 3) (v := .slice (some ⟨g, 0, none⟩) mw cap) ?_ (fun x hx => ?_), later_trans (below_set HV.out.2.2.2.1 HV.out.2.2.1) (later_drew _)⟩
                      · have := owns_later (owns_set (j := k) HV.out.2.1 (.int .i64 y)) (later_drew _)
                        rw [HV.out.2.2.2.2.1] at this
                        exact this
                      · have hx2 : x ∈ c2.ws.set k (min (c2.ws.getD k 0 + 1) 16) := hx
                        rcases List.mem_or_eq_of_mem_set hx2 with h2 | h2
                        · exact H6.out.1.ws.2 x h2
                        · have h3 := HKm.out
                          have h4 := HMW.out
                          have h5 := (coversB_of (boundE_zero HN.out.1).2.1).2.2.2 k (by omega)
                          exact WalkArith.wf_i64 (by omega))
                    go_region
                    go_wp2_with fail
                    all_goals go_meet
                    all_goals exact HF.out _ (by have := HNK.out; omega)
                    -- H]
                  case rest =>
                    -- [I
                    as_aux_lemma =>
                    obtain ⟨wvV, hV, hwV, hb18⟩ := hcut
                    have hL4 := H6.out.1.later hb18
                    have h8k := kept hb18 H6.out.2
                    obtain ⟨hcM1, hcM2⟩ := cv_more HN.out.1 (show k < c2.ws.length by have h1 := HKm.out; have h2 := HMW.out; omega)
                    have hBd := Bound_any S2 (moreC c2 k) _ _ wvV wc hL4.own hwV (H.out.2.2.later hL4.bel)
                    have hCd := fun W hb => Covers_any S2 (moreC c2 k) _ _ wvV W (hL4.later hb).own (SlI.later hwV hb)
                    rw [hcM1, show shpB S2 = true from (boundE_zero HN.out.1).1] at hCd
                    rw [show (moreC c2 k).of = o from HN.out.2.2.2.2, HM.out.1] at hBd hCd
                    obtain ⟨p5, r5, rfl, -⟩ := hwV.open
                    obtain ⟨kW, hkW⟩ : ∃ kE, (moreC c2 k).ws.length = kE := ⟨_, rfl⟩
                    rw [hkW] at hBd hCd hV
                    obtain ⟨c0, c1, c2', f0, f1, f2, lY⟩ := three_of hL4.b5
                    obtain ⟨d0, d1, -, -, lU⟩ := two_of hV
                    have HBd := Lib.hid (And.intro hBd (And.intro hCd (And.intro hV (And.intro h8k (And.intro hL4 hb18)))))
                    clear hBd hCd hV h8k hL4 hb18 hwV hkW cg fg v0 v1 lV
                    obtain ⟨N', hN'⟩ : ∃ N', boundN S2 (moreC c2 k) = N' := ⟨_, rfl⟩
                    rcases hcM2 with ⟨hE, hle⟩ | hE
                    · have hlt := (boundN_lt hE).2.1
                      rw [hN'] at hlt
                      rw [hN', HN.out.2.1] at hle
                      obtain ⟨nh, nl, hnw, -⟩ := wv_open N' hlt
                      have hV2 : boundV S2 (moreC c2 k) = .tuple #[.agg #[.int .u64 nh, .int .u64 nl], .int .i64 0] := by
                        unfold boundV; rw [hN', hE, hnw]
                      have hB2 := HBd.out.1
                      rw [hV2] at hB2
                      obtain ⟨z, hz⟩ : ∃ z, cmpI (N' : Int) (bN : Int) = z := ⟨_, rfl⟩
                      have hC := fun W => Compare_any N' bN hlt HN.out.2.2.1 W
                      rw [hnw, HN.out.2.2.2.1, hz] at hC
                      have hz0 : decide (z < 0) = false := by
                        refine decide_eq_false ?_
                        rw [← hz]
                        rcases Nat.lt_or_ge bN N' with h1 | h1
                        · rw [cmpI_gt (by omega)]; decide
                        · rw [cmpI_eq (by omega)]; decide
                      have HC := Lib.hid (And.intro hB2 hC)
                      clear hC hz hB2 hV2 hlt hle hE hN' hnw
                      go_wp2_with fail
                      refine HC.out.1.mono ?_
                      rintro e w7 ⟨rfl, hb7⟩
                      have hb7' := later_trans hb7 (later_alloc w7 (.cells #[.int .u64 nh, .int .u64 nl] 35))
                      have H7 := Lib.hid (And.intro hb7' (box_new w7 #[.int .u64 nh, .int .u64 nl] 35))
                      obtain ⟨c0, c1, c2', f0, f1, f2, lY⟩ := three_of (kept hb7 HBd.out.2.2.2.2.1.b5)
                      obtain ⟨d0, d1, -, -, lU⟩ := two_of (kept hb7 HBd.out.2.2.1)
                      clear hb7 hb7'
                      go_wp2_with fail
                      refine (HBd.out.2.1 _ H7.out.1).mono ?_
                      rintro e w8 ⟨rfl, hb8⟩
                      have h78 := later_trans H7.out.1 hb8
                      obtain ⟨n0, n1, -, -, ln⟩ := two_of (kept hb8 H7.out.2)
                      obtain ⟨m0, m1, -, -, lm⟩ := two_of (kept h78 HBd.out.2.2.2.1)
                      have H8 := Lib.hid h78
                      clear hb8 h78 c0 c1 c2' f0 f1 f2 lY d0 d1 lU
                      go_wp2_with fail
                      refine (HC.out.2 _).mono ?_
                      rintro e w9 ⟨rfl, hb9⟩
                      have H9 := Lib.hid (later_trans HBd.out.2.2.2.2.2 (later_trans H8.out hb9))
                      clear hb9
                      go_wp2_with fail
                      go_meet
                      exact H9.out
                    · have hV2 : boundV S2 (moreC c2 k) = .tuple #[.agg #[.int .u64 0, .int .u64 0], .int .i64 110] := by
                        unfold boundV
                        rw [(bound_err (by rw [hE]; decide)).1, hE]; rfl
                      have hB2 := HBd.out.1
                      rw [hV2] at hB2
                      have HC := Lib.hid hB2
                      clear hB2 hV2 hE hN'
                      go_wp2_with fail
                      refine HC.out.mono ?_
                      rintro e w7 ⟨rfl, hb7⟩
                      have hb7' := later_trans hb7 (later_alloc w7 (.cells #[.int .u64 0, .int .u64 0] 35))
                      have H7 := Lib.hid hb7'
                      obtain ⟨c0, c1, c2', f0, f1, f2, lY⟩ := three_of (kept hb7 HBd.out.2.2.2.2.1.b5)
                      obtain ⟨d0, d1, -, -, lU⟩ := two_of (kept hb7 HBd.out.2.2.1)
                      clear hb7 hb7'
                      go_wp2_with fail
                      refine (HBd.out.2.1 _ H7.out).mono ?_
                      rintro e w8 ⟨rfl, hb8⟩
                      have H9 := Lib.hid (later_trans HBd.out.2.2.2.2.2 (later_trans H7.out hb8))
                      clear hb8 c0 c1 c2' f0 f1 f2 lY d0 d1 lU
                      go_wp2_with fail
                      go_meet
                      exact H9.out
                    -- I]
              -- F]
            case rest =>
              have hL5 := H6.out.1.later hcut
              have h8k := kept hcut H6.out.2
              obtain ⟨qq1, qq2, qq3, qq4⟩ := coversB_of (boundE_zero HN.out.1).2.1
              rw [HN.out.2.2.2.2] at qq2 qq3
              obtain ⟨o2, ho2⟩ : ∃ o2, 2 * o = o2 := ⟨_, rfl⟩
              have hwo : IntKind.i64.wrap (2 * o) = o2 := by rw [wrap_i64 (by omega) (by omega)]; exact ho2
              obtain ⟨d0, d1, -, -, lC⟩ := two_of hL5.bc
              rw [HN.out.2.2.2.2] at d1
              have HH := Lib.hid (And.intro hL5 (And.intro h8k (And.intro ho2 qq4)))
              have hmw42 : mw ≤ 42 := by have h2 := HMW.out; omega
              clear hL5 h8k qq1 qq4 v0 v1 ho2
              go_upto_region 23 with fail
              obtain ⟨W7, hW7⟩ : ∃ W, wc.alloc (.cells #[.slice none 0 0, .int .i64 o2] 29) = W := ⟨_, rfl⟩
              have hb7 : Below wc.heap.size wc W7 := by rw [← hW7]; exact later_alloc _ _
              have hM : CB W7 wc.heap.size (.slice none 0 0) o2 := by rw [← hW7]; exact box_new _ _ _
              try rw [hW7]
              obtain ⟨M, hMd⟩ : ∃ M, wc.heap.size = M := ⟨_, rfl⟩
              rw [hMd] at hM ⊢
              have HM7 := Lib.hid (And.intro hb7 (And.intro hM hMd))
              have HH8 : Hid (∀ W, Below wc.heap.size wc W → W.heap[w4.heap.size]? = some (.cells #[.int .u64 bh, .int .u64 bl] 35 (0, 0))) := Lib.hid (fun W hb => kept hb HH.out.2.1)
              have hL7 := HH.out.1.later hb7
              obtain ⟨d0, d1, -, -, lC⟩ := two_of hL7.bc
              rw [HN.out.2.2.2.2] at d1
              clear hb7 hM hL7 hW7 hMd
              go_wp2_with fail
              go_loopw [173] (fun i wr => ∃ k : Nat, k ≤ mw ∧ i = .int .i64 k ∧ TwW wc M o2 c2.ws k wr) (fun i _ => mw - (intOf i).toNat)
              case atStart => exact ⟨0, Nat.zero_le _, rfl, HM7.out.1, _, HM7.out.2.1, World.ownsRow_nil _ _ _ _⟩
              case round =>
                obtain ⟨k, hk, rfl, hT⟩ := hrel
                obtain ⟨v, hvB, hvO⟩ := hT.box
                have hL := HH.out.1.later hT.bel
                obtain ⟨av, cv, rfl⟩ := owns_shape2 hvO
                by_cases hlt : k < mw
                · -- [J
                  as_aux_lemma =>
                  have hkw : k < c2.ws.length := by have := HMW.out; omega
                  obtain ⟨_, _, g1, _, _, _, g4⟩ := hL.ws.open
                  obtain ⟨bw, ow, g2, hbw, gc⟩ := g4 (by omega)
                  injection g1 with g1a g1b g1c
                  subst g1a
                  subst g2
                  have cw1 : wr.cell? ⟨bw, ow + k, none⟩ = some (.int .i64 c2.ws[k]) := gc k hkw
                  rw [← getD_at hkw] at cw1
                  obtain ⟨x, hx⟩ : ∃ x, c2.ws.getD k 0 = x := ⟨_, rfl⟩
                  have hx16 := HH.out.2.2.2 k hkw
                  rw [hx] at cw1 hx16
                  have hwx : IntKind.i64.wrap (2 * x) = 2 * x := wrap_i64 (by omega) (by omega)
                  have hltI : (k : Int) < mw := by omega
                  obtain ⟨t0, t1, f0, f1, lM⟩ := two_of hvB
                  obtain ⟨i0, hi, hz0, hz1, hz2⟩ := info_parts info_int
                  have hMs := HM7.out.2.2
                  have HT := Lib.hid (And.intro hT (And.intro hvB (And.intro hkw hx)))
                  clear hT gc g4 hx hL hkw g1b g1c
                  go_wp2_with (at_builtin; refine wpList_append_own _ rfl (.tmp 178) (.tmp 181) 25 rfl (M + 1) 3 i0 _ 1 8 Tryd.underlying25 hi hz0 hz1 hz2 rfl (by decide) _ _ _ rfl (hvO.alloc _) ⟨wr.heap.size, 0, none⟩ 1 1 [.int .i64 (2 * x)] rfl rfl (cells_new _ _ _) (by simp [Value.oneCell']) (by unfold maxLen; omega) (by omega) (by simp; omega) ?_; intro v6 w9 hown6 hgrow6 _; obtain ⟨g6, cap6, rfl⟩ := ownsRow_succ hown6; have hT6 := box_grown (hvO.alloc _) hgrow6 (box_alloc HT.out.2.1 _) (by decide); obtain ⟨t0, t1, f0, f1, lM⟩ := two_of hT6)
                  go_roundw
                  case rel =>
                    refine ⟨k + 1, by omega, by go_num, ?_⟩
                    exact HT.out.1.next (by omega) HT.out.2.1 hvO HT.out.2.2.1 HT.out.2.2.2 hown6 hgrow6
                  case measure => simp [intOf]; omega
                  -- J]
                · obtain rfl : k = mw := by omega
                  have hrow : ((c2.ws.take k).map (2 * ·)) = (twiceC c2).ws := by
                    show _ = c2.ws.map (2 * ·)
                    rw [List.take_of_length_le (by have := HMW.out; omega)]
                  rw [hrow] at hvO
                  have hlt0 : ((k : Int) < k) = False := by simp
                  have htl : (twiceC c2).ws.length = k := by show (c2.ws.map (2 * ·)).length = k; rw [List.length_map]; exact HMW.out
                  have hwf : ∀ x ∈ (twiceC c2).ws, (Lit.int .i64 x).wf = true := by
                    intro x hx
                    obtain ⟨y, hy, rfl⟩ := List.mem_map.1 hx
                    obtain ⟨j, hj, rfl⟩ := List.getElem_of_mem hy
                    have := HH.out.2.2.2 j hj
                    rw [getD_at hj] at this
                    exact WalkArith.wf_i64 (by omega)
                  have hwT : SlI .i64 wr (.slice av k cv) (twiceC c2).ws := SlI.of_owns hvO hwf
                  have hoT : (twiceC c2).of = o2 := by show 2 * c2.of = o2; rw [HN.out.2.2.2.2]; exact HH.out.2.2.1
                  have hCd := Covers_any S2 (twiceC c2) _ _ _ wr hL.own hwT
                  obtain ⟨u1, u2⟩ := cv_twice HN.out.1
                  rw [hoT, HM.out.1, show shpB S2 = true from (boundE_zero HN.out.1).1, Bool.true_and] at hCd
                  obtain ⟨c0, c1, c2', f0, f1, f2, lY⟩ := three_of hL.b5
                  obtain ⟨t0, t1, g0, g1, lM⟩ := two_of hvB
                  have HT := Lib.hid (And.intro hT (And.intro hvB (And.intro hvO (And.intro hwT (And.intro hoT (And.intro htl hwf))))))
                  have hB3 := fun W hb => Bound_any S2 (twiceC c2) _ _ _ W (hL.later hb).own (SlI.later hwT hb) (H.out.2.2.later (hL.later hb).bel)
                  rw [hoT, HM.out.1] at hB3
                  have hbN3 := HH8.out wr hT.bel
                  clear hT hL hvB hvO hwT hoT hrow htl hwf
                  by_cases hq : coversB S2 (twiceC c2) = true
                  · -- [K
                    as_aux_lemma =>
                    rw [hq] at hCd
                    have HC := Lib.hid (And.intro hCd (And.intro (u2 hq) (And.intro hB3 hbN3)))
                    clear hCd u1 u2 hq hB3 hbN3
                    go_wp2_with fail
                    refine HC.out.1.mono ?_
                    rintro e w8 ⟨rfl, hb8⟩
                    have H8 := Lib.hid hb8
                    obtain ⟨c0, c1, c2', f0, f1, f2, lY⟩ := three_of (kept hb8 (HH.out.1.later HT.out.1.bel).b5)
                    obtain ⟨t0, t1, g0, g1, lM⟩ := two_of (kept hb8 HT.out.2.1)
                    clear hb8
                    have hB4 := HC.out.2.2.1 _ H8.out
                    rcases HC.out.2.1 with ⟨hE, hN⟩ | hE
                    · rw [show boundV S2 (twiceC c2) = .tuple #[.agg #[.int .u64 bh, .int .u64 bl], .int .i64 0] from by unfold boundV; rw [hN, hE, HN.out.2.1, HN.out.2.2.2.1]] at hB4
                      have HB4 := Lib.hid hB4
                      clear hB4 hE hN
                      go_wp2_with fail
                      refine HB4.out.mono ?_
                      rintro e w9 ⟨rfl, hb9⟩
                      have hb9' := later_trans hb9 (later_alloc w9 (.cells #[.int .u64 bh, .int .u64 bl] 35))
                      have H9 := Lib.hid (HH.out.1.later (later_trans HT.out.1.bel (later_trans H8.out hb9'))).bel
                      obtain ⟨n0, n1, -, -, ln⟩ := two_of (box_new w9 #[.int .u64 bh, .int .u64 bl] 35)
                      obtain ⟨m0, m1, -, -, lm⟩ := two_of (kept (later_trans H8.out hb9') HC.out.2.2.2)
                      have heq := eql_wide
                      have hgd := guard_wide
                      clear hb9 hb9' c0 c1 c2' f0 f1 f2 lY t0 t1 g0 g1 lM
                      go_wp2_with fail
                      go_ret
                      exact ⟨rfl, H9.out⟩
                    · rw [show boundV S2 (twiceC c2) = .tuple #[.agg #[.int .u64 0, .int .u64 0], .int .i64 110] from by unfold boundV; rw [(bound_err (by rw [hE]; decide)).1, hE]; rfl] at hB4
                      have HB4 := Lib.hid hB4
                      clear hB4 hE
                      go_wp2_with fail
                      refine HB4.out.mono ?_
                      rintro e w9 ⟨rfl, hb9⟩
                      have hb9' := later_trans hb9 (later_alloc w9 (.cells #[.int .u64 0, .int .u64 0] 35))
                      have H9 := Lib.hid (HH.out.1.later (later_trans HT.out.1.bel (later_trans H8.out hb9'))).bel
                      clear hb9 hb9' c0 c1 c2' f0 f1 f2 lY t0 t1 g0 g1 lM
                      go_wp2_with fail
                      go_ret
                      exact ⟨rfl, H9.out⟩
                    -- K]
                  · -- [L
                    as_aux_lemma =>
                    have hqf := Bool.eq_false_iff.2 hq
                    rw [hqf] at hCd u1
                    have HC := Lib.hid (And.intro hCd u1.symm)
                    clear hCd u1 u2 hq hqf hB3 hbN3
                    by_cases h16 : (16 : Int) < o2
                    · have hd : decide ((16 : Int) < o2) = true := decide_eq_true h16
                      clear h16
                      go_wp2_with fail
                      refine HC.out.1.mono ?_
                      rintro e w8 ⟨rfl, hb8⟩
                      have H9 := Lib.hid (HH.out.1.later (later_trans HT.out.1.bel hb8)).bel
                      obtain ⟨t0, t1, g0, g1, lM⟩ := two_of (kept hb8 HT.out.2.1)
                      clear hb8 c0 c1 c2' f0 f1 f2 lY
                      go_wp2_with fail
                      go_ret
                      exact ⟨rfl, H9.out⟩
                    · -- [M
                      have hd : decide ((16 : Int) < o2) = false := decide_eq_false h16
                      have htb := twice_big HH.out.2.2.2 (by rw [HN.out.2.2.2.2]; have := HH.out.2.2.1; omega) HC.out.2
                      clear h16
                      go_wp2_with fail
                      refine HC.out.1.mono ?_
                      rintro e w8 ⟨rfl, hb8⟩
                      have hvO8 := owns_later HT.out.2.2.1 hb8
                      have H8 := Lib.hid (And.intro (HH.out.1.later (later_trans HT.out.1.bel hb8)).bel hvO8)
                      obtain ⟨t0, t1, g0, g1, lM⟩ := two_of (kept hb8 HT.out.2.1)
                      obtain ⟨i0, hi, hz0, hz1, hz2⟩ := info_parts info_int
                      have hMs := lM
                      clear hb8 c0 c1 c2' f0 f1 f2 lY
                      go_wp2_with (at_builtin; refine wpList_wanted (by rfl) fun KK hKK => wp_append_own _ (.tmp 194) (.tmp 195) 25 rfl (M + 1) 3 i0 _ 1 8 Tryd.underlying25 hi hz0 hz1 hz2 rfl (by decide) _ _ _ rfl (hvO8.alloc _) ⟨w8.heap.size, 0, none⟩ 1 1 [.int .i64 0] rfl rfl (cells_new _ _ _) (by simp [Value.oneCell']) (by unfold maxLen; omega) (by omega) (by simp; omega) ?_; intro v6 w9 hown6 hgrow6 _; obtain ⟨g6, cap6, rfl⟩ := ownsRow_succ hown6; refine hKK _ _ ?_)
                      have hMx := Max_any (.slice (some ⟨g6, 0, none⟩) (k + 1) cap6) ((twiceC c2).ws ++ [0]) w9 (SlI.of_owns (n := k + 1) (by rw [List.map_append]; exact hown6) (fun x hx => by
                        rcases List.mem_append.1 hx with hx | hx
                        · exact HT.out.2.2.2.2.2.2 x hx
                        · obtain rfl := List.mem_singleton.1 hx; decide)) (by simp)
                      obtain ⟨mx, hmx⟩ : ∃ mx, maxTo ((twiceC c2).ws ++ [0]) ((twiceC c2).ws ++ [0]).length = mx := ⟨_, rfl⟩
                      rw [hmx] at hMx htb
                      have hd2 : decide ((16 : Int) < mx) = true := decide_eq_true htb
                      have hbb : Below w.heap.size w w9 := (H8.out.1.trans ((later_alloc w8 (.cells #[.int .i64 0] 3)).mono H8.out.1.size)).grown hgrow6 (by have := H8.out.1.size; simp; omega) (fun q e => by have h1 := owns_above hvO8 q e; have h2 := HM7.out.2.2; have h3 := HH.out.1.bel.size; omega)
                      have HE := Lib.hid hbb
                      clear hbb hmx htb hown6 hgrow6 hvO8
                      refine hMx.mono ?_
                      rintro e w10 ⟨rfl, rfl⟩
                      go_wp2_with fail
                      go_ret
                      exact ⟨rfl, HE.out⟩
                      -- M]
                    -- L]
    · have hq1 : (q != 0) = true := by simpa using hq0
      obtain ⟨k1, k2⟩ := bound_err (by rw [hq]; exact hq0)
      rw [hq] at k2
      have hV : boundV S2 c2 = .tuple #[.agg #[.int .u64 0, .int .u64 0], .int .i64 q] := by
        unfold boundV
        rw [k1, hq]; rfl
      rw [hV] at HB
      rw [← k2] at HCv
      have HO2 := Lib.hid ho
      clear hV hq hbN ho k1 k2
      have heq := eql_wide
      have hgd := guard_wide
      by_cases h110 : q = 110
      · subst h110
        rw [show decide ((110 : Int) = 110) = true from rfl] at HCv
        go_wp2_with fail
        refine HB.out.mono ?_
        rintro e w4 ⟨rfl, hb4⟩
        have hb4' := later_trans hb4 (later_alloc w4 (.cells #[.int .u64 0, .int .u64 0] 35))
        have H4 := Lib.hid (And.intro hb4' (box_new w4 #[.int .u64 0, .int .u64 0] 35))
        obtain ⟨c0, c1, c2', f0, f1, f2, lY⟩ := three_of (kept hb4 HL.out.b5)
        obtain ⟨d0, d1, g0, g1, lC⟩ := two_of (kept hb4 HL.out.bc)
        rw [HO2.out] at d1
        clear hb4 hb4'
        go_wp2_with fail
        refine (HCv.out _ H4.out.1).mono ?_
        rintro e w5 ⟨rfl, hb5⟩
        have H5 := Lib.hid (later_trans HL.out.bel (later_trans H4.out.1 hb5))
        obtain ⟨n0, n1, -, -, ln⟩ := two_of (kept hb5 H4.out.2)
        clear hb5
        go_wp2_with fail
        go_ret
        exact ⟨rfl, H5.out⟩
      · rw [show decide (q = 110) = false from decide_eq_false h110] at HCv
        have hq2 : (q == 110) = false := by simpa using h110
        go_wp2_with fail
        refine HB.out.mono ?_
        rintro e w4 ⟨rfl, hb4⟩
        have hb4' := later_trans hb4 (later_alloc w4 (.cells #[.int .u64 0, .int .u64 0] 35))
        have H4 := Lib.hid (And.intro hb4' (box_new w4 #[.int .u64 0, .int .u64 0] 35))
        obtain ⟨c0, c1, c2', f0, f1, f2, lY⟩ := three_of (kept hb4 HL.out.b5)
        obtain ⟨d0, d1, g0, g1, lC⟩ := two_of (kept hb4 HL.out.bc)
        rw [HO2.out] at d1
        clear hb4 hb4'
        go_wp2_with fail
        refine (HCv.out _ H4.out.1).mono ?_
        rintro e w5 ⟨rfl, hb5⟩
        have H5 := Lib.hid (later_trans HL.out.bel (later_trans H4.out.1 hb5))
        obtain ⟨n0, n1, -, -, ln⟩ := two_of (kept hb5 H4.out.2)
        clear hb5
        go_wp2_with fail
        go_ret
        exact ⟨rfl, H5.out⟩
end Go.Proofs.YtdmfhlfhlflakaaDoor
