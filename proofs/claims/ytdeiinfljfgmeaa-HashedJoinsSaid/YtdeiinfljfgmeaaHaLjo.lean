/-
  HashedJoins, walked: joins and semi-joins are the document's, and of its caller's nothing is written over.
-/
import Derived.Deep.RegionHeld3
import Derived.Deep.RegionLaw
import Derived.Deep.DeepCutAuto
import Derived.Test.YtdeiinfljfgmeaaHaRgs
import Derived.Test.YtdeiinfljfgmeaaHaTw2
import Derived.Test.YtdeiinfljfgmeaaFix
import Derived.Test.YtdeiinfljfgmeaaHaSpo
namespace Go.Proofs.Ytdeiinfljfgmeaa
open Go.RowKit
set_option linter.unusedVariables false
set_option linter.unusedSimpArgs false

set_option maxRecDepth 100000 in
set_option maxHeartbeats 8000000 in
theorem lawJoins_any (va ra vb rb : Value) (A B : Rl) (w : World) (hA : RlR w va ra A) (hB : RlR w vb rb B) :
    Calls Try.prog 4 #[relV va ra, relV vb rb] w fun e w' => e = .returned (.bool true) ∧ Below w.heap.size w w' := by
  obtain ⟨W0, hW0⟩ : ∃ W, W = (w.alloc (.cells #[va, ra] 25)).alloc (.cells #[vb, rb] 25) := ⟨_, rfl⟩
  have b0 : Below w.heap.size w W0 := by rw [hW0]; exact later_trans (later_alloc _ _) (later_alloc _ _)
  have bA : RB W0 w.heap.size va ra := by rw [hW0]; exact box_alloc (box_new _ _ _) _
  have bB : RB W0 (w.heap.size + 1) vb rb := by
    rw [hW0]
    have h := box_new (w.alloc (.cells #[va, ra] 25)) #[vb, rb] 25
    rw [World.size_alloc] at h
    exact h
  obtain ⟨a1, c1, rfl, -⟩ := hA.vars.open
  obtain ⟨a2, c2, rfl, -⟩ := hA.rows.open
  obtain ⟨a3, c3, rfl, -⟩ := hB.vars.open
  obtain ⟨a4, c4, rfl, -⟩ := hB.rows.open
  have H0 := Lib.hid (And.intro hA (And.intro hB (And.intro b0 (And.intro bA bB))))
  clear hA hB b0 bA bB
  go_enter Try.func4, Try.ntmps4
  go_wp2_with fail
  rw [← hW0]
  clear hW0
  refine (wakes_any W0).mono ?_
  rintro e W1 ⟨rfl, b1⟩
  have HB0 := Lib.hid (kept b1 H0.out.2.2.2.1)
  have HB1 := Lib.hid (kept b1 H0.out.2.2.2.2)
  have bw1 := later_trans H0.out.2.2.1 b1
  have HO0 : Hid (∀ W, Below W1.heap.size W1 W → Calls Try.prog 11 #[relV (.slice a1 A.vars.length c1) (.slice a2 A.rows.length c2)] W fun e w' => ∃ v1 v2, e = .returned (relV v1 v2) ∧ OwnRl W.heap.size w' v1 v2 (cutL A) ∧ Below W.heap.size W w') := Lib.hid (fun W hb => ownR_any _ _ A W (H0.out.1.later (later_trans bw1 hb)))
  have HO1 : Hid (∀ W, Below W1.heap.size W1 W → Calls Try.prog 11 #[relV (.slice a3 B.vars.length c3) (.slice a4 B.rows.length c4)] W fun e w' => ∃ v1 v2, e = .returned (relV v1 v2) ∧ OwnRl W.heap.size w' v1 v2 (cutL B) ∧ Below W.heap.size W w') := Lib.hid (fun W hb => ownR_any _ _ B W (H0.out.2.1.later (later_trans bw1 hb)))
  have H1 := Lib.hid bw1
  clear bw1 b1
  go_upto_region 3 with fail
  go_cut [5, 6] (fun s5 s6 wx => ∃ X Y v1 v2 u1 u2, s5 = .pointer (some ⟨X, 0, none⟩) ∧ s6 = .pointer (some ⟨Y, 0, none⟩) ∧ RB wx X v1 v2 ∧ OwnRl W1.heap.size wx v1 v2 (cutL A) ∧ RB wx Y u1 u2 ∧ OwnRl W1.heap.size wx u1 u2 (cutL B) ∧ Below W1.heap.size W1 wx)
  case first =>
    generalize hFr : Act.mk _ _ = a0
    have e2 : a0.eval (.tmp 2) = .pointer (some ⟨w.heap.size, 0, none⟩) := by rw [← hFr]; rfl
    have e3 : a0.eval (.tmp 3) = .pointer (some ⟨w.heap.size + 1, 0, none⟩) := by rw [← hFr]; rfl
    have hsz : 16 < a0.tmps.size := by rw [← hFr]; exact Nat.le_of_ble_eq_true rfl
    have HFr := Lib.hid hFr
    clear hFr
    obtain ⟨sl, hsl⟩ : ∃ sl : Nat → Nat, sl = (fun i => [13, 14, 15, 16, 5, 6].getD i 0) := ⟨_, rfl⟩
    have hink : ∀ i, i < 6 → ∀ j, j < 6 → i ≠ j → sl i ≠ sl j := by rw [hsl]; decide
    have hinj : ∀ i j, i < 6 → j < 6 → i ≠ j → sl i ≠ sl j := fun i j hi hj hne => hink i hi j hj hne
    have g0 : sl 0 = 13 := by rw [hsl]; rfl
    have g1 : sl 1 = 14 := by rw [hsl]; rfl
    have g2 : sl 2 = 15 := by rw [hsl]; rfl
    have g3 : sl 3 = 16 := by rw [hsl]; rfl
    have g4 : sl 4 = 5 := by rw [hsl]; rfl
    have g5 : sl 5 = 6 := by rw [hsl]; rfl
    clear hsl hink
    refine Inv.wp_region_inv (J := fun L a w' => Inv.Fa 8 a0 [5, 6, 13, 14, 15, 16] (twF W1.heap.size (.slice a1 A.vars.length c1) (.slice a2 A.rows.length c2) (.slice a3 B.vars.length c3) (.slice a4 B.rows.length c4) (cutL A) (cutL B) sl) L a w' ∧ Below W1.heap.size W1 w') (by kernel_rfl) (by kernel_rfl) ⟨Inv.Fa.start _, later_drew _⟩ ?_ ?_
    · rintro L a w' i op ⟨hF, hb⟩ h0 hop hall
      have hi : i < 8 := (Array.getElem?_eq_some_iff.1 hop).1
      refine Inv.wpOp_of hop ?_
      have hcase : i = 0 ∨ i = 1 ∨ i = 2 ∨ i = 3 ∨ i = 4 ∨ i = 5 ∨ i = 6 ∨ i = 7 := by omega
      have hbs := hb.size
      have hsA := hF.ag.size
      rcases hcase with rfl | rfl | rfl | rfl | rfl | rfl | rfl | rfl
      · obtain rfl := (Option.some.inj hop).symm
        have y : a.tmps[2]?.getD undef = .pointer (some ⟨w.heap.size, 0, none⟩) := by have h := (hF.ag.eval (s := 2) (by decide)).trans e2; simpa [Act.eval] using h
        obtain ⟨k0, k1, lc⟩ := two_of2 (kept hb HB0.out)
        have hs0 : 13 < a.tmps.size := by omega
        go_simp
        have := hF.step (i := 0) (d := 13) (v := relV (.slice a1 A.vars.length c1) (.slice a2 A.rows.length c2)) (w' := w') h0 (by decide) (fun j hj hne hl hf => by have := tw_read hinj (i := 0) (by decide) hj hne h0 hf (later_refl _) (relV (.slice a1 A.vars.length c1) (.slice a2 A.rows.length c2)); rwa [g0] at this) (show (a.put (some 13) (relV (.slice a1 A.vars.length c1) (.slice a2 A.rows.length c2))).eval (.tmp (sl 0)) = _ by rw [g0]; exact Inv.eval_put_same hs0 _)
        first | exact this | exact ⟨this, hb⟩
      · obtain rfl := (Option.some.inj hop).symm
        have d0 : L.getD 0 false = true := hall ⟨0, .data⟩ (by simp) rfl
        have y : a.tmps[13]?.getD undef = relV (.slice a1 A.vars.length c1) (.slice a2 A.rows.length c2) := by have h : a.eval (.tmp (sl 0)) = _ := hF.facts 0 (by decide) d0; rw [g0] at h; simpa [Act.eval] using h
        have hs0 : 14 < a.tmps.size := by omega
        have hC := HO0.out w' hb
        go_simp
        refine hC.mono ?_
        rintro e w9 ⟨v1, v2, rfl, hO, hb9⟩
        have := hF.step (i := 1) (d := 14) (v := relV v1 v2) (w' := w9) h0 (by decide) (fun j hj hne hl hf => by have := tw_read hinj (i := 1) (by decide) hj hne h0 hf hb9 (relV v1 v2); rwa [g1] at this) ⟨v1, v2, (by rw [g1]; exact Inv.eval_put_same hs0 _), hO.down hbs⟩
        exact ⟨this, later_trans hb hb9⟩
      · obtain rfl := (Option.some.inj hop).symm
        have y : a.tmps[3]?.getD undef = .pointer (some ⟨w.heap.size + 1, 0, none⟩) := by have h := (hF.ag.eval (s := 3) (by decide)).trans e3; simpa [Act.eval] using h
        obtain ⟨k0, k1, lc⟩ := two_of2 (kept hb HB1.out)
        have hs0 : 15 < a.tmps.size := by omega
        go_simp
        have := hF.step (i := 2) (d := 15) (v := relV (.slice a3 B.vars.length c3) (.slice a4 B.rows.length c4)) (w' := w') h0 (by decide) (fun j hj hne hl hf => by have := tw_read hinj (i := 2) (by decide) hj hne h0 hf (later_refl _) (relV (.slice a3 B.vars.length c3) (.slice a4 B.rows.length c4)); rwa [g2] at this) (show (a.put (some 15) (relV (.slice a3 B.vars.length c3) (.slice a4 B.rows.length c4))).eval (.tmp (sl 2)) = _ by rw [g2]; exact Inv.eval_put_same hs0 _)
        first | exact this | exact ⟨this, hb⟩
      · obtain rfl := (Option.some.inj hop).symm
        have d0 : L.getD 2 false = true := hall ⟨2, .data⟩ (by simp) rfl
        have y : a.tmps[15]?.getD undef = relV (.slice a3 B.vars.length c3) (.slice a4 B.rows.length c4) := by have h : a.eval (.tmp (sl 2)) = _ := hF.facts 2 (by decide) d0; rw [g2] at h; simpa [Act.eval] using h
        have hs0 : 16 < a.tmps.size := by omega
        have hC := HO1.out w' hb
        go_simp
        refine hC.mono ?_
        rintro e w9 ⟨v1, v2, rfl, hO, hb9⟩
        have := hF.step (i := 3) (d := 16) (v := relV v1 v2) (w' := w9) h0 (by decide) (fun j hj hne hl hf => by have := tw_read hinj (i := 3) (by decide) hj hne h0 hf hb9 (relV v1 v2); rwa [g3] at this) ⟨v1, v2, (by rw [g3]; exact Inv.eval_put_same hs0 _), hO.down hbs⟩
        exact ⟨this, later_trans hb hb9⟩
      · obtain rfl := (Option.some.inj hop).symm
        have hs0 : 5 < a.tmps.size := by omega
        go_simp
        have := tw_alloc4 hinj hF h0 (by rw [g4]; decide) hbs (by rw [g4]; exact hs0)
        rw [g4] at this
        exact ⟨this, later_trans hb (later_alloc _ _)⟩
      · obtain rfl := (Option.some.inj hop).symm
        have hs0 : 6 < a.tmps.size := by omega
        go_simp
        have := tw_alloc5 hinj hF h0 (by rw [g5]; decide) hbs (by rw [g5]; exact hs0)
        rw [g5] at this
        exact ⟨this, later_trans hb (later_alloc _ _)⟩
      · obtain rfl := (Option.some.inj hop).symm
        have dB : L.getD 4 false = true := hall ⟨4, .data⟩ (by simp) rfl
        have dV : L.getD 1 false = true := hall ⟨1, .data⟩ (by simp) rfl
        obtain ⟨X, eX, hX, h5, u1, u2, hR, -⟩ := hF.facts 4 (by decide) dB
        obtain ⟨v1, v2, eV, hO⟩ := hF.facts 1 (by decide) dV
        have hN := tw_store6 hF h0 dB eX hO
        have y1 : a.tmps[5]?.getD undef = .pointer (some ⟨X, 0, none⟩) := by rw [g4] at eX; simpa [Act.eval] using eX
        obtain ⟨p1, q1, p2, q2, rfl, rfl⟩ := hO.shape
        obtain ⟨n1, hn1⟩ : ∃ n, (cutL A).vars.length = n := ⟨_, rfl⟩
        obtain ⟨n2, hn2⟩ : ∃ n, (cutL A).rows.length = n := ⟨_, rfl⟩
        rw [hn1, hn2] at hN eV
        have y2 : a.tmps[14]?.getD undef = relV (.slice p1 n1 q1) (.slice p2 n2 q2) := by rw [g1] at eV; simpa [Act.eval] using eV
        obtain ⟨k0, k1, lc⟩ := two_of2 hR
        have f0 := box_frozen (i := 0) hR
        have f1 := box_frozen (i := 1) hR
        have HN := Lib.hid hN
        clear hN hO eV eX hR hsz hsA
        go_simp
        exact ⟨HN.out, below_set (below_set hb hX) hX⟩
      · obtain rfl := (Option.some.inj hop).symm
        have dB : L.getD 5 false = true := hall ⟨5, .data⟩ (by simp) rfl
        have dV : L.getD 3 false = true := hall ⟨3, .data⟩ (by simp) rfl
        obtain ⟨X, eX, hX, u1, u2, hR, -⟩ := hF.facts 5 (by decide) dB
        obtain ⟨v1, v2, eV, hO⟩ := hF.facts 3 (by decide) dV
        have hN := tw_store7 hF h0 dB eX hO
        have y1 : a.tmps[6]?.getD undef = .pointer (some ⟨X, 0, none⟩) := by rw [g5] at eX; simpa [Act.eval] using eX
        obtain ⟨p1, q1, p2, q2, rfl, rfl⟩ := hO.shape
        obtain ⟨n1, hn1⟩ : ∃ n, (cutL B).vars.length = n := ⟨_, rfl⟩
        obtain ⟨n2, hn2⟩ : ∃ n, (cutL B).rows.length = n := ⟨_, rfl⟩
        rw [hn1, hn2] at hN eV
        have y2 : a.tmps[16]?.getD undef = relV (.slice p1 n1 q1) (.slice p2 n2 q2) := by rw [g3] at eV; simpa [Act.eval] using eV
        obtain ⟨k0, k1, lc⟩ := two_of2 hR
        have f0 := box_frozen (i := 0) hR
        have f1 := box_frozen (i := 1) hR
        have HN := Lib.hid hN
        clear hN hO eV eX hR hsz hsA
        go_simp
        exact ⟨HN.out, below_set (below_set hb hX) hX⟩
    · rintro L a w' ⟨hF, hb⟩ hall
      obtain ⟨X, eX, hX, h5, u1, u2, hR, hO⟩ := hF.facts 4 (by decide) (hall 4 (by decide))
      obtain ⟨Y, eY, hY, x1, x2, hRY, hOY⟩ := hF.facts 5 (by decide) (hall 5 (by decide))
      have hact := hF.ag.act
      rw [g4] at eX
      rw [g5] at eY
      have eX' : a.tmps.getD 5 undef = .pointer (some ⟨X, 0, none⟩) := eX
      have eY' : a.tmps.getD 6 undef = .pointer (some ⟨Y, 0, none⟩) := eY
      rw [← HFr.out] at hact
      simp only [List.foldl_cons, List.foldl_nil, eX', eY'] at hact
      obtain ⟨z13, hz13⟩ : ∃ z, a.tmps.getD 13 undef = z := ⟨_, rfl⟩
      obtain ⟨z14, hz14⟩ : ∃ z, a.tmps.getD 14 undef = z := ⟨_, rfl⟩
      obtain ⟨z15, hz15⟩ : ∃ z, a.tmps.getD 15 undef = z := ⟨_, rfl⟩
      obtain ⟨z16, hz16⟩ : ∃ z, a.tmps.getD 16 undef = z := ⟨_, rfl⟩
      rw [hz13, hz14, hz15, hz16] at hact
      have HE := Lib.hid (And.intro hR (And.intro (hO (hall 6 (by decide))) (And.intro hRY (And.intro (hOY (hall 7 (by decide))) hb))))
      clear hF hall eX eY eX' eY' hR hO hRY hOY hb e2 e3 hsz h5 hinj hz13 hz14 hz15 hz16
      simp only [List.setIfInBounds_toArray, List.set_cons_zero, List.set_cons_succ] at hact
      subst hact
      clear HFr g0 g1 g2 g3 g4 g5
      go_wp2_with fail
      go_meet
      exact ⟨X, Y, _, _, _, _, rfl, rfl, HE.out.1, HE.out.2.1, HE.out.2.2.1, HE.out.2.2.2.1, HE.out.2.2.2.2⟩
  case rest =>
    obtain ⟨X, Y, v1, v2, u1, u2, rfl, rfl, hX, oA, hY, oB, hb⟩ := hcut
    obtain ⟨A', hA'⟩ : ∃ R, cutL A = R := ⟨_, rfl⟩
    obtain ⟨B', hB'⟩ : ∃ R, cutL B = R := ⟨_, rfl⟩
    have hsA := cutL_small A
    have hsB := cutL_small B
    rw [hA'] at oA hsA
    rw [hB'] at oB hsB
    have hft := small_fits hsA hsB
    obtain ⟨W2, rfl⟩ : ∃ W, W = wc := ⟨_, rfl⟩
    have hJ := Join_any _ _ _ _ A' B' W2 oA.rlR oB.rlR hft.1 hft.2
    obtain ⟨p1, k1, p2, k2, rfl, rfl⟩ := oA.shape
    obtain ⟨p3, k3, p4, k4, rfl, rfl⟩ := oB.shape
    obtain ⟨x0, x1, lX⟩ := two_of2 hX
    obtain ⟨y0, y1, lY⟩ := two_of2 hY
    have HJ := Lib.hid hJ
    have hbw := later_trans H1.out hb
    have HC := Lib.hid (And.intro oA.rlR (And.intro oB.rlR (And.intro hX (And.intro hY (And.intro hbw (And.intro (kept hb HB0.out) (And.intro (kept hb HB1.out) (And.intro hsA (And.intro hsB (And.intro hft (And.intro hA' hB')))))))))))
    clear hX oA hY oB hb hJ hsA hsB hft HO0 HO1 HB0 HB1 hA' hB' hbw
    refine ‹∀ (a : Act) (w_1 : World), _ → _› _ _ ?_
    go_wp2_with fail
    refine HJ.out.mono ?_
    rintro e W3 ⟨b3, j1, j2, nj, rfl, hJR⟩
    obtain ⟨n1, l1, m1, n2, l2, m2, rfl, rfl⟩ : ∃ n1 l1 m1 n2 l2 m2, j1 = .slice n1 l1 m1 ∧ j2 = .slice n2 l2 m2 := by
      cases hq : (rightB A' && rightB B') with
      | true =>
        rw [Bool.and_eq_true] at hq
        obtain ⟨q1, q2, q3, q4, e1, e2⟩ := (hJR.ok hq.1 hq.2).2.shape
        exact ⟨_, _, _, _, _, _, e1, e2⟩
      | false => exact ⟨_, _, _, _, _, _, (hJR.wrong hq).2.1, (hJR.wrong hq).2.2⟩
    obtain ⟨W4, hW4⟩ : ∃ W, W = W3.alloc (.cells #[.slice n1 l1 m1, .slice n2 l2 m2] 25) := ⟨_, rfl⟩
    have b4 : Below W3.heap.size W3 W4 := by rw [hW4]; exact later_alloc _ _
    have hT4 : RB W4 W3.heap.size (.slice n1 l1 m1) (.slice n2 l2 m2) := by rw [hW4]; exact box_new _ _ _
    have b24 := later_trans b3 b4
    have hS := Semi_any _ _ _ _ A' B' W4 (HC.out.1.later b24) (HC.out.2.1.later b24)
    have HS := Lib.hid hS
    clear x0 x1 lX y0 y1 lY
    obtain ⟨x0, x1, lX⟩ := two_of2 (kept b3 HC.out.2.2.1)
    obtain ⟨y0, y1, lY⟩ := two_of2 (kept b3 HC.out.2.2.2.1)
    have H4 := Lib.hid (And.intro b24 (And.intro hT4 (And.intro hJR b4)))
    clear b3 b4 hT4 b24 hS hJR
    go_upto_region 5 with fail
    rw [← hW4]
    clear hW4 x0 x1 lX y0 y1 lY
    obtain ⟨x0, x1, lX⟩ := two_of2 (kept H4.out.1 HC.out.2.2.1)
    obtain ⟨y0, y1, lY⟩ := two_of2 (kept H4.out.1 HC.out.2.2.2.1)
    go_wp2_with fail
    refine HS.out.mono ?_
    rintro e W5 ⟨b5, s1, s2, ns, rfl, hSR⟩
    obtain ⟨n3, l3, m3, n4, l4, m4, rfl, rfl⟩ : ∃ n1 l1 m1 n2 l2 m2, s1 = .slice n1 l1 m1 ∧ s2 = .slice n2 l2 m2 := by
      cases hq : (rightB A' && rightB B') with
      | true =>
        rw [Bool.and_eq_true] at hq
        obtain ⟨q1, q2, q3, q4, e1, e2⟩ := (hSR.ok hq.1 hq.2).2.shape
        exact ⟨_, _, _, _, _, _, e1, e2⟩
      | false => exact ⟨_, _, _, _, _, _, (hSR.wrong hq).2.1, (hSR.wrong hq).2.2⟩
    obtain ⟨W6, hW6⟩ : ∃ W, W = W5.alloc (.cells #[.slice n3 l3 m3, .slice n4 l4 m4] 25) := ⟨_, rfl⟩
    have b6 : Below W5.heap.size W5 W6 := by rw [hW6]; exact later_alloc _ _
    have hT6 : RB W6 W5.heap.size (.slice n3 l3 m3) (.slice n4 l4 m4) := by rw [hW6]; exact box_new _ _ _
    have b46 := later_trans b5 b6
    have b26 := later_trans H4.out.1 b46
    have hRA := Right_any _ _ A' W6 (HC.out.1.later b26)
    have HRA := Lib.hid hRA
    clear x0 x1 lX y0 y1 lY
    obtain ⟨x0, x1, lX⟩ := two_of2 (kept b26 HC.out.2.2.1)
    have H6 := Lib.hid (And.intro b26 (And.intro hT6 (And.intro hSR (And.intro b46 (And.intro (kept b46 H4.out.2.1) (And.intro b6 b5.size))))))
    clear b5 b6 hT6 b46 b26 hRA hSR
    go_upto_region 6 with fail
    rw [← hW6]
    clear hW6
    obtain ⟨ra, hra⟩ : ∃ b, rightB A' = b := ⟨_, rfl⟩
    obtain ⟨rb, hrb⟩ : ∃ b, rightB B' = b := ⟨_, rfl⟩
    rw [hra] at HRA
    have HRR := Lib.hid (And.intro hra hrb)
    clear hra hrb
    go_cut [36] (fun s36 wx => s36 = .bool (!(ra && rb)) ∧ Below W6.heap.size W6 wx)
    case first =>
      cases ra with
      | false =>
        go_wp2_with fail
        refine HRA.out.mono ?_
        rintro e W7 ⟨rfl, b7⟩
        have HB7 := Lib.hid b7
        clear b7
        go_wp2_with fail
        go_meet
        exact ⟨rfl, HB7.out⟩
      | true =>
        go_wp2_with fail
        refine HRA.out.mono ?_
        rintro e W7 ⟨rfl, b7⟩
        have hRB := Right_any _ _ B' W7 (HC.out.2.1.later (later_trans H6.out.1 b7))
        rw [HRR.out.2] at hRB
        have HRB := Lib.hid hRB
        clear x0 x1 lX
        obtain ⟨y0, y1, lY⟩ := two_of2 (kept (later_trans H6.out.1 b7) HC.out.2.2.2.1)
        have HB7 := Lib.hid b7
        clear b7 hRB
        go_wp2_with fail
        refine HRB.out.mono ?_
        rintro e W8 ⟨rfl, b8⟩
        have HB8 := Lib.hid (later_trans HB7.out b8)
        clear b8
        cases rb <;> (go_wp2_with fail; go_meet; exact ⟨rfl, HB8.out⟩)
    case rest =>
      obtain ⟨rfl, hb7⟩ := hcut
      obtain ⟨W7, rfl⟩ : ∃ W, W = wc := ⟨_, rfl⟩
      refine ‹∀ (a : Act) (w_1 : World), _ → _› _ _ ?_
      have hbw7 := later_trans (later_trans HC.out.2.2.2.2.1 H6.out.1) hb7
      have hXJ := kept hb7 H6.out.2.2.2.2.1
      have hXS := kept hb7 H6.out.2.1
      clear x0 x1 lX HRA
      cases hrr : (ra && rb) with
      | false =>
        have hrr' : (rightB A' && rightB B') = false := by rw [HRR.out.1, HRR.out.2]; exact hrr
        obtain ⟨rfl, e1, e2⟩ := H4.out.2.2.1.wrong hrr'
        obtain ⟨rfl, e3, e4⟩ := H6.out.2.2.1.wrong hrr'
        cases e1
        cases e2
        cases e3
        cases e4
        obtain ⟨x0, x1, lX⟩ := two_of2 hXJ
        obtain ⟨y0, y1, lY⟩ := two_of2 hXS
        have HB := Lib.hid hbw7
        clear hbw7 hb7 hXJ hXS hrr hrr'
        go_wp2_with fail
        go_ret
        exact ⟨rfl, HB.out⟩
      | true =>
        have hab : ra = true ∧ rb = true := by simpa using hrr
        have hR1 : rightB A' = true := HRR.out.1.trans hab.1
        have hR2 : rightB B' = true := HRR.out.2.trans hab.2
        obtain ⟨rfl, oJ⟩ := H4.out.2.2.1.ok hR1 hR2
        obtain ⟨rfl, oS⟩ := H6.out.2.2.1.ok hR1 hR2
        have b27 := later_trans H6.out.1 hb7
        have hA7 := HC.out.1.later b27
        have hB7 := HC.out.2.1.later b27
        have oJ4 := oJ.later H4.out.2.2.2
        have oJ7 := oJ4.later (later_trans H6.out.2.2.2.1 hb7)
        have oS6 := oS.later H6.out.2.2.2.2.2.1
        have oS7 := oS6.later hb7
        have hOA := Ok.of hR1 (U64.of HC.out.1)
        have hOB := Ok.of hR2 (U64.of HC.out.2.1)
        have hwA := (rightB_at hR1).1
        have hwB := (rightB_at hR2).1
        have HO64 : Hid (∀ W, Below W7.heap.size W7 W → Calls Try.prog 23 #[relV (.slice p1 A'.vars.length k1) (.slice p2 A'.rows.length k2), relV (.slice p3 B'.vars.length k3) (.slice p4 B'.rows.length k4)] W fun e w' => ∃ v1 v2, e = .returned (relV v1 v2) ∧ RlR w' v1 v2 (joinL A' B') ∧ Below W.heap.size W w') := Lib.hid (fun W hb => (JoinRf_any _ _ _ _ A' B' W (hA7.later hb) (hB7.later hb) hwA hwB (by have := HC.out.2.2.2.2.2.2.2.2.2.1.1; omega) HC.out.2.2.2.2.2.2.2.2.2.1.2).mono (by
          rintro e w' ⟨v1, v2, rfl, hO, hb'⟩
          rw [refJ_eq hOA hOB] at hO
          exact ⟨_, _, rfl, hO.rlR, hb'⟩))
        have HO72 : Hid (∀ W, Below W7.heap.size W7 W → Calls Try.prog 24 #[relV (.slice p1 A'.vars.length k1) (.slice p2 A'.rows.length k2), relV (.slice p3 B'.vars.length k3) (.slice p4 B'.rows.length k4)] W fun e w' => ∃ v1 v2, e = .returned (relV v1 v2) ∧ RlR w' v1 v2 (semiL A' B') ∧ Below W.heap.size W w') := Lib.hid (fun W hb => (SemiRf_any _ _ _ _ A' B' W (hA7.later hb) (hB7.later hb) hwA hwB (by have := HC.out.2.2.2.2.2.2.2.1; omega)).mono (by
          rintro e w' ⟨v1, v2, rfl, hO, hb'⟩
          rw [refS_eq hOA hOB] at hO
          exact ⟨_, _, rfl, hO, hb'⟩))
        have HS65 : Hid (∀ W v1 v2, Below W7.heap.size W7 W → RlR W v1 v2 (joinL A' B') → Calls Try.prog 17 #[relV (.slice n1 l1 m1) (.slice n2 l2 m2), relV v1 v2] W fun e w' => e = .returned (.bool true) ∧ Below W.heap.size W w') := Lib.hid (fun W v1 v2 hb hO => by
          have := SameR_any _ _ _ _ (joinL A' B') (joinL A' B') W (oJ7.rlR.later hb) hO
          rwa [decide_eq_true rfl] at this)
        have HS73 : Hid (∀ W v1 v2, Below W7.heap.size W7 W → RlR W v1 v2 (semiL A' B') → Calls Try.prog 17 #[relV (.slice n3 l3 m3) (.slice n4 l4 m4), relV v1 v2] W fun e w' => e = .returned (.bool true) ∧ Below W.heap.size W w') := Lib.hid (fun W v1 v2 hb hO => by
          have := SameR_any _ _ _ _ (semiL A' B') (semiL A' B') W (oS7.rlR.later hb) hO
          rwa [decide_eq_true rfl] at this)
        have HX7 := Lib.hid (kept b27 HC.out.2.2.1)
        have HY7 := Lib.hid (kept b27 HC.out.2.2.2.1)
        have HZ7 := Lib.hid (kept b27 HC.out.2.2.2.2.2.1)
        have HZ8 := Lib.hid (kept b27 HC.out.2.2.2.2.2.2.1)
        have HXJ := Lib.hid hXJ
        have HXS := Lib.hid hXS
        have H7 := Lib.hid (And.intro oJ4 (And.intro (later_trans H6.out.2.2.2.1 hb7) (And.intro oS6 (And.intro hb7 (And.intro hbw7 (And.intro hA7 (And.intro hB7 (And.intro oS7 (later_trans H4.out.1 (later_trans H6.out.2.2.2.1 hb7))))))))))
        clear hrr hab hR1 hR2 oJ oS b27 hA7 hB7 oJ4 oJ7 oS6 oS7 hOA hOB hwA hwB hXJ hXS hbw7 hb7
        simp only [Bool.not_true]
        go_upto_region 8 with fail
        go_cut [75] (fun s75 wx => s75 = .bool false ∧ Below W7.heap.size W7 wx)
        case first =>
          generalize hFr : Act.mk _ _ = a0
          have e5 : a0.eval (.tmp 5) = .pointer (some ⟨X, 0, none⟩) := by rw [← hFr]; rfl
          have e6 : a0.eval (.tmp 6) = .pointer (some ⟨Y, 0, none⟩) := by rw [← hFr]; rfl
          have e7 : a0.eval (.tmp 7) = .pointer (some ⟨W3.heap.size, 0, none⟩) := by rw [← hFr]; rfl
          have e8 : a0.eval (.tmp 8) = .int .i64 0 := by rw [← hFr]; rfl
          have e9 : a0.eval (.tmp 9) = .pointer (some ⟨W5.heap.size, 0, none⟩) := by rw [← hFr]; rfl
          have e10 : a0.eval (.tmp 10) = .int .i64 0 := by rw [← hFr]; rfl
          have hsz : 75 < a0.tmps.size := by rw [← hFr]; exact Nat.le_of_ble_eq_true rfl
          have HFr := Lib.hid hFr
          clear hFr
          obtain ⟨R, hR⟩ : ∃ R : Nat → Value → World → Prop, R = fun j v w' => if j = 10 then (∃ v1 v2, v = relV v1 v2 ∧ RlR w' v1 v2 (joinL A' B')) else if j = 18 then (∃ v1 v2, v = relV v1 v2 ∧ RlR w' v1 v2 (semiL A' B')) else v = ([.int .i64 0, .bool false, .bool false, .int .i64 0, .bool false, .bool false, .bool false, relV (.slice n1 l1 m1) (.slice n2 l2 m2), relV (.slice p1 A'.vars.length k1) (.slice p2 A'.rows.length k2), relV (.slice p3 B'.vars.length k3) (.slice p4 B'.rows.length k4), undef, .bool true, .bool false, .bool false, .bool false, relV (.slice n3 l3 m3) (.slice n4 l4 m4), relV (.slice p1 A'.vars.length k1) (.slice p2 A'.rows.length k2), relV (.slice p3 B'.vars.length k3) (.slice p4 B'.rows.length k4), undef, .bool true, .bool false, .bool false] : List Value).getD j undef := ⟨_, rfl⟩
          have hmono : ∀ j v U V, R j v U → Below U.heap.size U V → R j v V := by
            rw [hR]
            intro j v U V h hb
            by_cases e10 : j = 10
            · simp only [if_pos e10] at h ⊢
              obtain ⟨v1, v2, e1, e2⟩ := h
              exact ⟨v1, v2, e1, e2.later hb⟩
            by_cases e18 : j = 18
            · simp only [if_neg e10, if_pos e18] at h ⊢
              obtain ⟨v1, v2, e1, e2⟩ := h
              exact ⟨v1, v2, e1, e2.later hb⟩
            simp only [if_neg e10, if_neg e18] at h ⊢
            exact h
          have r0 : ∀ v w', R 0 v w' = (v = .int .i64 0) := fun v w' => by rw [hR]; rfl
          have r1 : ∀ v w', R 1 v w' = (v = .bool false) := fun v w' => by rw [hR]; rfl
          have r2 : ∀ v w', R 2 v w' = (v = .bool false) := fun v w' => by rw [hR]; rfl
          have r3 : ∀ v w', R 3 v w' = (v = .int .i64 0) := fun v w' => by rw [hR]; rfl
          have r4 : ∀ v w', R 4 v w' = (v = .bool false) := fun v w' => by rw [hR]; rfl
          have r5 : ∀ v w', R 5 v w' = (v = .bool false) := fun v w' => by rw [hR]; rfl
          have r6 : ∀ v w', R 6 v w' = (v = .bool false) := fun v w' => by rw [hR]; rfl
          have r7 : ∀ v w', R 7 v w' = (v = relV (.slice n1 l1 m1) (.slice n2 l2 m2)) := fun v w' => by rw [hR]; rfl
          have r8 : ∀ v w', R 8 v w' = (v = relV (.slice p1 A'.vars.length k1) (.slice p2 A'.rows.length k2)) := fun v w' => by rw [hR]; rfl
          have r9 : ∀ v w', R 9 v w' = (v = relV (.slice p3 B'.vars.length k3) (.slice p4 B'.rows.length k4)) := fun v w' => by rw [hR]; rfl
          have r10 : ∀ v w', R 10 v w' = (∃ v1 v2, v = relV v1 v2 ∧ RlR w' v1 v2 (joinL A' B')) := fun v w' => by rw [hR]; rfl
          have r11 : ∀ v w', R 11 v w' = (v = .bool true) := fun v w' => by rw [hR]; rfl
          have r12 : ∀ v w', R 12 v w' = (v = .bool false) := fun v w' => by rw [hR]; rfl
          have r13 : ∀ v w', R 13 v w' = (v = .bool false) := fun v w' => by rw [hR]; rfl
          have r14 : ∀ v w', R 14 v w' = (v = .bool false) := fun v w' => by rw [hR]; rfl
          have r15 : ∀ v w', R 15 v w' = (v = relV (.slice n3 l3 m3) (.slice n4 l4 m4)) := fun v w' => by rw [hR]; rfl
          have r16 : ∀ v w', R 16 v w' = (v = relV (.slice p1 A'.vars.length k1) (.slice p2 A'.rows.length k2)) := fun v w' => by rw [hR]; rfl
          have r17 : ∀ v w', R 17 v w' = (v = relV (.slice p3 B'.vars.length k3) (.slice p4 B'.rows.length k4)) := fun v w' => by rw [hR]; rfl
          have r18 : ∀ v w', R 18 v w' = (∃ v1 v2, v = relV v1 v2 ∧ RlR w' v1 v2 (semiL A' B')) := fun v w' => by rw [hR]; rfl
          have r19 : ∀ v w', R 19 v w' = (v = .bool true) := fun v w' => by rw [hR]; rfl
          have r20 : ∀ v w', R 20 v w' = (v = .bool false) := fun v w' => by rw [hR]; rfl
          have r21 : ∀ v w', R 21 v w' = (v = .bool false) := fun v w' => by rw [hR]; rfl
          clear hR
          have hinj : ∀ i j : Nat, j ≠ i → (fun k : Nat => 54 + k) j ≠ (fun k : Nat => 54 + k) i := fun i j h e => h (by have e : 54 + j = 54 + i := e; omega)
          refine Inv.wp_region_inv (J := fun L a w' => Fx 22 a0 [54, 55, 56, 57, 58, 59, 60, 61, 62, 63, 64, 65, 66, 67, 68, 69, 70, 71, 72, 73, 74, 75] W7 (fun k : Nat => 54 + k) R L a w') (by kernel_rfl) (by kernel_rfl) (Fx.start _) ?_ ?_
          · rintro L a w' i op hF h0 hop hall
            have hi : i < 22 := (Array.getElem?_eq_some_iff.1 hop).1
            refine Inv.wpOp_of hop ?_
            have hsA := hF.ag.size
            have hb := hF.bel
            have hcase : i = 0 ∨ i = 1 ∨ i = 2 ∨ i = 3 ∨ i = 4 ∨ i = 5 ∨ i = 6 ∨ i = 7 ∨ i = 8 ∨ i = 9 ∨ i = 10 ∨ i = 11 ∨ i = 12 ∨ i = 13 ∨ i = 14 ∨ i = 15 ∨ i = 16 ∨ i = 17 ∨ i = 18 ∨ i = 19 ∨ i = 20 ∨ i = 21 := by omega
            rcases hcase with rfl | rfl | rfl | rfl | rfl | rfl | rfl | rfl | rfl | rfl | rfl | rfl | rfl | rfl | rfl | rfl | rfl | rfl | rfl | rfl | rfl | rfl
            · obtain rfl := (Option.some.inj hop).symm
              have y8 := at_slot ((hF.ag.eval (s := 8) (by decide)).trans e8)
              have hs0 : 54 < a.tmps.size := by omega
              have HF := Lib.hid hF
              clear hsA
              go_simp
              exact hF.step (i := 0) (d := 54) (v := .int .i64 0) (w' := w') (fun j _ hne => hinj 0 j hne) hmono h0 (by decide) hs0 rfl (later_refl _) (by rw [r0])
            · obtain rfl := (Option.some.inj hop).symm
              have d0 : L.getD 0 false = true := hall ⟨0, .data⟩ (by simp) rfl
              have h0 := hF.val 0 (by decide) d0
              rw [r0] at h0
              have y54 := at_slot (s := 54) h0
              clear h0 d0
              try simp only [Nat.reduceAdd] at y54
              have hs0 : 55 < a.tmps.size := by omega
              have HF := Lib.hid hF
              clear hsA
              go_simp
              exact hF.step (i := 1) (d := 55) (v := .bool false) (w' := w') (fun j _ hne => hinj 1 j hne) hmono h0 (by decide) hs0 rfl (later_refl _) (by rw [r1])
            · obtain rfl := (Option.some.inj hop).symm
              have d1 : L.getD 1 false = true := hall ⟨1, .data⟩ (by simp) rfl
              have h1 := hF.val 1 (by decide) d1
              rw [r1] at h1
              have y55 := at_slot (s := 55) h1
              clear h1 d1
              try simp only [Nat.reduceAdd] at y55
              have hs0 : 56 < a.tmps.size := by omega
              have HF := Lib.hid hF
              clear hsA
              go_simp
              exact hF.step (i := 2) (d := 56) (v := .bool false) (w' := w') (fun j _ hne => hinj 2 j hne) hmono h0 (by decide) hs0 rfl (later_refl _) (by rw [r2])
            · obtain rfl := (Option.some.inj hop).symm
              have y10 := at_slot ((hF.ag.eval (s := 10) (by decide)).trans e10)
              have d2 : L.getD 2 false = true := hall ⟨2, .guard⟩ (by simp) rfl
              have h2 := hF.val 2 (by decide) d2
              rw [r2] at h2
              have y56 := at_some (s := 56) h2 (by show _ < a.tmps.size; omega)
              clear h2 d2
              try simp only [Nat.reduceAdd] at y56
              have hs0 : 57 < a.tmps.size := by omega
              have HF := Lib.hid hF
              clear hsA
              go_simp
              exact hF.step (i := 3) (d := 57) (v := .int .i64 0) (w' := w') (fun j _ hne => hinj 3 j hne) hmono h0 (by decide) hs0 rfl (later_refl _) (by rw [r3])
            · obtain rfl := (Option.some.inj hop).symm
              have d3 : L.getD 3 false = true := hall ⟨3, .data⟩ (by simp) rfl
              have h3 := hF.val 3 (by decide) d3
              rw [r3] at h3
              have y57 := at_slot (s := 57) h3
              clear h3 d3
              try simp only [Nat.reduceAdd] at y57
              have d2 : L.getD 2 false = true := hall ⟨2, .guard⟩ (by simp) rfl
              have h2 := hF.val 2 (by decide) d2
              rw [r2] at h2
              have y56 := at_some (s := 56) h2 (by show _ < a.tmps.size; omega)
              clear h2 d2
              try simp only [Nat.reduceAdd] at y56
              have hs0 : 58 < a.tmps.size := by omega
              have HF := Lib.hid hF
              clear hsA
              go_simp
              exact hF.step (i := 4) (d := 58) (v := .bool false) (w' := w') (fun j _ hne => hinj 4 j hne) hmono h0 (by decide) hs0 rfl (later_refl _) (by rw [r4])
            · obtain rfl := (Option.some.inj hop).symm
              have d2 : L.getD 2 false = true := hall ⟨2, .data⟩ (by simp) rfl
              have h2 := hF.val 2 (by decide) d2
              rw [r2] at h2
              have y56 := at_slot (s := 56) h2
              clear h2 d2
              try simp only [Nat.reduceAdd] at y56
              have d4 : L.getD 4 false = true := hall ⟨4, .data⟩ (by simp) rfl
              have h4 := hF.val 4 (by decide) d4
              rw [r4] at h4
              have y58 := at_slot (s := 58) h4
              clear h4 d4
              try simp only [Nat.reduceAdd] at y58
              have hs0 : 59 < a.tmps.size := by omega
              have HF := Lib.hid hF
              clear hsA
              go_simp
              exact hF.step (i := 5) (d := 59) (v := .bool false) (w' := w') (fun j _ hne => hinj 5 j hne) hmono h0 (by decide) hs0 rfl (later_refl _) (by rw [r5])
            · obtain rfl := (Option.some.inj hop).symm
              have d5 : L.getD 5 false = true := hall ⟨5, .data⟩ (by simp) rfl
              have h5 := hF.val 5 (by decide) d5
              rw [r5] at h5
              have y59 := at_slot (s := 59) h5
              clear h5 d5
              try simp only [Nat.reduceAdd] at y59
              have hs0 : 60 < a.tmps.size := by omega
              have HF := Lib.hid hF
              clear hsA
              go_simp
              exact hF.step (i := 6) (d := 60) (v := .bool false) (w' := w') (fun j _ hne => hinj 6 j hne) hmono h0 (by decide) hs0 rfl (later_refl _) (by rw [r6])
            · obtain rfl := (Option.some.inj hop).symm
              have y7 := at_slot ((hF.ag.eval (s := 7) (by decide)).trans e7)
              have d6 : L.getD 6 false = true := hall ⟨6, .guard⟩ (by simp) rfl
              have h6 := hF.val 6 (by decide) d6
              rw [r6] at h6
              have y60 := at_some (s := 60) h6 (by show _ < a.tmps.size; omega)
              clear h6 d6
              try simp only [Nat.reduceAdd] at y60
              obtain ⟨kk0, kk1, lc⟩ := two_of2 (kept hb HXJ.out)
              have hs0 : 61 < a.tmps.size := by omega
              have HF := Lib.hid hF
              clear hsA
              go_simp
              exact hF.step (i := 7) (d := 61) (v := relV (.slice n1 l1 m1) (.slice n2 l2 m2)) (w' := w') (fun j _ hne => hinj 7 j hne) hmono h0 (by decide) hs0 rfl (later_refl _) (by rw [r7])
            · obtain rfl := (Option.some.inj hop).symm
              have y5 := at_slot ((hF.ag.eval (s := 5) (by decide)).trans e5)
              have d6 : L.getD 6 false = true := hall ⟨6, .guard⟩ (by simp) rfl
              have h6 := hF.val 6 (by decide) d6
              rw [r6] at h6
              have y60 := at_some (s := 60) h6 (by show _ < a.tmps.size; omega)
              clear h6 d6
              try simp only [Nat.reduceAdd] at y60
              obtain ⟨kk0, kk1, lc⟩ := two_of2 (kept hb HX7.out)
              have hs0 : 62 < a.tmps.size := by omega
              have HF := Lib.hid hF
              clear hsA
              go_simp
              exact hF.step (i := 8) (d := 62) (v := relV (.slice p1 A'.vars.length k1) (.slice p2 A'.rows.length k2)) (w' := w') (fun j _ hne => hinj 8 j hne) hmono h0 (by decide) hs0 rfl (later_refl _) (by rw [r8])
            · obtain rfl := (Option.some.inj hop).symm
              have y6 := at_slot ((hF.ag.eval (s := 6) (by decide)).trans e6)
              have d6 : L.getD 6 false = true := hall ⟨6, .guard⟩ (by simp) rfl
              have h6 := hF.val 6 (by decide) d6
              rw [r6] at h6
              have y60 := at_some (s := 60) h6 (by show _ < a.tmps.size; omega)
              clear h6 d6
              try simp only [Nat.reduceAdd] at y60
              obtain ⟨kk0, kk1, lc⟩ := two_of2 (kept hb HY7.out)
              have hs0 : 63 < a.tmps.size := by omega
              have HF := Lib.hid hF
              clear hsA
              go_simp
              exact hF.step (i := 9) (d := 63) (v := relV (.slice p3 B'.vars.length k3) (.slice p4 B'.rows.length k4)) (w' := w') (fun j _ hne => hinj 9 j hne) hmono h0 (by decide) hs0 rfl (later_refl _) (by rw [r9])
            · obtain rfl := (Option.some.inj hop).symm
              have d8 : L.getD 8 false = true := hall ⟨8, .data⟩ (by simp) rfl
              have h8 := hF.val 8 (by decide) d8
              rw [r8] at h8
              have y62 := at_slot (s := 62) h8
              clear h8 d8
              try simp only [Nat.reduceAdd] at y62
              have d9 : L.getD 9 false = true := hall ⟨9, .data⟩ (by simp) rfl
              have h9 := hF.val 9 (by decide) d9
              rw [r9] at h9
              have y63 := at_slot (s := 63) h9
              clear h9 d9
              try simp only [Nat.reduceAdd] at y63
              have d6 : L.getD 6 false = true := hall ⟨6, .guard⟩ (by simp) rfl
              have h6 := hF.val 6 (by decide) d6
              rw [r6] at h6
              have y60 := at_some (s := 60) h6 (by show _ < a.tmps.size; omega)
              clear h6 d6
              try simp only [Nat.reduceAdd] at y60
              have hs0 : 64 < a.tmps.size := by omega
              have hC := HO64.out w' hb
              have hbs := hb.size
              clear hsA
              go_simp
              refine hC.mono ?_
              rintro e w9 ⟨v1, v2, rfl, hO, hb9⟩
              exact hF.step (i := 10) (d := 64) (v := relV v1 v2) (w' := w9) (fun j _ hne => hinj 10 j hne) hmono h0 (by decide) hs0 rfl hb9 (by rw [r10]; exact ⟨v1, v2, rfl, hO⟩)
            · obtain rfl := (Option.some.inj hop).symm
              have d7 : L.getD 7 false = true := hall ⟨7, .data⟩ (by simp) rfl
              have h7 := hF.val 7 (by decide) d7
              rw [r7] at h7
              have y61 := at_slot (s := 61) h7
              clear h7 d7
              try simp only [Nat.reduceAdd] at y61
              have d10 : L.getD 10 false = true := hall ⟨10, .data⟩ (by simp) rfl
              have h10 := hF.val 10 (by decide) d10
              rw [r10] at h10
              obtain ⟨w1, w2, q10, o10⟩ := h10
              have y64 := at_slot (s := 64) q10
              try simp only [Nat.reduceAdd] at y64
              have d6 : L.getD 6 false = true := hall ⟨6, .guard⟩ (by simp) rfl
              have h6 := hF.val 6 (by decide) d6
              rw [r6] at h6
              have y60 := at_some (s := 60) h6 (by show _ < a.tmps.size; omega)
              clear h6 d6
              try simp only [Nat.reduceAdd] at y60
              have hs0 : 65 < a.tmps.size := by omega
              have hC := HS65.out w' w1 w2 hb o10
              obtain ⟨p1, q1, p2, q2, rfl, rfl⟩ := o10.shape
              clear q10 o10 d10
              clear hsA
              have HF := Lib.hid hF
              clear hb
              go_simp
              refine hC.mono ?_
              rintro e w9 ⟨rfl, hb9⟩
              exact hF.step (i := 11) (d := 65) (v := .bool true) (w' := w9) (fun j _ hne => hinj 11 j hne) hmono h0 (by decide) hs0 rfl hb9 (by rw [r11])
            · obtain rfl := (Option.some.inj hop).symm
              have d11 : L.getD 11 false = true := hall ⟨11, .data⟩ (by simp) rfl
              have h11 := hF.val 11 (by decide) d11
              rw [r11] at h11
              have y65 := at_slot (s := 65) h11
              clear h11 d11
              try simp only [Nat.reduceAdd] at y65
              have d6 : L.getD 6 false = true := hall ⟨6, .guard⟩ (by simp) rfl
              have h6 := hF.val 6 (by decide) d6
              rw [r6] at h6
              have y60 := at_some (s := 60) h6 (by show _ < a.tmps.size; omega)
              clear h6 d6
              try simp only [Nat.reduceAdd] at y60
              have hs0 : 66 < a.tmps.size := by omega
              have HF := Lib.hid hF
              clear hsA
              go_simp
              exact hF.step (i := 12) (d := 66) (v := .bool false) (w' := w') (fun j _ hne => hinj 12 j hne) hmono h0 (by decide) hs0 rfl (later_refl _) (by rw [r12])
            · obtain rfl := (Option.some.inj hop).symm
              have d6 : L.getD 6 false = true := hall ⟨6, .data⟩ (by simp) rfl
              have h6 := hF.val 6 (by decide) d6
              rw [r6] at h6
              have y60 := at_slot (s := 60) h6
              clear h6 d6
              try simp only [Nat.reduceAdd] at y60
              have d12 : L.getD 12 false = true := hall ⟨12, .data⟩ (by simp) rfl
              have h12 := hF.val 12 (by decide) d12
              rw [r12] at h12
              have y66 := at_slot (s := 66) h12
              clear h12 d12
              try simp only [Nat.reduceAdd] at y66
              have hs0 : 67 < a.tmps.size := by omega
              have HF := Lib.hid hF
              clear hsA
              go_simp
              exact hF.step (i := 13) (d := 67) (v := .bool false) (w' := w') (fun j _ hne => hinj 13 j hne) hmono h0 (by decide) hs0 rfl (later_refl _) (by rw [r13])
            · obtain rfl := (Option.some.inj hop).symm
              have d13 : L.getD 13 false = true := hall ⟨13, .data⟩ (by simp) rfl
              have h13 := hF.val 13 (by decide) d13
              rw [r13] at h13
              have y67 := at_slot (s := 67) h13
              clear h13 d13
              try simp only [Nat.reduceAdd] at y67
              have hs0 : 68 < a.tmps.size := by omega
              have HF := Lib.hid hF
              clear hsA
              go_simp
              exact hF.step (i := 14) (d := 68) (v := .bool false) (w' := w') (fun j _ hne => hinj 14 j hne) hmono h0 (by decide) hs0 rfl (later_refl _) (by rw [r14])
            · obtain rfl := (Option.some.inj hop).symm
              have y9 := at_slot ((hF.ag.eval (s := 9) (by decide)).trans e9)
              have d14 : L.getD 14 false = true := hall ⟨14, .guard⟩ (by simp) rfl
              have h14 := hF.val 14 (by decide) d14
              rw [r14] at h14
              have y68 := at_some (s := 68) h14 (by show _ < a.tmps.size; omega)
              clear h14 d14
              try simp only [Nat.reduceAdd] at y68
              obtain ⟨kk0, kk1, lc⟩ := two_of2 (kept hb HXS.out)
              have hs0 : 69 < a.tmps.size := by omega
              have HF := Lib.hid hF
              clear hsA
              go_simp
              exact hF.step (i := 15) (d := 69) (v := relV (.slice n3 l3 m3) (.slice n4 l4 m4)) (w' := w') (fun j _ hne => hinj 15 j hne) hmono h0 (by decide) hs0 rfl (later_refl _) (by rw [r15])
            · obtain rfl := (Option.some.inj hop).symm
              have y5 := at_slot ((hF.ag.eval (s := 5) (by decide)).trans e5)
              have d14 : L.getD 14 false = true := hall ⟨14, .guard⟩ (by simp) rfl
              have h14 := hF.val 14 (by decide) d14
              rw [r14] at h14
              have y68 := at_some (s := 68) h14 (by show _ < a.tmps.size; omega)
              clear h14 d14
              try simp only [Nat.reduceAdd] at y68
              obtain ⟨kk0, kk1, lc⟩ := two_of2 (kept hb HX7.out)
              have hs0 : 70 < a.tmps.size := by omega
              have HF := Lib.hid hF
              clear hsA
              go_simp
              exact hF.step (i := 16) (d := 70) (v := relV (.slice p1 A'.vars.length k1) (.slice p2 A'.rows.length k2)) (w' := w') (fun j _ hne => hinj 16 j hne) hmono h0 (by decide) hs0 rfl (later_refl _) (by rw [r16])
            · obtain rfl := (Option.some.inj hop).symm
              have y6 := at_slot ((hF.ag.eval (s := 6) (by decide)).trans e6)
              have d14 : L.getD 14 false = true := hall ⟨14, .guard⟩ (by simp) rfl
              have h14 := hF.val 14 (by decide) d14
              rw [r14] at h14
              have y68 := at_some (s := 68) h14 (by show _ < a.tmps.size; omega)
              clear h14 d14
              try simp only [Nat.reduceAdd] at y68
              obtain ⟨kk0, kk1, lc⟩ := two_of2 (kept hb HY7.out)
              have hs0 : 71 < a.tmps.size := by omega
              have HF := Lib.hid hF
              clear hsA
              go_simp
              exact hF.step (i := 17) (d := 71) (v := relV (.slice p3 B'.vars.length k3) (.slice p4 B'.rows.length k4)) (w' := w') (fun j _ hne => hinj 17 j hne) hmono h0 (by decide) hs0 rfl (later_refl _) (by rw [r17])
            · obtain rfl := (Option.some.inj hop).symm
              have d16 : L.getD 16 false = true := hall ⟨16, .data⟩ (by simp) rfl
              have h16 := hF.val 16 (by decide) d16
              rw [r16] at h16
              have y70 := at_slot (s := 70) h16
              clear h16 d16
              try simp only [Nat.reduceAdd] at y70
              have d17 : L.getD 17 false = true := hall ⟨17, .data⟩ (by simp) rfl
              have h17 := hF.val 17 (by decide) d17
              rw [r17] at h17
              have y71 := at_slot (s := 71) h17
              clear h17 d17
              try simp only [Nat.reduceAdd] at y71
              have d14 : L.getD 14 false = true := hall ⟨14, .guard⟩ (by simp) rfl
              have h14 := hF.val 14 (by decide) d14
              rw [r14] at h14
              have y68 := at_some (s := 68) h14 (by show _ < a.tmps.size; omega)
              clear h14 d14
              try simp only [Nat.reduceAdd] at y68
              have hs0 : 72 < a.tmps.size := by omega
              have hC := HO72.out w' hb
              have hbs := hb.size
              clear hsA
              go_simp
              refine hC.mono ?_
              rintro e w9 ⟨v1, v2, rfl, hO, hb9⟩
              exact hF.step (i := 18) (d := 72) (v := relV v1 v2) (w' := w9) (fun j _ hne => hinj 18 j hne) hmono h0 (by decide) hs0 rfl hb9 (by rw [r18]; exact ⟨v1, v2, rfl, hO⟩)
            · obtain rfl := (Option.some.inj hop).symm
              have d15 : L.getD 15 false = true := hall ⟨15, .data⟩ (by simp) rfl
              have h15 := hF.val 15 (by decide) d15
              rw [r15] at h15
              have y69 := at_slot (s := 69) h15
              clear h15 d15
              try simp only [Nat.reduceAdd] at y69
              have d18 : L.getD 18 false = true := hall ⟨18, .data⟩ (by simp) rfl
              have h18 := hF.val 18 (by decide) d18
              rw [r18] at h18
              obtain ⟨w1, w2, q18, o18⟩ := h18
              have y72 := at_slot (s := 72) q18
              try simp only [Nat.reduceAdd] at y72
              have d14 : L.getD 14 false = true := hall ⟨14, .guard⟩ (by simp) rfl
              have h14 := hF.val 14 (by decide) d14
              rw [r14] at h14
              have y68 := at_some (s := 68) h14 (by show _ < a.tmps.size; omega)
              clear h14 d14
              try simp only [Nat.reduceAdd] at y68
              have hs0 : 73 < a.tmps.size := by omega
              have hC := HS73.out w' w1 w2 hb o18
              obtain ⟨p1, q1, p2, q2, rfl, rfl⟩ := o18.shape
              clear q18 o18 d18
              clear hsA
              have HF := Lib.hid hF
              clear hb
              go_simp
              refine hC.mono ?_
              rintro e w9 ⟨rfl, hb9⟩
              exact hF.step (i := 19) (d := 73) (v := .bool true) (w' := w9) (fun j _ hne => hinj 19 j hne) hmono h0 (by decide) hs0 rfl hb9 (by rw [r19])
            · obtain rfl := (Option.some.inj hop).symm
              have d19 : L.getD 19 false = true := hall ⟨19, .data⟩ (by simp) rfl
              have h19 := hF.val 19 (by decide) d19
              rw [r19] at h19
              have y73 := at_slot (s := 73) h19
              clear h19 d19
              try simp only [Nat.reduceAdd] at y73
              have d14 : L.getD 14 false = true := hall ⟨14, .guard⟩ (by simp) rfl
              have h14 := hF.val 14 (by decide) d14
              rw [r14] at h14
              have y68 := at_some (s := 68) h14 (by show _ < a.tmps.size; omega)
              clear h14 d14
              try simp only [Nat.reduceAdd] at y68
              have hs0 : 74 < a.tmps.size := by omega
              have HF := Lib.hid hF
              clear hsA
              go_simp
              exact hF.step (i := 20) (d := 74) (v := .bool false) (w' := w') (fun j _ hne => hinj 20 j hne) hmono h0 (by decide) hs0 rfl (later_refl _) (by rw [r20])
            · obtain rfl := (Option.some.inj hop).symm
              have d14 : L.getD 14 false = true := hall ⟨14, .data⟩ (by simp) rfl
              have h14 := hF.val 14 (by decide) d14
              rw [r14] at h14
              have y68 := at_slot (s := 68) h14
              clear h14 d14
              try simp only [Nat.reduceAdd] at y68
              have d20 : L.getD 20 false = true := hall ⟨20, .data⟩ (by simp) rfl
              have h20 := hF.val 20 (by decide) d20
              rw [r20] at h20
              have y74 := at_slot (s := 74) h20
              clear h20 d20
              try simp only [Nat.reduceAdd] at y74
              have hs0 : 75 < a.tmps.size := by omega
              have HF := Lib.hid hF
              clear hsA
              go_simp
              exact hF.step (i := 21) (d := 75) (v := .bool false) (w' := w') (fun j _ hne => hinj 21 j hne) hmono h0 (by decide) hs0 rfl (later_refl _) (by rw [r21])
          · rintro L a w' hF hall
            have hv := hF.val 21 (by decide) (hall 21 (by decide))
            rw [r21] at hv
            have hv' : a.tmps.getD (54 + 21) undef = .bool false := hv
            obtain ⟨f, hact⟩ := hF.ag.run 54 21 (by omega) (by decide)
            rw [← HFr.out, hv'] at hact
            simp only [List.take_succ_cons, List.take_zero, List.drop_succ_cons, List.drop_zero, List.cons_append, List.nil_append, Nat.reduceAdd, show List.range 21 = [0, 1, 2, 3, 4, 5, 6, 7, 8, 9, 10, 11, 12, 13, 14, 15, 16, 17, 18, 19, 20] from rfl, List.map_cons, List.map_nil] at hact
            have HE := Lib.hid hF.bel
            clear hF hall hv hv' hinj hmono hsz r0 r1 r2 r3 r4 r5 r6 r7 r8 r9 r10 r11 r12 r13 r14 r15 r16 r17 r18 r19 r20 r21 e5 e6 e7 e8 e9 e10
            subst hact
            clear HFr
            go_wp2_with fail
            go_meet
            exact ⟨rfl, HE.out⟩
        case rest =>
          obtain ⟨rfl, hb8⟩ := hcut
          obtain ⟨W8, rfl⟩ : ∃ W, W = wc := ⟨_, rfl⟩
          have hSp := spoil2_any H7.out.1 (later_trans H7.out.2.1 hb8) (Nat.le_trans H4.out.1.size (Nat.le_trans H7.out.2.1.size hb8.size))
          have HSp := Lib.hid hSp
          obtain ⟨x0, x1, lX⟩ := two_of2 (kept hb8 HXJ.out)
          have H8 := Lib.hid (And.intro hb8 (And.intro (kept hb8 HXS.out) (H7.out.2.2.2.2.2.2.2.1.later hb8)))
          clear hSp hb8
          refine ‹∀ (a : Act) (w_1 : World), _ → _› _ _ ?_
          go_wp2_with fail
          refine HSp.out.mono ?_
          rintro e W9 ⟨rfl, b9, k9⟩
          clear x0 x1 lX
          have h45 := H6.out.2.2.2.2.2.2
          have hS9 := H8.out.2.2.above (fun b h1 h2 => k9 b h1 h2)
          have hX9 : W9.heap[W5.heap.size]? = some (.cells #[.slice n3 l3 m3, .slice n4 l4 m4] 25 (0, 0)) := (k9 _ h45 (lt_of_block H8.out.2.1)).trans H8.out.2.1
          have h24 := H4.out.1.size
          have h28 := (later_trans H7.out.2.2.2.2.2.2.2.2 H8.out.1).trans b9
          have hSq := spoil_any hS9 (Nat.le_trans H7.out.2.1.size (Nat.le_trans H8.out.1.size b9.size))
          have HSq := Lib.hid hSq
          have H9 := Lib.hid (And.intro h28 h24)
          obtain ⟨x0, x1, lX⟩ := two_of2 hX9
          clear hSq hS9 hX9 h28 h24 h45 b9 k9
          go_wp2_with fail
          refine HSq.out.mono ?_
          rintro e W10 ⟨rfl, b10⟩
          clear x0 x1 lX
          have b210 := H9.out.1.trans (b10.mono H9.out.2)
          have hbw10 := later_trans HC.out.2.2.2.2.1 b210
          have HX10 := Lib.hid (kept b210 HC.out.2.2.1)
          have HY10 := Lib.hid (kept b210 HC.out.2.2.2.1)
          have HZ10 := Lib.hid (kept b210 HC.out.2.2.2.2.2.1)
          have HW10 := Lib.hid (kept b210 HC.out.2.2.2.2.2.2.1)
          have HO82 : Hid (∀ W, Below W10.heap.size W10 W → Calls Try.prog 11 #[relV (.slice a1 A.vars.length c1) (.slice a2 A.rows.length c2)] W fun e w' => ∃ v1 v2, e = .returned (relV v1 v2) ∧ OwnRl W.heap.size w' v1 v2 A' ∧ Below W.heap.size W w') := Lib.hid (fun W hb => by rw [← HC.out.2.2.2.2.2.2.2.2.2.2.1]; exact ownR_any _ _ A W (H0.out.1.later (later_trans hbw10 hb)))
          have HO87 : Hid (∀ W, Below W10.heap.size W10 W → Calls Try.prog 11 #[relV (.slice a3 B.vars.length c3) (.slice a4 B.rows.length c4)] W fun e w' => ∃ v1 v2, e = .returned (relV v1 v2) ∧ OwnRl W.heap.size w' v1 v2 B' ∧ Below W.heap.size W w') := Lib.hid (fun W hb => by rw [← HC.out.2.2.2.2.2.2.2.2.2.2.2]; exact ownR_any _ _ B W (H0.out.2.1.later (later_trans hbw10 hb)))
          have HS83 : Hid (∀ W v1 v2, Below W10.heap.size W10 W → OwnRl W10.heap.size W v1 v2 A' → Calls Try.prog 17 #[relV (.slice p1 A'.vars.length k1) (.slice p2 A'.rows.length k2), relV v1 v2] W fun e w' => e = .returned (.bool true) ∧ Below W.heap.size W w') := Lib.hid (fun W v1 v2 hb hO => by
            have := SameR_any _ _ _ _ A' A' W (HC.out.1.later (later_trans b210 hb)) hO.rlR
            rwa [decide_eq_true rfl] at this)
          have HS88 : Hid (∀ W v1 v2, Below W10.heap.size W10 W → OwnRl W10.heap.size W v1 v2 B' → Calls Try.prog 17 #[relV (.slice p3 B'.vars.length k3) (.slice p4 B'.rows.length k4), relV v1 v2] W fun e w' => e = .returned (.bool true) ∧ Below W.heap.size W w') := Lib.hid (fun W v1 v2 hb hO => by
            have := SameR_any _ _ _ _ B' B' W (HC.out.2.1.later (later_trans b210 hb)) hO.rlR
            rwa [decide_eq_true rfl] at this)
          have H10 := Lib.hid hbw10
          clear b210 hbw10 b10
          go_upto_region 12 with fail
          generalize hFr : Act.mk _ _ = a0
          have e2 : a0.eval (.tmp 2) = .pointer (some ⟨w.heap.size, 0, none⟩) := by rw [← hFr]; rfl
          have e3 : a0.eval (.tmp 3) = .pointer (some ⟨w.heap.size + 1, 0, none⟩) := by rw [← hFr]; rfl
          have e5 : a0.eval (.tmp 5) = .pointer (some ⟨X, 0, none⟩) := by rw [← hFr]; rfl
          have e6 : a0.eval (.tmp 6) = .pointer (some ⟨Y, 0, none⟩) := by rw [← hFr]; rfl
          have hsz : 89 < a0.tmps.size := by rw [← hFr]; exact Nat.le_of_ble_eq_true rfl
          have HFr := Lib.hid hFr
          clear hFr
          obtain ⟨R, hR⟩ : ∃ R : Nat → Value → World → Prop, R = fun j v w' => if j = 2 then (∃ v1 v2, v = relV v1 v2 ∧ OwnRl W10.heap.size w' v1 v2 A') else if j = 7 then (∃ v1 v2, v = relV v1 v2 ∧ OwnRl W10.heap.size w' v1 v2 B') else v = ([relV (.slice p1 A'.vars.length k1) (.slice p2 A'.rows.length k2), relV (.slice a1 A.vars.length c1) (.slice a2 A.rows.length c2), undef, .bool true, .bool true, relV (.slice p3 B'.vars.length k3) (.slice p4 B'.rows.length k4), relV (.slice a3 B.vars.length c3) (.slice a4 B.rows.length c4), undef, .bool true, .bool true, .bool true] : List Value).getD j undef := ⟨_, rfl⟩
          have hmono : ∀ j v U V, R j v U → Below U.heap.size U V → R j v V := by
            rw [hR]
            intro j v U V h hb
            by_cases e2 : j = 2
            · simp only [if_pos e2] at h ⊢
              obtain ⟨v1, v2, e1, e2⟩ := h
              exact ⟨v1, v2, e1, e2.later hb⟩
            by_cases e7 : j = 7
            · simp only [if_neg e2, if_pos e7] at h ⊢
              obtain ⟨v1, v2, e1, e2⟩ := h
              exact ⟨v1, v2, e1, e2.later hb⟩
            simp only [if_neg e2, if_neg e7] at h ⊢
            exact h
          have r0 : ∀ v w', R 0 v w' = (v = relV (.slice p1 A'.vars.length k1) (.slice p2 A'.rows.length k2)) := fun v w' => by rw [hR]; rfl
          have r1 : ∀ v w', R 1 v w' = (v = relV (.slice a1 A.vars.length c1) (.slice a2 A.rows.length c2)) := fun v w' => by rw [hR]; rfl
          have r2 : ∀ v w', R 2 v w' = (∃ v1 v2, v = relV v1 v2 ∧ OwnRl W10.heap.size w' v1 v2 A') := fun v w' => by rw [hR]; rfl
          have r3 : ∀ v w', R 3 v w' = (v = .bool true) := fun v w' => by rw [hR]; rfl
          have r4 : ∀ v w', R 4 v w' = (v = .bool true) := fun v w' => by rw [hR]; rfl
          have r5 : ∀ v w', R 5 v w' = (v = relV (.slice p3 B'.vars.length k3) (.slice p4 B'.rows.length k4)) := fun v w' => by rw [hR]; rfl
          have r6 : ∀ v w', R 6 v w' = (v = relV (.slice a3 B.vars.length c3) (.slice a4 B.rows.length c4)) := fun v w' => by rw [hR]; rfl
          have r7 : ∀ v w', R 7 v w' = (∃ v1 v2, v = relV v1 v2 ∧ OwnRl W10.heap.size w' v1 v2 B') := fun v w' => by rw [hR]; rfl
          have r8 : ∀ v w', R 8 v w' = (v = .bool true) := fun v w' => by rw [hR]; rfl
          have r9 : ∀ v w', R 9 v w' = (v = .bool true) := fun v w' => by rw [hR]; rfl
          have r10 : ∀ v w', R 10 v w' = (v = .bool true) := fun v w' => by rw [hR]; rfl
          clear hR
          have hinj : ∀ i, i < 11 → ∀ j, j < 11 → j ≠ i → (fun k : Nat => ([80, 81, 82, 83, 84, 85, 86, 87, 88, 89, 4] : List Nat).getD k 0) j ≠ (fun k : Nat => ([80, 81, 82, 83, 84, 85, 86, 87, 88, 89, 4] : List Nat).getD k 0) i := by decide
          refine Inv.wp_region_inv (J := fun L a w' => Fx 11 a0 [80, 81, 82, 83, 84, 85, 86, 87, 88, 89, 4] W10 (fun k : Nat => ([80, 81, 82, 83, 84, 85, 86, 87, 88, 89, 4] : List Nat).getD k 0) R L a w') (by kernel_rfl) (by kernel_rfl) (Fx.start _) ?_ ?_
          · rintro L a w' i op hF h0 hop hall
            have hi : i < 11 := (Array.getElem?_eq_some_iff.1 hop).1
            refine Inv.wpOp_of hop ?_
            have hsA := hF.ag.size
            have hb := hF.bel
            have hcase : i = 0 ∨ i = 1 ∨ i = 2 ∨ i = 3 ∨ i = 4 ∨ i = 5 ∨ i = 6 ∨ i = 7 ∨ i = 8 ∨ i = 9 ∨ i = 10 := by omega
            rcases hcase with rfl | rfl | rfl | rfl | rfl | rfl | rfl | rfl | rfl | rfl | rfl
            · obtain rfl := (Option.some.inj hop).symm
              have y5 := at_slot ((hF.ag.eval (s := 5) (by decide)).trans e5)
              obtain ⟨kk0, kk1, lc⟩ := two_of2 (kept hb HX10.out)
              have hs0 : 80 < a.tmps.size := by omega
              have HF := Lib.hid hF
              clear hsA
              go_simp
              exact hF.step (i := 0) (d := 80) (v := relV (.slice p1 A'.vars.length k1) (.slice p2 A'.rows.length k2)) (w' := w') (hinj 0 (by decide)) hmono h0 (by decide) hs0 rfl (later_refl _) (by rw [r0])
            · obtain rfl := (Option.some.inj hop).symm
              have y2 := at_slot ((hF.ag.eval (s := 2) (by decide)).trans e2)
              obtain ⟨kk0, kk1, lc⟩ := two_of2 (kept hb HZ10.out)
              have hs0 : 81 < a.tmps.size := by omega
              have HF := Lib.hid hF
              clear hsA
              go_simp
              exact hF.step (i := 1) (d := 81) (v := relV (.slice a1 A.vars.length c1) (.slice a2 A.rows.length c2)) (w' := w') (hinj 1 (by decide)) hmono h0 (by decide) hs0 rfl (later_refl _) (by rw [r1])
            · obtain rfl := (Option.some.inj hop).symm
              have d1 : L.getD 1 false = true := hall ⟨1, .data⟩ (by simp) rfl
              have h1 := hF.val 1 (by decide) d1
              rw [r1] at h1
              have y81 := at_slot (s := 81) h1
              clear h1 d1
              try simp only [Nat.reduceAdd] at y81
              have hs0 : 82 < a.tmps.size := by omega
              have hC := HO82.out w' hb
              have hbs := hb.size
              clear hsA
              go_simp
              refine hC.mono ?_
              rintro e w9 ⟨v1, v2, rfl, hO, hb9⟩
              exact hF.step (i := 2) (d := 82) (v := relV v1 v2) (w' := w9) (hinj 2 (by decide)) hmono h0 (by decide) hs0 rfl hb9 (by rw [r2]; exact ⟨v1, v2, rfl, hO.down hbs⟩)
            · obtain rfl := (Option.some.inj hop).symm
              have d0 : L.getD 0 false = true := hall ⟨0, .data⟩ (by simp) rfl
              have h0 := hF.val 0 (by decide) d0
              rw [r0] at h0
              have y80 := at_slot (s := 80) h0
              clear h0 d0
              try simp only [Nat.reduceAdd] at y80
              have d2 : L.getD 2 false = true := hall ⟨2, .data⟩ (by simp) rfl
              have h2 := hF.val 2 (by decide) d2
              rw [r2] at h2
              obtain ⟨w1, w2, q2, o2⟩ := h2
              have y82 := at_slot (s := 82) q2
              try simp only [Nat.reduceAdd] at y82
              have hs0 : 83 < a.tmps.size := by omega
              have hC := HS83.out w' w1 w2 hb o2
              obtain ⟨p1, q1, p2, q2, rfl, rfl⟩ := o2.shape
              clear q2 o2 d2
              clear hsA
              have HF := Lib.hid hF
              clear hb
              go_simp
              refine hC.mono ?_
              rintro e w9 ⟨rfl, hb9⟩
              exact hF.step (i := 3) (d := 83) (v := .bool true) (w' := w9) (hinj 3 (by decide)) hmono h0 (by decide) hs0 rfl hb9 (by rw [r3])
            · obtain rfl := (Option.some.inj hop).symm
              have d3 : L.getD 3 false = true := hall ⟨3, .data⟩ (by simp) rfl
              have h3 := hF.val 3 (by decide) d3
              rw [r3] at h3
              have y83 := at_slot (s := 83) h3
              clear h3 d3
              try simp only [Nat.reduceAdd] at y83
              have hs0 : 84 < a.tmps.size := by omega
              have HF := Lib.hid hF
              clear hsA
              go_simp
              exact hF.step (i := 4) (d := 84) (v := .bool true) (w' := w') (hinj 4 (by decide)) hmono h0 (by decide) hs0 rfl (later_refl _) (by rw [r4])
            · obtain rfl := (Option.some.inj hop).symm
              have y6 := at_slot ((hF.ag.eval (s := 6) (by decide)).trans e6)
              have d4 : L.getD 4 false = true := hall ⟨4, .guard⟩ (by simp) rfl
              have h4 := hF.val 4 (by decide) d4
              rw [r4] at h4
              have y84 := at_some (s := 84) h4 (by show _ < a.tmps.size; omega)
              clear h4 d4
              try simp only [Nat.reduceAdd] at y84
              obtain ⟨kk0, kk1, lc⟩ := two_of2 (kept hb HY10.out)
              have hs0 : 85 < a.tmps.size := by omega
              have HF := Lib.hid hF
              clear hsA
              go_simp
              exact hF.step (i := 5) (d := 85) (v := relV (.slice p3 B'.vars.length k3) (.slice p4 B'.rows.length k4)) (w' := w') (hinj 5 (by decide)) hmono h0 (by decide) hs0 rfl (later_refl _) (by rw [r5])
            · obtain rfl := (Option.some.inj hop).symm
              have y3 := at_slot ((hF.ag.eval (s := 3) (by decide)).trans e3)
              have d4 : L.getD 4 false = true := hall ⟨4, .guard⟩ (by simp) rfl
              have h4 := hF.val 4 (by decide) d4
              rw [r4] at h4
              have y84 := at_some (s := 84) h4 (by show _ < a.tmps.size; omega)
              clear h4 d4
              try simp only [Nat.reduceAdd] at y84
              obtain ⟨kk0, kk1, lc⟩ := two_of2 (kept hb HW10.out)
              have hs0 : 86 < a.tmps.size := by omega
              have HF := Lib.hid hF
              clear hsA
              go_simp
              exact hF.step (i := 6) (d := 86) (v := relV (.slice a3 B.vars.length c3) (.slice a4 B.rows.length c4)) (w' := w') (hinj 6 (by decide)) hmono h0 (by decide) hs0 rfl (later_refl _) (by rw [r6])
            · obtain rfl := (Option.some.inj hop).symm
              have d6 : L.getD 6 false = true := hall ⟨6, .data⟩ (by simp) rfl
              have h6 := hF.val 6 (by decide) d6
              rw [r6] at h6
              have y86 := at_slot (s := 86) h6
              clear h6 d6
              try simp only [Nat.reduceAdd] at y86
              have d4 : L.getD 4 false = true := hall ⟨4, .guard⟩ (by simp) rfl
              have h4 := hF.val 4 (by decide) d4
              rw [r4] at h4
              have y84 := at_some (s := 84) h4 (by show _ < a.tmps.size; omega)
              clear h4 d4
              try simp only [Nat.reduceAdd] at y84
              have hs0 : 87 < a.tmps.size := by omega
              have hC := HO87.out w' hb
              have hbs := hb.size
              clear hsA
              go_simp
              refine hC.mono ?_
              rintro e w9 ⟨v1, v2, rfl, hO, hb9⟩
              exact hF.step (i := 7) (d := 87) (v := relV v1 v2) (w' := w9) (hinj 7 (by decide)) hmono h0 (by decide) hs0 rfl hb9 (by rw [r7]; exact ⟨v1, v2, rfl, hO.down hbs⟩)
            · obtain rfl := (Option.some.inj hop).symm
              have d5 : L.getD 5 false = true := hall ⟨5, .data⟩ (by simp) rfl
              have h5 := hF.val 5 (by decide) d5
              rw [r5] at h5
              have y85 := at_slot (s := 85) h5
              clear h5 d5
              try simp only [Nat.reduceAdd] at y85
              have d7 : L.getD 7 false = true := hall ⟨7, .data⟩ (by simp) rfl
              have h7 := hF.val 7 (by decide) d7
              rw [r7] at h7
              obtain ⟨w1, w2, q7, o7⟩ := h7
              have y87 := at_slot (s := 87) q7
              try simp only [Nat.reduceAdd] at y87
              have d4 : L.getD 4 false = true := hall ⟨4, .guard⟩ (by simp) rfl
              have h4 := hF.val 4 (by decide) d4
              rw [r4] at h4
              have y84 := at_some (s := 84) h4 (by show _ < a.tmps.size; omega)
              clear h4 d4
              try simp only [Nat.reduceAdd] at y84
              have hs0 : 88 < a.tmps.size := by omega
              have hC := HS88.out w' w1 w2 hb o7
              obtain ⟨p1, q1, p2, q2, rfl, rfl⟩ := o7.shape
              clear q7 o7 d7
              clear hsA
              have HF := Lib.hid hF
              clear hb
              go_simp
              refine hC.mono ?_
              rintro e w9 ⟨rfl, hb9⟩
              exact hF.step (i := 8) (d := 88) (v := .bool true) (w' := w9) (hinj 8 (by decide)) hmono h0 (by decide) hs0 rfl hb9 (by rw [r8])
            · obtain rfl := (Option.some.inj hop).symm
              have d4 : L.getD 4 false = true := hall ⟨4, .data⟩ (by simp) rfl
              have h4 := hF.val 4 (by decide) d4
              rw [r4] at h4
              have y84 := at_slot (s := 84) h4
              clear h4 d4
              try simp only [Nat.reduceAdd] at y84
              have d8 : L.getD 8 false = true := hall ⟨8, .data⟩ (by simp) rfl
              have h8 := hF.val 8 (by decide) d8
              rw [r8] at h8
              have y88 := at_slot (s := 88) h8
              clear h8 d8
              try simp only [Nat.reduceAdd] at y88
              have hs0 : 89 < a.tmps.size := by omega
              have HF := Lib.hid hF
              clear hsA
              go_simp
              exact hF.step (i := 9) (d := 89) (v := .bool true) (w' := w') (hinj 9 (by decide)) hmono h0 (by decide) hs0 rfl (later_refl _) (by rw [r9])
            · obtain rfl := (Option.some.inj hop).symm
              have d9 : L.getD 9 false = true := hall ⟨9, .data⟩ (by simp) rfl
              have h9 := hF.val 9 (by decide) d9
              rw [r9] at h9
              have y89 := at_slot (s := 89) h9
              clear h9 d9
              try simp only [Nat.reduceAdd] at y89
              have hs0 : 4 < a.tmps.size := by omega
              have HF := Lib.hid hF
              clear hsA
              go_simp
              exact hF.step (i := 10) (d := 4) (v := .bool true) (w' := w') (hinj 10 (by decide)) hmono h0 (by decide) hs0 rfl (later_refl _) (by rw [r10])
          · rintro L a w' hF hall
            have hv := hF.val 10 (by decide) (hall 10 (by decide))
            rw [r10] at hv
            have hv' : a.tmps.getD 4 undef = .bool true := hv
            have hact := hF.ag.act
            rw [← HFr.out] at hact
            simp only [List.foldl_cons, List.foldl_nil, hv'] at hact
            obtain ⟨z80, hz80⟩ : ∃ z, a.tmps.getD 80 undef = z := ⟨_, rfl⟩
            obtain ⟨z81, hz81⟩ : ∃ z, a.tmps.getD 81 undef = z := ⟨_, rfl⟩
            obtain ⟨z82, hz82⟩ : ∃ z, a.tmps.getD 82 undef = z := ⟨_, rfl⟩
            obtain ⟨z83, hz83⟩ : ∃ z, a.tmps.getD 83 undef = z := ⟨_, rfl⟩
            obtain ⟨z84, hz84⟩ : ∃ z, a.tmps.getD 84 undef = z := ⟨_, rfl⟩
            obtain ⟨z85, hz85⟩ : ∃ z, a.tmps.getD 85 undef = z := ⟨_, rfl⟩
            obtain ⟨z86, hz86⟩ : ∃ z, a.tmps.getD 86 undef = z := ⟨_, rfl⟩
            obtain ⟨z87, hz87⟩ : ∃ z, a.tmps.getD 87 undef = z := ⟨_, rfl⟩
            obtain ⟨z88, hz88⟩ : ∃ z, a.tmps.getD 88 undef = z := ⟨_, rfl⟩
            obtain ⟨z89, hz89⟩ : ∃ z, a.tmps.getD 89 undef = z := ⟨_, rfl⟩
            rw [hz80, hz81, hz82, hz83, hz84, hz85, hz86, hz87, hz88, hz89] at hact
            simp only [List.setIfInBounds_toArray, List.set_cons_zero, List.set_cons_succ] at hact
            clear hz80 hz81 hz82 hz83 hz84 hz85 hz86 hz87 hz88 hz89
            have HE := Lib.hid hF.bel
            clear hF hall hv hv' hinj hmono hsz r0 r1 r2 r3 r4 r5 r6 r7 r8 r9 r10 e2 e3 e5 e6
            subst hact
            clear HFr
            go_wp2_with fail
            go_ret
            exact ⟨rfl, later_trans H10.out HE.out⟩
end Go.Proofs.Ytdeiinfljfgmeaa
