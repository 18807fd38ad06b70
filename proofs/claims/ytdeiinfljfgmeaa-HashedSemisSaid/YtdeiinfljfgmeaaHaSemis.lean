/-
  HashedSemis, walked: Semi is the join, seen in the first one's columns; what is left matches.
-/
import Derived.Deep.RegionHeld3
import Derived.Deep.RegionLaw
import Derived.Deep.DeepCutAuto
import Derived.Test.YtdeiinfljfgmeaaHaJn
import Derived.Test.YtdeiinfljfgmeaaHaTw2
namespace Go.Proofs.Ytdeiinfljfgmeaa
open Go.RowKit
set_option linter.unusedVariables false
set_option linter.unusedSimpArgs false

set_option maxRecDepth 100000 in
set_option maxHeartbeats 8000000 in
theorem semis_any (va ra vb rb : Value) (A B : Rl) (w : World) (hA : RlR w va ra A) (hB : RlR w vb rb B) :
    Calls Try.prog 7 #[relV va ra, relV vb rb] w fun e w' => e = .returned (.bool true) ∧ Below w.heap.size w w' := by
  obtain ⟨W0, hW0⟩ : ∃ W, W = (w.alloc (.cells #[va, ra] 25)).alloc (.cells #[vb, rb] 25) := ⟨_, rfl⟩
  have b0 : Below w.heap.size w W0 := by rw [hW0]; exact later_trans (later_alloc _ _) (later_alloc _ _)
  have bA : RB W0 w.heap.size va ra := by rw [hW0]; exact box_alloc (box_new _ _ _) _
  have bB : RB W0 (w.heap.size + 1) vb rb := by
    rw [hW0]
    have h := box_new (w.alloc (.cells #[va, ra] 25)) #[vb, rb] 25
    rw [World.size_alloc] at h
    exact h
  obtain ⟨a1, c1, rfl, -⟩ := hA.vars.open
  obtain ⟨a2, c2, rfl, -⟩ := hA.rows.open
  obtain ⟨a3, c3, rfl, -⟩ := hB.vars.open
  obtain ⟨a4, c4, rfl, -⟩ := hB.rows.open
  have H0 := Lib.hid (And.intro hA (And.intro hB (And.intro b0 (And.intro bA bB))))
  clear hA hB b0 bA bB
  go_enter Try.func7, Try.ntmps7
  go_wp2_with fail
  rw [← hW0]
  clear hW0
  refine (wakes_any W0).mono ?_
  rintro e W1 ⟨rfl, b1⟩
  have HB0 := Lib.hid (kept b1 H0.out.2.2.2.1)
  have HB1 := Lib.hid (kept b1 H0.out.2.2.2.2)
  have bw1 := later_trans H0.out.2.2.1 b1
  have HO0 : Hid (∀ W, Below W1.heap.size W1 W → Calls Try.prog 11 #[relV (.slice a1 A.vars.length c1) (.slice a2 A.rows.length c2)] W fun e w' => ∃ v1 v2, e = .returned (relV v1 v2) ∧ OwnRl W.heap.size w' v1 v2 (cutL A) ∧ Below W.heap.size W w') := Lib.hid (fun W hb => ownR_any _ _ A W (H0.out.1.later (later_trans bw1 hb)))
  have HO1 : Hid (∀ W, Below W1.heap.size W1 W → Calls Try.prog 11 #[relV (.slice a3 B.vars.length c3) (.slice a4 B.rows.length c4)] W fun e w' => ∃ v1 v2, e = .returned (relV v1 v2) ∧ OwnRl W.heap.size w' v1 v2 (cutL B) ∧ Below W.heap.size W w') := Lib.hid (fun W hb => ownR_any _ _ B W (H0.out.2.1.later (later_trans bw1 hb)))
  have H1 := Lib.hid bw1
  clear bw1 b1
  go_upto_region 3 with fail
  go_cut [5, 6] (fun s5 s6 wx => ∃ X Y v1 v2 u1 u2, s5 = .pointer (some ⟨X, 0, none⟩) ∧ s6 = .pointer (some ⟨Y, 0, none⟩) ∧ RB wx X v1 v2 ∧ OwnRl W1.heap.size wx v1 v2 (cutL A) ∧ RB wx Y u1 u2 ∧ OwnRl W1.heap.size wx u1 u2 (cutL B) ∧ Below W1.heap.size W1 wx)
  case first =>
    generalize hFr : Act.mk _ _ = a0
    have e2 : a0.eval (.tmp 2) = .pointer (some ⟨w.heap.size, 0, none⟩) := by rw [← hFr]; rfl
    have e3 : a0.eval (.tmp 3) = .pointer (some ⟨w.heap.size + 1, 0, none⟩) := by rw [← hFr]; rfl
    have hsz : 18 < a0.tmps.size := by rw [← hFr]; exact Nat.le_of_ble_eq_true rfl
    have HFr := Lib.hid hFr
    clear hFr
    obtain ⟨sl, hsl⟩ : ∃ sl : Nat → Nat, sl = (fun i => [15, 16, 17, 18, 5, 6].getD i 0) := ⟨_, rfl⟩
    have hink : ∀ i, i < 6 → ∀ j, j < 6 → i ≠ j → sl i ≠ sl j := by rw [hsl]; decide
    have hinj : ∀ i j, i < 6 → j < 6 → i ≠ j → sl i ≠ sl j := fun i j hi hj hne => hink i hi j hj hne
    have g0 : sl 0 = 15 := by rw [hsl]; rfl
    have g1 : sl 1 = 16 := by rw [hsl]; rfl
    have g2 : sl 2 = 17 := by rw [hsl]; rfl
    have g3 : sl 3 = 18 := by rw [hsl]; rfl
    have g4 : sl 4 = 5 := by rw [hsl]; rfl
    have g5 : sl 5 = 6 := by rw [hsl]; rfl
    clear hsl hink
    refine Inv.wp_region_inv (J := fun L a w' => Inv.Fa 8 a0 [5, 6, 15, 16, 17, 18] (twF W1.heap.size (.slice a1 A.vars.length c1) (.slice a2 A.rows.length c2) (.slice a3 B.vars.length c3) (.slice a4 B.rows.length c4) (cutL A) (cutL B) sl) L a w' ∧ Below W1.heap.size W1 w') (by kernel_rfl) (by kernel_rfl) ⟨Inv.Fa.start _, later_drew _⟩ ?_ ?_
    · rintro L a w' i op ⟨hF, hb⟩ h0 hop hall
      have hi : i < 8 := (Array.getElem?_eq_some_iff.1 hop).1
      refine Inv.wpOp_of hop ?_
      have hcase : i = 0 ∨ i = 1 ∨ i = 2 ∨ i = 3 ∨ i = 4 ∨ i = 5 ∨ i = 6 ∨ i = 7 := by omega
      have hbs := hb.size
      have hsA := hF.ag.size
      rcases hcase with rfl | rfl | rfl | rfl | rfl | rfl | rfl | rfl
      · obtain rfl := (Option.some.inj hop).symm
        have y : a.tmps[2]?.getD undef = .pointer (some ⟨w.heap.size, 0, none⟩) := by have h := (hF.ag.eval (s := 2) (by decide)).trans e2; simpa [Act.eval] using h
        obtain ⟨k0, k1, lc⟩ := two_of2 (kept hb HB0.out)
        have hs0 : 15 < a.tmps.size := by omega
        go_simp
        have := hF.step (i := 0) (d := 15) (v := relV (.slice a1 A.vars.length c1) (.slice a2 A.rows.length c2)) (w' := w') h0 (by decide) (fun j hj hne hl hf => by have := tw_read hinj (i := 0) (by decide) hj hne h0 hf (later_refl _) (relV (.slice a1 A.vars.length c1) (.slice a2 A.rows.length c2)); rwa [g0] at this) (show (a.put (some 15) (relV (.slice a1 A.vars.length c1) (.slice a2 A.rows.length c2))).eval (.tmp (sl 0)) = _ by rw [g0]; exact Inv.eval_put_same hs0 _)
        first | exact this | exact ⟨this, hb⟩
      · obtain rfl := (Option.some.inj hop).symm
        have d0 : L.getD 0 false = true := hall ⟨0, .data⟩ (by simp) rfl
        have y : a.tmps[15]?.getD undef = relV (.slice a1 A.vars.length c1) (.slice a2 A.rows.length c2) := by have h : a.eval (.tmp (sl 0)) = _ := hF.facts 0 (by decide) d0; rw [g0] at h; simpa [Act.eval] using h
        have hs0 : 16 < a.tmps.size := by omega
        have hC := HO0.out w' hb
        go_simp
        refine hC.mono ?_
        rintro e w9 ⟨v1, v2, rfl, hO, hb9⟩
        have := hF.step (i := 1) (d := 16) (v := relV v1 v2) (w' := w9) h0 (by decide) (fun j hj hne hl hf => by have := tw_read hinj (i := 1) (by decide) hj hne h0 hf hb9 (relV v1 v2); rwa [g1] at this) ⟨v1, v2, (by rw [g1]; exact Inv.eval_put_same hs0 _), hO.down hbs⟩
        exact ⟨this, later_trans hb hb9⟩
      · obtain rfl := (Option.some.inj hop).symm
        have y : a.tmps[3]?.getD undef = .pointer (some ⟨w.heap.size + 1, 0, none⟩) := by have h := (hF.ag.eval (s := 3) (by decide)).trans e3; simpa [Act.eval] using h
        obtain ⟨k0, k1, lc⟩ := two_of2 (kept hb HB1.out)
        have hs0 : 17 < a.tmps.size := by omega
        go_simp
        have := hF.step (i := 2) (d := 17) (v := relV (.slice a3 B.vars.length c3) (.slice a4 B.rows.length c4)) (w' := w') h0 (by decide) (fun j hj hne hl hf => by have := tw_read hinj (i := 2) (by decide) hj hne h0 hf (later_refl _) (relV (.slice a3 B.vars.length c3) (.slice a4 B.rows.length c4)); rwa [g2] at this) (show (a.put (some 17) (relV (.slice a3 B.vars.length c3) (.slice a4 B.rows.length c4))).eval (.tmp (sl 2)) = _ by rw [g2]; exact Inv.eval_put_same hs0 _)
        first | exact this | exact ⟨this, hb⟩
      · obtain rfl := (Option.some.inj hop).symm
        have d0 : L.getD 2 false = true := hall ⟨2, .data⟩ (by simp) rfl
        have y : a.tmps[17]?.getD undef = relV (.slice a3 B.vars.length c3) (.slice a4 B.rows.length c4) := by have h : a.eval (.tmp (sl 2)) = _ := hF.facts 2 (by decide) d0; rw [g2] at h; simpa [Act.eval] using h
        have hs0 : 18 < a.tmps.size := by omega
        have hC := HO1.out w' hb
        go_simp
        refine hC.mono ?_
        rintro e w9 ⟨v1, v2, rfl, hO, hb9⟩
        have := hF.step (i := 3) (d := 18) (v := relV v1 v2) (w' := w9) h0 (by decide) (fun j hj hne hl hf => by have := tw_read hinj (i := 3) (by decide) hj hne h0 hf hb9 (relV v1 v2); rwa [g3] at this) ⟨v1, v2, (by rw [g3]; exact Inv.eval_put_same hs0 _), hO.down hbs⟩
        exact ⟨this, later_trans hb hb9⟩
      · obtain rfl := (Option.some.inj hop).symm
        have hs0 : 5 < a.tmps.size := by omega
        go_simp
        have := tw_alloc4 hinj hF h0 (by rw [g4]; decide) hbs (by rw [g4]; exact hs0)
        rw [g4] at this
        exact ⟨this, later_trans hb (later_alloc _ _)⟩
      · obtain rfl := (Option.some.inj hop).symm
        have hs0 : 6 < a.tmps.size := by omega
        go_simp
        have := tw_alloc5 hinj hF h0 (by rw [g5]; decide) hbs (by rw [g5]; exact hs0)
        rw [g5] at this
        exact ⟨this, later_trans hb (later_alloc _ _)⟩
      · obtain rfl := (Option.some.inj hop).symm
        have dB : L.getD 4 false = true := hall ⟨4, .data⟩ (by simp) rfl
        have dV : L.getD 1 false = true := hall ⟨1, .data⟩ (by simp) rfl
        obtain ⟨X, eX, hX, h5, u1, u2, hR, -⟩ := hF.facts 4 (by decide) dB
        obtain ⟨v1, v2, eV, hO⟩ := hF.facts 1 (by decide) dV
        have hN := tw_store6 hF h0 dB eX hO
        have y1 : a.tmps[5]?.getD undef = .pointer (some ⟨X, 0, none⟩) := by rw [g4] at eX; simpa [Act.eval] using eX
        obtain ⟨p1, q1, p2, q2, rfl, rfl⟩ := hO.shape
        obtain ⟨n1, hn1⟩ : ∃ n, (cutL A).vars.length = n := ⟨_, rfl⟩
        obtain ⟨n2, hn2⟩ : ∃ n, (cutL A).rows.length = n := ⟨_, rfl⟩
        rw [hn1, hn2] at hN eV
        have y2 : a.tmps[16]?.getD undef = relV (.slice p1 n1 q1) (.slice p2 n2 q2) := by rw [g1] at eV; simpa [Act.eval] using eV
        obtain ⟨k0, k1, lc⟩ := two_of2 hR
        have f0 := box_frozen (i := 0) hR
        have f1 := box_frozen (i := 1) hR
        have HN := Lib.hid hN
        clear hN hO eV eX hR hsz hsA
        go_simp
        exact ⟨HN.out, below_set (below_set hb hX) hX⟩
      · obtain rfl := (Option.some.inj hop).symm
        have dB : L.getD 5 false = true := hall ⟨5, .data⟩ (by simp) rfl
        have dV : L.getD 3 false = true := hall ⟨3, .data⟩ (by simp) rfl
        obtain ⟨X, eX, hX, u1, u2, hR, -⟩ := hF.facts 5 (by decide) dB
        obtain ⟨v1, v2, eV, hO⟩ := hF.facts 3 (by decide) dV
        have hN := tw_store7 hF h0 dB eX hO
        have y1 : a.tmps[6]?.getD undef = .pointer (some ⟨X, 0, none⟩) := by rw [g5] at eX; simpa [Act.eval] using eX
        obtain ⟨p1, q1, p2, q2, rfl, rfl⟩ := hO.shape
        obtain ⟨n1, hn1⟩ : ∃ n, (cutL B).vars.length = n := ⟨_, rfl⟩
        obtain ⟨n2, hn2⟩ : ∃ n, (cutL B).rows.length = n := ⟨_, rfl⟩
        rw [hn1, hn2] at hN eV
        have y2 : a.tmps[18]?.getD undef = relV (.slice p1 n1 q1) (.slice p2 n2 q2) := by rw [g3] at eV; simpa [Act.eval] using eV
        obtain ⟨k0, k1, lc⟩ := two_of2 hR
        have f0 := box_frozen (i := 0) hR
        have f1 := box_frozen (i := 1) hR
        have HN := Lib.hid hN
        clear hN hO eV eX hR hsz hsA
        go_simp
        exact ⟨HN.out, below_set (below_set hb hX) hX⟩
    · rintro L a w' ⟨hF, hb⟩ hall
      obtain ⟨X, eX, hX, h5, u1, u2, hR, hO⟩ := hF.facts 4 (by decide) (hall 4 (by decide))
      obtain ⟨Y, eY, hY, x1, x2, hRY, hOY⟩ := hF.facts 5 (by decide) (hall 5 (by decide))
      have hact := hF.ag.act
      rw [g4] at eX
      rw [g5] at eY
      have eX' : a.tmps.getD 5 undef = .pointer (some ⟨X, 0, none⟩) := eX
      have eY' : a.tmps.getD 6 undef = .pointer (some ⟨Y, 0, none⟩) := eY
      rw [← HFr.out] at hact
      simp only [List.foldl_cons, List.foldl_nil, eX', eY'] at hact
      obtain ⟨z15, hz15⟩ : ∃ z, a.tmps.getD 15 undef = z := ⟨_, rfl⟩
      obtain ⟨z16, hz16⟩ : ∃ z, a.tmps.getD 16 undef = z := ⟨_, rfl⟩
      obtain ⟨z17, hz17⟩ : ∃ z, a.tmps.getD 17 undef = z := ⟨_, rfl⟩
      obtain ⟨z18, hz18⟩ : ∃ z, a.tmps.getD 18 undef = z := ⟨_, rfl⟩
      rw [hz15, hz16, hz17, hz18] at hact
      have HE := Lib.hid (And.intro hR (And.intro (hO (hall 6 (by decide))) (And.intro hRY (And.intro (hOY (hall 7 (by decide))) hb))))
      clear hF hall eX eY eX' eY' hR hO hRY hOY hb e2 e3 hsz h5 hinj hz15 hz16 hz17 hz18
      simp only [List.setIfInBounds_toArray, List.set_cons_zero, List.set_cons_succ] at hact
      subst hact
      clear HFr g0 g1 g2 g3 g4 g5
      go_wp2_with fail
      go_meet
      exact ⟨X, Y, _, _, _, _, rfl, rfl, HE.out.1, HE.out.2.1, HE.out.2.2.1, HE.out.2.2.2.1, HE.out.2.2.2.2⟩
  case rest =>
    obtain ⟨X, Y, v1, v2, u1, u2, rfl, rfl, hX, oA, hY, oB, hb⟩ := hcut
    obtain ⟨A', hA'⟩ : ∃ R, cutL A = R := ⟨_, rfl⟩
    obtain ⟨B', hB'⟩ : ∃ R, cutL B = R := ⟨_, rfl⟩
    have hsA := cutL_small A
    have hsB := cutL_small B
    rw [hA'] at oA hsA
    rw [hB'] at oB hsB
    have hf := small_fits hsA hsB
    have hf' := small_fits hsB hsA
    have hfA := small_fits hsA hsA
    have hJ1 := Semi_any _ _ _ _ A' B' wc oA.rlR oB.rlR
    obtain ⟨p1, k1, p2, k2, rfl, rfl⟩ := oA.shape
    obtain ⟨p3, k3, p4, k4, rfl, rfl⟩ := oB.shape
    obtain ⟨x0, x1, lX⟩ := two_of2 hX
    obtain ⟨y0, y1, lY⟩ := two_of2 hY
    have HJ1 := Lib.hid hJ1
    have HC := Lib.hid (And.intro oA.rlR (And.intro oB.rlR (And.intro hX (And.intro hY (And.intro (later_trans H1.out hb) (And.intro hf (And.intro hsA hsB)))))))
    clear hX oA hY oB hb hf hf' hfA hJ1 hsA hsB HO0 HO1 HB0 HB1 hA' hB'
    refine ‹∀ (a : Act) (w_1 : World), _ → _› _ _ ?_
    go_wp2_with fail
    refine HJ1.out.mono ?_
    rintro e W2 ⟨b2, j1, j2, no, rfl, hR1⟩
    cases hr : (rightB A' && rightB B') with
    | false =>
      obtain ⟨e0, e1, e2⟩ := hR1.wrong hr
      subst e0 e1 e2
      have hJ2 := Join_any _ _ _ _ A' B' (W2.alloc (.cells #[.slice none 0 0, .slice none 0 0] 25)) (HC.out.1.later (later_trans b2 (later_alloc _ _))) (HC.out.2.1.later (later_trans b2 (later_alloc _ _))) HC.out.2.2.2.2.2.1.1 HC.out.2.2.2.2.2.1.2
      have HJ2 := Lib.hid hJ2
      obtain ⟨x0', x1', lX'⟩ := two_of2 (kept b2 HC.out.2.2.1)
      obtain ⟨y0', y1', lY'⟩ := two_of2 (kept b2 HC.out.2.2.2.1)
      have H2 := Lib.hid (And.intro (later_trans HC.out.2.2.2.2.1 (later_trans b2 (later_alloc W2 (.cells #[.slice none 0 0, .slice none 0 0] 25)))) hr)
      clear hJ2 hR1 b2 hr x0 x1 y0 y1 lX lY
      go_wp2_with fail
      refine HJ2.out.mono ?_
      rintro e W3 ⟨b3, m1, m2, no, rfl, hR2⟩
      obtain ⟨e0, e1, e2⟩ := hR2.wrong H2.out.2
      subst e0 e1 e2
      have H3 := Lib.hid (later_trans H2.out.1 b3)
      clear b3 hR2 x0' x1' lX' y0' y1' lY'
      go_wp2_with fail
      go_ret
      exact ⟨rfl, later_trans H3.out (later_alloc _ _)⟩
    | true =>
      have hrA : rightB A' = true ∧ rightB B' = true := by simpa using hr
      obtain ⟨e0, oS⟩ := hR1.ok hrA.1 hrA.2
      subst e0
      obtain ⟨n1, m1, n2, m2, rfl, rfl⟩ := oS.shape
      have okA := Ok.of hrA.1 (U64.of HC.out.1)
      have okB := Ok.of hrA.2 (U64.of HC.out.2.1)
      have rAB := joinL_right hrA.1 hrA.2 HC.out.2.2.2.2.2.1.1 (Nat.le_succ_of_le HC.out.2.2.2.2.2.1.2)
      have rS := semi_right (B := B') hrA.1
      have eT := semi_seen okA okB
      have eS := semi_join okA okB
      have hOn : Once A'.vars := once_iff.2 okA.nod
      have hHs := has_joinA A' B'
      have hvl : A'.vars.length ≤ 1048576 := by have := HC.out.2.2.2.2.2.2.1.1; omega
      have hfs : (semiL A' B').vars.length + B'.vars.length ≤ 64 ∧ (semiL A' B').rows.length * B'.rows.length ≤ 1048575 := by
        refine small_fits ⟨HC.out.2.2.2.2.2.2.1.1, ?_⟩ HC.out.2.2.2.2.2.2.2
        exact Nat.le_trans (ofL_len _) (Nat.le_trans (List.length_filter_le _ _) HC.out.2.2.2.2.2.2.1.2)
      obtain ⟨AB, hAB⟩ : ∃ R, joinL A' B' = R := ⟨_, rfl⟩
      obtain ⟨SR, hSR⟩ : ∃ R, semiL A' B' = R := ⟨_, rfl⟩
      rw [hAB] at rAB eT eS hHs
      rw [hSR] at oS rS eT eS hfs
      rw [hSR]
      obtain ⟨W3, hW3⟩ : ∃ W, W = W2.alloc (.cells #[.slice n1 SR.vars.length m1, .slice n2 SR.rows.length m2] 25) := ⟨_, rfl⟩
      have b3 : Below W2.heap.size W2 W3 := by rw [hW3]; exact later_alloc _ _
      have hT7 : RB W3 W2.heap.size (.slice n1 SR.vars.length m1) (.slice n2 SR.rows.length m2) := by rw [hW3]; exact box_new _ _ _
      have b23 := later_trans b2 b3
      have HJ2 := Lib.hid (Join_any _ _ _ _ A' B' W3 (HC.out.1.later b23) (HC.out.2.1.later b23) HC.out.2.2.2.2.2.1.1 HC.out.2.2.2.2.2.1.2)
      obtain ⟨x0', x1', lX'⟩ := two_of2 (kept b2 HC.out.2.2.1)
      obtain ⟨y0', y1', lY'⟩ := two_of2 (kept b2 HC.out.2.2.2.1)
      have HP := Lib.hid (And.intro rAB (And.intro eT (And.intro eS (And.intro hOn (And.intro hHs (And.intro hvl (And.intro hfs (And.intro rS (And.intro hrA hAB)))))))))
      have H3 := Lib.hid (And.intro (HC.out.1.later b23) (And.intro (HC.out.2.1.later b23) (And.intro (oS.rlR.later b3) (And.intro (kept b23 HC.out.2.2.1) (And.intro (kept b23 HC.out.2.2.2.1) (And.intro hT7 (later_trans HC.out.2.2.2.2.1 b23)))))))
      clear x0 x1 y0 y1 lX lY okA okB rAB rS eT eS hOn hHs hvl hfs hAB hSR oS b3 hT7 b23 b2 hR1 hrA hr
      go_wp2_with fail
      rw [← hW3]
      clear hW3 x0' x1' lX' y0' y1' lY'
      refine HJ2.out.mono ?_
      rintro e W4 ⟨b4, j1, j2, no, rfl, hR2⟩
      obtain ⟨e0, oJ2⟩ := hR2.ok HP.out.2.2.2.2.2.2.2.2.1.1 HP.out.2.2.2.2.2.2.2.2.1.2
      subst e0
      rw [HP.out.2.2.2.2.2.2.2.2.2] at oJ2
      obtain ⟨n3, m3, n4, m4, rfl, rfl⟩ := oJ2.shape
      obtain ⟨W5, hW5⟩ : ∃ W, W = W4.alloc (.cells #[.slice n3 AB.vars.length m3, .slice n4 AB.rows.length m4] 25) := ⟨_, rfl⟩
      have b5 : Below W4.heap.size W4 W5 := by rw [hW5]; exact later_alloc _ _
      have hT9 : RB W5 W4.heap.size (.slice n3 AB.vars.length m3) (.slice n4 AB.rows.length m4) := by rw [hW5]; exact box_new _ _ _
      have b45 := later_trans b4 b5
      have HPr := Lib.hid (Project_any _ _ _ AB A'.vars W5 (oJ2.rlR.later b5) (SlI.later H3.out.1.vars b45) HP.out.2.2.2.2.2.1)
      obtain ⟨z0, z1, lZ⟩ := two_of2 (kept b4 H3.out.2.2.2.1)
      have H5 := Lib.hid (And.intro (H3.out.2.1.later b45) (And.intro (H3.out.2.2.1.later b45) (And.intro (oJ2.rlR.later b5) (And.intro (kept b45 H3.out.2.2.2.2.1) (And.intro (kept b45 H3.out.2.2.2.2.2.1) (And.intro hT9 (later_trans H3.out.2.2.2.2.2.2 b45)))))))
      have s4 := b4.size
      clear oJ2 b4 b5 b45 hT9 hR2
      go_wp2_with fail
      rw [← hW5]
      clear hW5 z0 z1 lZ
      refine HPr.out.mono ?_
      rintro e W6 ⟨b6, j1, j2, no, rfl, hR3⟩
      obtain ⟨e0, oT⟩ := hR3.ok HP.out.1 HP.out.2.2.2.1 HP.out.2.2.2.2.1
      subst e0
      rw [HP.out.2.1] at oT
      obtain ⟨n5, m5, n6, m6, rfl, rfl⟩ := oT.shape
      obtain ⟨W7, hW7⟩ : ∃ W, W = W6.alloc (.cells #[.slice n5 SR.vars.length m5, .slice n6 SR.rows.length m6] 25) := ⟨_, rfl⟩
      have b7 : Below W6.heap.size W6 W7 := by rw [hW7]; exact later_alloc _ _
      have hT11 : RB W7 W6.heap.size (.slice n5 SR.vars.length m5) (.slice n6 SR.rows.length m6) := by rw [hW7]; exact box_new _ _ _
      have b67 := later_trans b6 b7
      have HJ3 := Lib.hid (Join_any _ _ _ _ SR B' W7 (H5.out.2.1.later b67) (H5.out.1.later b67) HP.out.2.2.2.2.2.2.1.1 HP.out.2.2.2.2.2.2.1.2)
      obtain ⟨x0, x1, lX⟩ := two_of2 (kept b6 H5.out.2.2.2.2.1)
      obtain ⟨y0, y1, lY⟩ := two_of2 (kept b6 H5.out.2.2.2.1)
      have H7 := Lib.hid (And.intro (H5.out.2.1.later b67) (And.intro (H5.out.2.2.1.later b67) (And.intro (oT.rlR.later b7) (And.intro (kept b67 H5.out.2.2.2.2.1) (And.intro (kept b67 H5.out.2.2.2.2.2.1) (And.intro hT11 (later_trans H5.out.2.2.2.2.2.2 b67)))))))
      have s6 := b6.size
      clear oT b6 b7 b67 hT11 hR3
      go_wp2_with fail
      rw [← hW7]
      clear hW7 x0 x1 lX y0 y1 lY
      refine HJ3.out.mono ?_
      rintro e W8 ⟨b8, j1, j2, no, rfl, hR4⟩
      obtain ⟨e0, oS⟩ := hR4.ok HP.out.2.2.2.2.2.2.2.1 HP.out.2.2.2.2.2.2.2.2.1.2
      subst e0
      rw [HP.out.2.2.1] at oS
      obtain ⟨n7, m7, n8, m8, rfl, rfl⟩ := oS.shape
      obtain ⟨W9, hW9⟩ : ∃ W, W = W8.alloc (.cells #[.slice n7 AB.vars.length m7, .slice n8 AB.rows.length m8] 25) := ⟨_, rfl⟩
      have b9 : Below W8.heap.size W8 W9 := by rw [hW9]; exact later_alloc _ _
      have hT12 : RB W9 W8.heap.size (.slice n7 AB.vars.length m7) (.slice n8 AB.rows.length m8) := by rw [hW9]; exact box_new _ _ _
      have b89 := later_trans b8 b9
      have hSm := Same_any _ _ _ _ SR SR W9 (H7.out.2.2.1.later b89) (H7.out.1.later b89)
      rw [decide_eq_true rfl] at hSm
      have HSm := Lib.hid hSm
      obtain ⟨t0, t1, lT⟩ := two_of2 (kept b8 H7.out.2.2.2.2.2.1)
      obtain ⟨z0, z1, lZ⟩ := two_of2 (kept b8 H7.out.2.2.2.1)
      have H9 := Lib.hid (And.intro (H7.out.2.1.later b89) (And.intro (oS.rlR.later b9) (And.intro (kept b89 H7.out.2.2.2.2.1) (And.intro hT12 (later_trans H7.out.2.2.2.2.2.2 b89)))))
      have s8 := b8.size
      clear oS b8 b9 b89 hT12 hR4 hSm
      go_wp2_with fail
      rw [← hW9]
      clear hW9 t0 t1 lT z0 z1 lZ
      refine HSm.out.mono ?_
      rintro e W10 ⟨rfl, b10⟩
      have hSm2 := Same_any _ _ _ _ AB AB W10 (H9.out.2.1.later b10) (H9.out.1.later b10)
      rw [decide_eq_true rfl] at hSm2
      have HSm2 := Lib.hid hSm2
      obtain ⟨t0, t1, lT⟩ := two_of2 (kept b10 H9.out.2.2.2.1)
      obtain ⟨z0, z1, lZ⟩ := two_of2 (kept b10 H9.out.2.2.1)
      have H10 := Lib.hid (later_trans H9.out.2.2.2.2 b10)
      clear b10 hSm2
      go_wp2_with fail
      refine HSm2.out.mono ?_
      rintro e W11 ⟨rfl, b11⟩
      have H11 := Lib.hid (later_trans H10.out b11)
      clear b11 t0 t1 lT z0 z1 lZ
      go_wp2_with fail
      go_ret
      exact ⟨rfl, H11.out⟩
end Go.Proofs.Ytdeiinfljfgmeaa
