/-
  HashedOf, walked: which relations may be, are the same, and those of rows.
-/
import Derived.Deep.RegionHeld3
import Derived.Deep.RegionLaw
import Derived.Deep.DeepCutAuto
import Derived.Test.YtdeiinfljfgmeaaHaJn
import Derived.Test.YtdeiinfljfgmeaaHaTw2
import Derived.Test.YtdeiinfljfgmeaaFix
import Derived.Test.YtdeiinfljfgmeaaHaSpo
namespace Go.Proofs.Ytdeiinfljfgmeaa
open Go.RowKit
set_option linter.unusedVariables false
set_option linter.unusedSimpArgs false

theorem RlR.shape {W : World} {v1 v2 : Value} {R : Rl} (h : RlR W v1 v2 R) : ∃ a c b d, v1 = .slice a R.vars.length c ∧ v2 = .slice b R.rows.length d := by
  obtain ⟨a, c, e, -⟩ := h.vars.open
  obtain ⟨b, d, e', -⟩ := h.rows.open
  exact ⟨a, c, b, d, e, e'⟩
theorem badL_take {n k : Nat} {rs : List (List Int)} (h : k < rs.length) : badL n (rs.take (k + 1)) = (badL n (rs.take k) || decide (rs[k].length ≠ n)) := by
  unfold badL
  rw [List.take_succ_eq_append_getElem h, List.any_append]
  simp
theorem rl_of {w W : World} {base : Nat} {v1 v2 : Value} {vs : List Value} {R : Rl} (hv : SlI .i64 W v1 R.vars) (h : OldRows w base W v2 vs R.rows) (hb : Below w.heap.size w W) : RlR W v1 v2 R := ⟨hv, h.slR hb⟩
set_option maxRecDepth 100000 in
set_option maxHeartbeats 8000000 in
theorem lawOf_any (va ra vb rb : Value) (A B : Rl) (w : World) (hA : RlR w va ra A) (hB : RlR w vb rb B) :
    Calls Try.prog 8 #[relV va ra, relV vb rb] w fun e w' => e = .returned (.bool true) ∧ Below w.heap.size w w' := by
  obtain ⟨W0, hW0⟩ : ∃ W, W = (w.alloc (.cells #[va, ra] 25)).alloc (.cells #[vb, rb] 25) := ⟨_, rfl⟩
  have b0 : Below w.heap.size w W0 := by rw [hW0]; exact later_trans (later_alloc _ _) (later_alloc _ _)
  have bA : RB W0 w.heap.size va ra := by rw [hW0]; exact box_alloc (box_new _ _ _) _
  have bB : RB W0 (w.heap.size + 1) vb rb := by
    rw [hW0]
    have h := box_new (w.alloc (.cells #[va, ra] 25)) #[vb, rb] 25
    rw [World.size_alloc] at h
    exact h
  obtain ⟨a1, c1, rfl, -⟩ := hA.vars.open
  obtain ⟨a2, c2, rfl, -⟩ := hA.rows.open
  obtain ⟨a3, c3, rfl, -⟩ := hB.vars.open
  obtain ⟨a4, c4, rfl, -⟩ := hB.rows.open
  have H0 := Lib.hid (And.intro hA (And.intro hB (And.intro b0 (And.intro bA bB))))
  clear hA hB b0 bA bB
  go_enter Try.func8, Try.ntmps8
  go_wp2_with fail
  rw [← hW0]
  clear hW0
  refine (wakes_any W0).mono ?_
  rintro e W1 ⟨rfl, b1⟩
  have HB0 := Lib.hid (kept b1 H0.out.2.2.2.1)
  have HB1 := Lib.hid (kept b1 H0.out.2.2.2.2)
  have bw1 := later_trans H0.out.2.2.1 b1
  have HO0 : Hid (∀ W, Below W1.heap.size W1 W → Calls Try.prog 11 #[relV (.slice a1 A.vars.length c1) (.slice a2 A.rows.length c2)] W fun e w' => ∃ v1 v2, e = .returned (relV v1 v2) ∧ OwnRl W.heap.size w' v1 v2 (cutL A) ∧ Below W.heap.size W w') := Lib.hid (fun W hb => ownR_any _ _ A W (H0.out.1.later (later_trans bw1 hb)))
  have HO1 : Hid (∀ W, Below W1.heap.size W1 W → Calls Try.prog 11 #[relV (.slice a3 B.vars.length c3) (.slice a4 B.rows.length c4)] W fun e w' => ∃ v1 v2, e = .returned (relV v1 v2) ∧ OwnRl W.heap.size w' v1 v2 (cutL B) ∧ Below W.heap.size W w') := Lib.hid (fun W hb => ownR_any _ _ B W (H0.out.2.1.later (later_trans bw1 hb)))
  have H1 := Lib.hid bw1
  clear bw1 b1
  go_upto_region 3 with fail
  go_cut [5, 6] (fun s5 s6 wx => ∃ X Y v1 v2 u1 u2, s5 = .pointer (some ⟨X, 0, none⟩) ∧ s6 = .pointer (some ⟨Y, 0, none⟩) ∧ RB wx X v1 v2 ∧ OwnRl W1.heap.size wx v1 v2 (cutL A) ∧ RB wx Y u1 u2 ∧ OwnRl W1.heap.size wx u1 u2 (cutL B) ∧ Below W1.heap.size W1 wx)
  case first =>
    generalize hFr : Act.mk _ _ = a0
    have e2 : a0.eval (.tmp 2) = .pointer (some ⟨w.heap.size, 0, none⟩) := by rw [← hFr]; rfl
    have e3 : a0.eval (.tmp 3) = .pointer (some ⟨w.heap.size + 1, 0, none⟩) := by rw [← hFr]; rfl
    have hsz : 18 < a0.tmps.size := by rw [← hFr]; exact Nat.le_of_ble_eq_true rfl
    have HFr := Lib.hid hFr
    clear hFr
    obtain ⟨sl, hsl⟩ : ∃ sl : Nat → Nat, sl = (fun i => [15, 16, 17, 18, 5, 6].getD i 0) := ⟨_, rfl⟩
    have hink : ∀ i, i < 6 → ∀ j, j < 6 → i ≠ j → sl i ≠ sl j := by rw [hsl]; decide
    have hinj : ∀ i j, i < 6 → j < 6 → i ≠ j → sl i ≠ sl j := fun i j hi hj hne => hink i hi j hj hne
    have g0 : sl 0 = 15 := by rw [hsl]; rfl
    have g1 : sl 1 = 16 := by rw [hsl]; rfl
    have g2 : sl 2 = 17 := by rw [hsl]; rfl
    have g3 : sl 3 = 18 := by rw [hsl]; rfl
    have g4 : sl 4 = 5 := by rw [hsl]; rfl
    have g5 : sl 5 = 6 := by rw [hsl]; rfl
    clear hsl hink
    refine Inv.wp_region_inv (J := fun L a w' => Inv.Fa 8 a0 [5, 6, 15, 16, 17, 18] (twF W1.heap.size (.slice a1 A.vars.length c1) (.slice a2 A.rows.length c2) (.slice a3 B.vars.length c3) (.slice a4 B.rows.length c4) (cutL A) (cutL B) sl) L a w' ∧ Below W1.heap.size W1 w') (by kernel_rfl) (by kernel_rfl) ⟨Inv.Fa.start _, later_drew _⟩ ?_ ?_
    · rintro L a w' i op ⟨hF, hb⟩ h0 hop hall
      have hi : i < 8 := (Array.getElem?_eq_some_iff.1 hop).1
      refine Inv.wpOp_of hop ?_
      have hcase : i = 0 ∨ i = 1 ∨ i = 2 ∨ i = 3 ∨ i = 4 ∨ i = 5 ∨ i = 6 ∨ i = 7 := by omega
      have hbs := hb.size
      have hsA := hF.ag.size
      rcases hcase with rfl | rfl | rfl | rfl | rfl | rfl | rfl | rfl
      · obtain rfl := (Option.some.inj hop).symm
        have y : a.tmps[2]?.getD undef = .pointer (some ⟨w.heap.size, 0, none⟩) := by have h := (hF.ag.eval (s := 2) (by decide)).trans e2; simpa [Act.eval] using h
        obtain ⟨k0, k1, lc⟩ := two_of2 (kept hb HB0.out)
        have hs0 : 15 < a.tmps.size := by omega
        go_simp
        have := hF.step (i := 0) (d := 15) (v := relV (.slice a1 A.vars.length c1) (.slice a2 A.rows.length c2)) (w' := w') h0 (by decide) (fun j hj hne hl hf => by have := tw_read hinj (i := 0) (by decide) hj hne h0 hf (later_refl _) (relV (.slice a1 A.vars.length c1) (.slice a2 A.rows.length c2)); rwa [g0] at this) (show (a.put (some 15) (relV (.slice a1 A.vars.length c1) (.slice a2 A.rows.length c2))).eval (.tmp (sl 0)) = _ by rw [g0]; exact Inv.eval_put_same hs0 _)
        first | exact this | exact ⟨this, hb⟩
      · obtain rfl := (Option.some.inj hop).symm
        have d0 : L.getD 0 false = true := hall ⟨0, .data⟩ (by simp) rfl
        have y : a.tmps[15]?.getD undef = relV (.slice a1 A.vars.length c1) (.slice a2 A.rows.length c2) := by have h : a.eval (.tmp (sl 0)) = _ := hF.facts 0 (by decide) d0; rw [g0] at h; simpa [Act.eval] using h
        have hs0 : 16 < a.tmps.size := by omega
        have hC := HO0.out w' hb
        go_simp
        refine hC.mono ?_
        rintro e w9 ⟨v1, v2, rfl, hO, hb9⟩
        have := hF.step (i := 1) (d := 16) (v := relV v1 v2) (w' := w9) h0 (by decide) (fun j hj hne hl hf => by have := tw_read hinj (i := 1) (by decide) hj hne h0 hf hb9 (relV v1 v2); rwa [g1] at this) ⟨v1, v2, (by rw [g1]; exact Inv.eval_put_same hs0 _), hO.down hbs⟩
        exact ⟨this, later_trans hb hb9⟩
      · obtain rfl := (Option.some.inj hop).symm
        have y : a.tmps[3]?.getD undef = .pointer (some ⟨w.heap.size + 1, 0, none⟩) := by have h := (hF.ag.eval (s := 3) (by decide)).trans e3; simpa [Act.eval] using h
        obtain ⟨k0, k1, lc⟩ := two_of2 (kept hb HB1.out)
        have hs0 : 17 < a.tmps.size := by omega
        go_simp
        have := hF.step (i := 2) (d := 17) (v := relV (.slice a3 B.vars.length c3) (.slice a4 B.rows.length c4)) (w' := w') h0 (by decide) (fun j hj hne hl hf => by have := tw_read hinj (i := 2) (by decide) hj hne h0 hf (later_refl _) (relV (.slice a3 B.vars.length c3) (.slice a4 B.rows.length c4)); rwa [g2] at this) (show (a.put (some 17) (relV (.slice a3 B.vars.length c3) (.slice a4 B.rows.length c4))).eval (.tmp (sl 2)) = _ by rw [g2]; exact Inv.eval_put_same hs0 _)
        first | exact this | exact ⟨this, hb⟩
      · obtain rfl := (Option.some.inj hop).symm
        have d0 : L.getD 2 false = true := hall ⟨2, .data⟩ (by simp) rfl
        have y : a.tmps[17]?.getD undef = relV (.slice a3 B.vars.length c3) (.slice a4 B.rows.length c4) := by have h : a.eval (.tmp (sl 2)) = _ := hF.facts 2 (by decide) d0; rw [g2] at h; simpa [Act.eval] using h
        have hs0 : 18 < a.tmps.size := by omega
        have hC := HO1.out w' hb
        go_simp
        refine hC.mono ?_
        rintro e w9 ⟨v1, v2, rfl, hO, hb9⟩
        have := hF.step (i := 3) (d := 18) (v := relV v1 v2) (w' := w9) h0 (by decide) (fun j hj hne hl hf => by have := tw_read hinj (i := 3) (by decide) hj hne h0 hf hb9 (relV v1 v2); rwa [g3] at this) ⟨v1, v2, (by rw [g3]; exact Inv.eval_put_same hs0 _), hO.down hbs⟩
        exact ⟨this, later_trans hb hb9⟩
      · obtain rfl := (Option.some.inj hop).symm
        have hs0 : 5 < a.tmps.size := by omega
        go_simp
        have := tw_alloc4 hinj hF h0 (by rw [g4]; decide) hbs (by rw [g4]; exact hs0)
        rw [g4] at this
        exact ⟨this, later_trans hb (later_alloc _ _)⟩
      · obtain rfl := (Option.some.inj hop).symm
        have hs0 : 6 < a.tmps.size := by omega
        go_simp
        have := tw_alloc5 hinj hF h0 (by rw [g5]; decide) hbs (by rw [g5]; exact hs0)
        rw [g5] at this
        exact ⟨this, later_trans hb (later_alloc _ _)⟩
      · obtain rfl := (Option.some.inj hop).symm
        have dB : L.getD 4 false = true := hall ⟨4, .data⟩ (by simp) rfl
        have dV : L.getD 1 false = true := hall ⟨1, .data⟩ (by simp) rfl
        obtain ⟨X, eX, hX, h5, u1, u2, hR, -⟩ := hF.facts 4 (by decide) dB
        obtain ⟨v1, v2, eV, hO⟩ := hF.facts 1 (by decide) dV
        have hN := tw_store6 hF h0 dB eX hO
        have y1 : a.tmps[5]?.getD undef = .pointer (some ⟨X, 0, none⟩) := by rw [g4] at eX; simpa [Act.eval] using eX
        obtain ⟨p1, q1, p2, q2, rfl, rfl⟩ := hO.shape
        obtain ⟨n1, hn1⟩ : ∃ n, (cutL A).vars.length = n := ⟨_, rfl⟩
        obtain ⟨n2, hn2⟩ : ∃ n, (cutL A).rows.length = n := ⟨_, rfl⟩
        rw [hn1, hn2] at hN eV
        have y2 : a.tmps[16]?.getD undef = relV (.slice p1 n1 q1) (.slice p2 n2 q2) := by rw [g1] at eV; simpa [Act.eval] using eV
        obtain ⟨k0, k1, lc⟩ := two_of2 hR
        have f0 := box_frozen (i := 0) hR
        have f1 := box_frozen (i := 1) hR
        have HN := Lib.hid hN
        clear hN hO eV eX hR hsz hsA
        go_simp
        exact ⟨HN.out, below_set (below_set hb hX) hX⟩
      · obtain rfl := (Option.some.inj hop).symm
        have dB : L.getD 5 false = true := hall ⟨5, .data⟩ (by simp) rfl
        have dV : L.getD 3 false = true := hall ⟨3, .data⟩ (by simp) rfl
        obtain ⟨X, eX, hX, u1, u2, hR, -⟩ := hF.facts 5 (by decide) dB
        obtain ⟨v1, v2, eV, hO⟩ := hF.facts 3 (by decide) dV
        have hN := tw_store7 hF h0 dB eX hO
        have y1 : a.tmps[6]?.getD undef = .pointer (some ⟨X, 0, none⟩) := by rw [g5] at eX; simpa [Act.eval] using eX
        obtain ⟨p1, q1, p2, q2, rfl, rfl⟩ := hO.shape
        obtain ⟨n1, hn1⟩ : ∃ n, (cutL B).vars.length = n := ⟨_, rfl⟩
        obtain ⟨n2, hn2⟩ : ∃ n, (cutL B).rows.length = n := ⟨_, rfl⟩
        rw [hn1, hn2] at hN eV
        have y2 : a.tmps[18]?.getD undef = relV (.slice p1 n1 q1) (.slice p2 n2 q2) := by rw [g3] at eV; simpa [Act.eval] using eV
        obtain ⟨k0, k1, lc⟩ := two_of2 hR
        have f0 := box_frozen (i := 0) hR
        have f1 := box_frozen (i := 1) hR
        have HN := Lib.hid hN
        clear hN hO eV eX hR hsz hsA
        go_simp
        exact ⟨HN.out, below_set (below_set hb hX) hX⟩
    · rintro L a w' ⟨hF, hb⟩ hall
      obtain ⟨X, eX, hX, h5, u1, u2, hR, hO⟩ := hF.facts 4 (by decide) (hall 4 (by decide))
      obtain ⟨Y, eY, hY, x1, x2, hRY, hOY⟩ := hF.facts 5 (by decide) (hall 5 (by decide))
      have hact := hF.ag.act
      rw [g4] at eX
      rw [g5] at eY
      have eX' : a.tmps.getD 5 undef = .pointer (some ⟨X, 0, none⟩) := eX
      have eY' : a.tmps.getD 6 undef = .pointer (some ⟨Y, 0, none⟩) := eY
      rw [← HFr.out] at hact
      simp only [List.foldl_cons, List.foldl_nil, eX', eY'] at hact
      obtain ⟨z15, hz15⟩ : ∃ z, a.tmps.getD 15 undef = z := ⟨_, rfl⟩
      obtain ⟨z16, hz16⟩ : ∃ z, a.tmps.getD 16 undef = z := ⟨_, rfl⟩
      obtain ⟨z17, hz17⟩ : ∃ z, a.tmps.getD 17 undef = z := ⟨_, rfl⟩
      obtain ⟨z18, hz18⟩ : ∃ z, a.tmps.getD 18 undef = z := ⟨_, rfl⟩
      rw [hz15, hz16, hz17, hz18] at hact
      have HE := Lib.hid (And.intro hR (And.intro (hO (hall 6 (by decide))) (And.intro hRY (And.intro (hOY (hall 7 (by decide))) hb))))
      clear hF hall eX eY eX' eY' hR hO hRY hOY hb e2 e3 hsz h5 hinj hz15 hz16 hz17 hz18
      simp only [List.setIfInBounds_toArray, List.set_cons_zero, List.set_cons_succ] at hact
      subst hact
      clear HFr g0 g1 g2 g3 g4 g5
      go_wp2_with fail
      go_meet
      exact ⟨X, Y, _, _, _, _, rfl, rfl, HE.out.1, HE.out.2.1, HE.out.2.2.1, HE.out.2.2.2.1, HE.out.2.2.2.2⟩
  case rest =>
    obtain ⟨X, Y, v1, v2, u1, u2, rfl, rfl, hX, oA, hY, oB, hb⟩ := hcut
    obtain ⟨A', hA'⟩ : ∃ R, cutL A = R := ⟨_, rfl⟩
    obtain ⟨B', hB'⟩ : ∃ R, cutL B = R := ⟨_, rfl⟩
    have hsA := cutL_small A
    have hsB := cutL_small B
    rw [hA'] at oA hsA
    rw [hB'] at oB hsB
    have hChk := Check_any _ _ A' wc oA.rlR
    obtain ⟨p1, k1, p2, k2, rfl, rfl⟩ := oA.shape
    obtain ⟨p3, k3, p4, k4, rfl, rfl⟩ := oB.shape
    obtain ⟨x0, x1, lX⟩ := two_of2 hX
    have HChk := Lib.hid hChk
    have hbw := later_trans H1.out hb
    have hxr := H0.out.1.later (later_trans H0.out.2.2.1 (Below.refl _ _))
    have HC := Lib.hid (And.intro oA.rlR (And.intro oB.rlR (And.intro hX (And.intro hY (And.intro hbw (And.intro (kept hb HB0.out) (And.intro hsA (And.intro hA' hb))))))))
    clear hX oA hY oB hb hChk hsA hsB HO0 HO1 HB0 HB1 hB' hbw hxr
    refine ‹∀ (a : Act) (w_1 : World), _ → _› _ _ ?_
    go_wp2_with fail
    refine HChk.out.mono ?_
    rintro e W5 ⟨rfl, b5⟩
    have hbw5 := later_trans HC.out.2.2.2.2.1 b5
    have HX5 := Lib.hid (kept b5 HC.out.2.2.1)
    have HY5 := Lib.hid (kept b5 HC.out.2.2.2.1)
    have HZ5 := Lib.hid (kept b5 HC.out.2.2.2.2.2.1)
    have hA5 := HC.out.1.later b5
    have hB5 := HC.out.2.1.later b5
    obtain ⟨sm, hsm⟩ : ∃ s, decide (A' = B') = s := ⟨_, rfl⟩
    obtain ⟨rg, hrg⟩ : ∃ r, rightB A' = r := ⟨_, rfl⟩
    have HR24 : Hid (∀ W, Below W5.heap.size W5 W → Calls Try.prog 13 #[relV (.slice p1 A'.vars.length k1) (.slice p2 A'.rows.length k2)] W fun e w' => e = .returned (.bool rg) ∧ Below W.heap.size W w') := Lib.hid (fun W hb => by rw [← hrg]; exact Right_any _ _ A' W (hA5.later hb))
    have HS37 : Hid (∀ W, Below W5.heap.size W5 W → Calls Try.prog 27 #[relV (.slice p1 A'.vars.length k1) (.slice p2 A'.rows.length k2), relV (.slice p3 B'.vars.length k3) (.slice p4 B'.rows.length k4)] W fun e w' => e = .returned (.bool sm) ∧ Below W.heap.size W w') := Lib.hid (fun W hb => by rw [← hsm]; exact Same_any _ _ _ _ A' B' W (hA5.later hb) (hB5.later hb))
    have HS40 : Hid (∀ W, Below W5.heap.size W5 W → Calls Try.prog 17 #[relV (.slice p1 A'.vars.length k1) (.slice p2 A'.rows.length k2), relV (.slice p3 B'.vars.length k3) (.slice p4 B'.rows.length k4)] W fun e w' => e = .returned (.bool sm) ∧ Below W.heap.size W w') := Lib.hid (fun W hb => by rw [← hsm]; exact SameR_any _ _ _ _ A' B' W (hA5.later hb) (hB5.later hb))
    have HO46 : Hid (∀ W, Below W5.heap.size W5 W → Calls Try.prog 11 #[relV (.slice a1 A.vars.length c1) (.slice a2 A.rows.length c2)] W fun e w' => ∃ v1 v2, e = .returned (relV v1 v2) ∧ OwnRl W.heap.size w' v1 v2 A' ∧ Below W.heap.size W w') := Lib.hid (fun W hb => by rw [← HC.out.2.2.2.2.2.2.2.1]; exact ownR_any _ _ A W (H0.out.1.later (later_trans hbw5 hb)))
    have HS47 : Hid (∀ W v1 v2, Below W5.heap.size W5 W → OwnRl W5.heap.size W v1 v2 A' → Calls Try.prog 27 #[relV (.slice p1 A'.vars.length k1) (.slice p2 A'.rows.length k2), relV v1 v2] W fun e w' => e = .returned (.bool true) ∧ Below W.heap.size W w') := Lib.hid (fun W v1 v2 hb hO => by
      have := Same_any _ _ _ _ A' A' W (hA5.later hb) hO.rlR
      rwa [decide_eq_true rfl] at this)
    have H5 := Lib.hid (And.intro hA5 (And.intro hbw5 (And.intro hrg (rightB_iff A').1)))
    rw [hrg]
    clear b5 hA5 hB5 hbw5 hsm hrg x0 x1 lX HChk
    cases rg with
    | true =>
      simp only [if_true]
      go_upto_region 5 with fail
      go_cut [49] (fun s49 wx => s49 = .bool false ∧ Below W5.heap.size W5 wx)
      case first =>
        generalize hFr : Act.mk _ _ = a0
        have e2 : a0.eval (.tmp 2) = .pointer (some ⟨w.heap.size, 0, none⟩) := by rw [← hFr]; rfl
        have e5 : a0.eval (.tmp 5) = .pointer (some ⟨X, 0, none⟩) := by rw [← hFr]; rfl
        have e6 : a0.eval (.tmp 6) = .pointer (some ⟨Y, 0, none⟩) := by rw [← hFr]; rfl
        have e7 : a0.eval (.tmp 7) = .int .i64 0 := by rw [← hFr]; rfl
        have hsz : 49 < a0.tmps.size := by rw [← hFr]; exact Nat.le_of_ble_eq_true rfl
        have HFr := Lib.hid hFr
        clear hFr
        obtain ⟨R, hR⟩ : ∃ R : Nat → Value → World → Prop, R = fun j v w' => if j = 25 then (∃ v1 v2, v = relV v1 v2 ∧ OwnRl W5.heap.size w' v1 v2 A') else v = ([.int .i64 0, .bool true, relV (.slice p1 A'.vars.length k1) (.slice p2 A'.rows.length k2), .bool true, .bool false, .bool false, .int .i64 0, .bool false, .bool false, undef, undef, .bool false, .bool false, .bool false, relV (.slice p1 A'.vars.length k1) (.slice p2 A'.rows.length k2), relV (.slice p3 B'.vars.length k3) (.slice p4 B'.rows.length k4), .bool sm, relV (.slice p1 A'.vars.length k1) (.slice p2 A'.rows.length k2), relV (.slice p3 B'.vars.length k3) (.slice p4 B'.rows.length k4), .bool sm, .bool false, .bool false, .bool false, relV (.slice p1 A'.vars.length k1) (.slice p2 A'.rows.length k2), relV (.slice a1 A.vars.length c1) (.slice a2 A.rows.length c2), undef, .bool true, .bool false, .bool false] : List Value).getD j undef := ⟨_, rfl⟩
        have hmono : ∀ j v U V, R j v U → Below U.heap.size U V → R j v V := by
          rw [hR]
          intro j v U V h hb
          by_cases e : j = 25
          · simp only [if_pos e] at h ⊢
            obtain ⟨v1, v2, e1, e2⟩ := h
            exact ⟨v1, v2, e1, e2.later hb⟩
          · simp only [if_neg e] at h ⊢
            exact h
        have r0 : ∀ v w', R 0 v w' = (v = .int .i64 0) := fun v w' => by rw [hR]; rfl
        have r1 : ∀ v w', R 1 v w' = (v = .bool true) := fun v w' => by rw [hR]; rfl
        have r2 : ∀ v w', R 2 v w' = (v = relV (.slice p1 A'.vars.length k1) (.slice p2 A'.rows.length k2)) := fun v w' => by rw [hR]; rfl
        have r3 : ∀ v w', R 3 v w' = (v = .bool true) := fun v w' => by rw [hR]; rfl
        have r4 : ∀ v w', R 4 v w' = (v = .bool false) := fun v w' => by rw [hR]; rfl
        have r5 : ∀ v w', R 5 v w' = (v = .bool false) := fun v w' => by rw [hR]; rfl
        have r6 : ∀ v w', R 6 v w' = (v = .int .i64 0) := fun v w' => by rw [hR]; rfl
        have r7 : ∀ v w', R 7 v w' = (v = .bool false) := fun v w' => by rw [hR]; rfl
        have r8 : ∀ v w', R 8 v w' = (v = .bool false) := fun v w' => by rw [hR]; rfl
        have r9 : ∀ v w', R 9 v w' = (v = undef) := fun v w' => by rw [hR]; rfl
        have r10 : ∀ v w', R 10 v w' = (v = undef) := fun v w' => by rw [hR]; rfl
        have r11 : ∀ v w', R 11 v w' = (v = .bool false) := fun v w' => by rw [hR]; rfl
        have r12 : ∀ v w', R 12 v w' = (v = .bool false) := fun v w' => by rw [hR]; rfl
        have r13 : ∀ v w', R 13 v w' = (v = .bool false) := fun v w' => by rw [hR]; rfl
        have r14 : ∀ v w', R 14 v w' = (v = relV (.slice p1 A'.vars.length k1) (.slice p2 A'.rows.length k2)) := fun v w' => by rw [hR]; rfl
        have r15 : ∀ v w', R 15 v w' = (v = relV (.slice p3 B'.vars.length k3) (.slice p4 B'.rows.length k4)) := fun v w' => by rw [hR]; rfl
        have r16 : ∀ v w', R 16 v w' = (v = .bool sm) := fun v w' => by rw [hR]; rfl
        have r17 : ∀ v w', R 17 v w' = (v = relV (.slice p1 A'.vars.length k1) (.slice p2 A'.rows.length k2)) := fun v w' => by rw [hR]; rfl
        have r18 : ∀ v w', R 18 v w' = (v = relV (.slice p3 B'.vars.length k3) (.slice p4 B'.rows.length k4)) := fun v w' => by rw [hR]; rfl
        have r19 : ∀ v w', R 19 v w' = (v = .bool sm) := fun v w' => by rw [hR]; rfl
        have r20 : ∀ v w', R 20 v w' = (v = .bool false) := fun v w' => by rw [hR]; rfl
        have r21 : ∀ v w', R 21 v w' = (v = .bool false) := fun v w' => by rw [hR]; rfl
        have r22 : ∀ v w', R 22 v w' = (v = .bool false) := fun v w' => by rw [hR]; rfl
        have r23 : ∀ v w', R 23 v w' = (v = relV (.slice p1 A'.vars.length k1) (.slice p2 A'.rows.length k2)) := fun v w' => by rw [hR]; rfl
        have r24 : ∀ v w', R 24 v w' = (v = relV (.slice a1 A.vars.length c1) (.slice a2 A.rows.length c2)) := fun v w' => by rw [hR]; rfl
        have r25 : ∀ v w', R 25 v w' = (∃ v1 v2, v = relV v1 v2 ∧ OwnRl W5.heap.size w' v1 v2 A') := fun v w' => by rw [hR]; rfl
        have r26 : ∀ v w', R 26 v w' = (v = .bool true) := fun v w' => by rw [hR]; rfl
        have r27 : ∀ v w', R 27 v w' = (v = .bool false) := fun v w' => by rw [hR]; rfl
        have r28 : ∀ v w', R 28 v w' = (v = .bool false) := fun v w' => by rw [hR]; rfl
        clear hR
        have hinj : ∀ i j : Nat, j ≠ i → (fun k : Nat => 21 + k) j ≠ (fun k : Nat => 21 + k) i := fun i j h e => h (by have e : 21 + j = 21 + i := e; omega)
        refine Inv.wp_region_inv (J := fun L a w' => Fx 29 a0 [21, 22, 23, 24, 25, 26, 27, 28, 29, 30, 31, 32, 33, 34, 35, 36, 37, 38, 39, 40, 41, 42, 43, 44, 45, 46, 47, 48, 49] W5 (fun k : Nat => 21 + k) R L a w') (by kernel_rfl) (by kernel_rfl) (Fx.start _) ?_ ?_
        · rintro L a w' i op hF h0 hop hall
          have hi : i < 29 := (Array.getElem?_eq_some_iff.1 hop).1
          refine Inv.wpOp_of hop ?_
          have hsA := hF.ag.size
          have hb := hF.bel
          have hcase : i = 0 ∨ i = 1 ∨ i = 2 ∨ i = 3 ∨ i = 4 ∨ i = 5 ∨ i = 6 ∨ i = 7 ∨ i = 8 ∨ i = 9 ∨ i = 10 ∨ i = 11 ∨ i = 12 ∨ i = 13 ∨ i = 14 ∨ i = 15 ∨ i = 16 ∨ i = 17 ∨ i = 18 ∨ i = 19 ∨ i = 20 ∨ i = 21 ∨ i = 22 ∨ i = 23 ∨ i = 24 ∨ i = 25 ∨ i = 26 ∨ i = 27 ∨ i = 28 := by omega
          rcases hcase with rfl | rfl | rfl | rfl | rfl | rfl | rfl | rfl | rfl | rfl | rfl | rfl | rfl | rfl | rfl | rfl | rfl | rfl | rfl | rfl | rfl | rfl | rfl | rfl | rfl | rfl | rfl | rfl | rfl
          · obtain rfl := (Option.some.inj hop).symm
            have y7 := at_slot ((hF.ag.eval (s := 7) (by decide)).trans e7)
            have hs0 : 21 < a.tmps.size := by omega
            have HF := Lib.hid hF
            clear hsA
            go_simp
            exact hF.step (i := 0) (d := 21) (v := .int .i64 0) (w' := w') (fun j _ hne => hinj 0 j hne) hmono h0 (by decide) hs0 rfl (later_refl _) (by rw [r0])
          · obtain rfl := (Option.some.inj hop).symm
            have d0 : L.getD 0 false = true := hall ⟨0, .data⟩ (by simp) rfl
            have h0 := hF.val 0 (by decide) d0
            rw [r0] at h0
            have y21 := at_slot (s := 21) h0
            clear h0 d0
            try simp only [Nat.reduceAdd] at y21
            have hs0 : 22 < a.tmps.size := by omega
            have HF := Lib.hid hF
            clear hsA
            go_simp
            exact hF.step (i := 1) (d := 22) (v := .bool true) (w' := w') (fun j _ hne => hinj 1 j hne) hmono h0 (by decide) hs0 rfl (later_refl _) (by rw [r1])
          · obtain rfl := (Option.some.inj hop).symm
            have y5 := at_slot ((hF.ag.eval (s := 5) (by decide)).trans e5)
            obtain ⟨kk0, kk1, lc⟩ := two_of2 (kept hb HX5.out)
            have hs0 : 23 < a.tmps.size := by omega
            have HF := Lib.hid hF
            clear hsA
            go_simp
            exact hF.step (i := 2) (d := 23) (v := relV (.slice p1 A'.vars.length k1) (.slice p2 A'.rows.length k2)) (w' := w') (fun j _ hne => hinj 2 j hne) hmono h0 (by decide) hs0 rfl (later_refl _) (by rw [r2])
          · obtain rfl := (Option.some.inj hop).symm
            have d2 : L.getD 2 false = true := hall ⟨2, .data⟩ (by simp) rfl
            have h2 := hF.val 2 (by decide) d2
            rw [r2] at h2
            have y23 := at_slot (s := 23) h2
            clear h2 d2
            try simp only [Nat.reduceAdd] at y23
            have hs0 : 24 < a.tmps.size := by omega
            have hC := HR24.out w' hb
            clear hsA
            have HF := Lib.hid hF
            clear hb
            go_simp
            refine hC.mono ?_
            rintro e w9 ⟨rfl, hb9⟩
            exact hF.step (i := 3) (d := 24) (v := .bool true) (w' := w9) (fun j _ hne => hinj 3 j hne) hmono h0 (by decide) hs0 rfl hb9 (by rw [r3])
          · obtain rfl := (Option.some.inj hop).symm
            have d1 : L.getD 1 false = true := hall ⟨1, .data⟩ (by simp) rfl
            have h1 := hF.val 1 (by decide) d1
            rw [r1] at h1
            have y22 := at_slot (s := 22) h1
            clear h1 d1
            try simp only [Nat.reduceAdd] at y22
            have d3 : L.getD 3 false = true := hall ⟨3, .data⟩ (by simp) rfl
            have h3 := hF.val 3 (by decide) d3
            rw [r3] at h3
            have y24 := at_slot (s := 24) h3
            clear h3 d3
            try simp only [Nat.reduceAdd] at y24
            have hs0 : 25 < a.tmps.size := by omega
            have HF := Lib.hid hF
            clear hsA
            go_simp
            exact hF.step (i := 4) (d := 25) (v := .bool false) (w' := w') (fun j _ hne => hinj 4 j hne) hmono h0 (by decide) hs0 rfl (later_refl _) (by rw [r4])
          · obtain rfl := (Option.some.inj hop).symm
            have d4 : L.getD 4 false = true := hall ⟨4, .data⟩ (by simp) rfl
            have h4 := hF.val 4 (by decide) d4
            rw [r4] at h4
            have y25 := at_slot (s := 25) h4
            clear h4 d4
            try simp only [Nat.reduceAdd] at y25
            have hs0 : 26 < a.tmps.size := by omega
            have HF := Lib.hid hF
            clear hsA
            go_simp
            exact hF.step (i := 5) (d := 26) (v := .bool false) (w' := w') (fun j _ hne => hinj 5 j hne) hmono h0 (by decide) hs0 rfl (later_refl _) (by rw [r5])
          · obtain rfl := (Option.some.inj hop).symm
            have y7 := at_slot ((hF.ag.eval (s := 7) (by decide)).trans e7)
            have d5 : L.getD 5 false = true := hall ⟨5, .guard⟩ (by simp) rfl
            have h5 := hF.val 5 (by decide) d5
            rw [r5] at h5
            have y26 := at_some (s := 26) h5 (by show _ < a.tmps.size; omega)
            clear h5 d5
            try simp only [Nat.reduceAdd] at y26
            have hs0 : 27 < a.tmps.size := by omega
            have HF := Lib.hid hF
            clear hsA
            go_simp
            exact hF.step (i := 6) (d := 27) (v := .int .i64 0) (w' := w') (fun j _ hne => hinj 6 j hne) hmono h0 (by decide) hs0 rfl (later_refl _) (by rw [r6])
          · obtain rfl := (Option.some.inj hop).symm
            have d6 : L.getD 6 false = true := hall ⟨6, .data⟩ (by simp) rfl
            have h6 := hF.val 6 (by decide) d6
            rw [r6] at h6
            have y27 := at_slot (s := 27) h6
            clear h6 d6
            try simp only [Nat.reduceAdd] at y27
            have d5 : L.getD 5 false = true := hall ⟨5, .guard⟩ (by simp) rfl
            have h5 := hF.val 5 (by decide) d5
            rw [r5] at h5
            have y26 := at_some (s := 26) h5 (by show _ < a.tmps.size; omega)
            clear h5 d5
            try simp only [Nat.reduceAdd] at y26
            have hs0 : 28 < a.tmps.size := by omega
            have HF := Lib.hid hF
            clear hsA
            go_simp
            exact hF.step (i := 7) (d := 28) (v := .bool false) (w' := w') (fun j _ hne => hinj 7 j hne) hmono h0 (by decide) hs0 rfl (later_refl _) (by rw [r7])
          · obtain rfl := (Option.some.inj hop).symm
            have d7 : L.getD 7 false = true := hall ⟨7, .data⟩ (by simp) rfl
            have h7 := hF.val 7 (by decide) d7
            rw [r7] at h7
            have y28 := at_slot (s := 28) h7
            clear h7 d7
            try simp only [Nat.reduceAdd] at y28
            have d5 : L.getD 5 false = true := hall ⟨5, .guard⟩ (by simp) rfl
            have h5 := hF.val 5 (by decide) d5
            rw [r5] at h5
            have y26 := at_some (s := 26) h5 (by show _ < a.tmps.size; omega)
            clear h5 d5
            try simp only [Nat.reduceAdd] at y26
            have hs0 : 29 < a.tmps.size := by omega
            have HF := Lib.hid hF
            clear hsA
            go_simp
            exact hF.step (i := 8) (d := 29) (v := .bool false) (w' := w') (fun j _ hne => hinj 8 j hne) hmono h0 (by decide) hs0 rfl (later_refl _) (by rw [r8])
          · obtain rfl := (Option.some.inj hop).symm
            have y7 := at_slot ((hF.ag.eval (s := 7) (by decide)).trans e7)
            have d8 : L.getD 8 false = true := hall ⟨8, .guard⟩ (by simp) rfl
            have h8 := hF.val 8 (by decide) d8
            rw [r8] at h8
            have y29 := at_some (s := 29) h8 (by show _ < a.tmps.size; omega)
            clear h8 d8
            try simp only [Nat.reduceAdd] at y29
            have hs0 : 30 < a.tmps.size := by omega
            have HF := Lib.hid hF
            clear hsA
            go_simp
            exact hF.step (i := 9) (d := 30) (v := undef) (w' := w') (fun j _ hne => hinj 9 j hne) hmono h0 (by decide) hs0 rfl (later_refl _) (by rw [r9])
          · obtain rfl := (Option.some.inj hop).symm
            have d9 : L.getD 9 false = true := hall ⟨9, .data⟩ (by simp) rfl
            have h9 := hF.val 9 (by decide) d9
            rw [r9] at h9
            have y30 := at_slot (s := 30) h9
            clear h9 d9
            try simp only [Nat.reduceAdd] at y30
            have d8 : L.getD 8 false = true := hall ⟨8, .guard⟩ (by simp) rfl
            have h8 := hF.val 8 (by decide) d8
            rw [r8] at h8
            have y29 := at_some (s := 29) h8 (by show _ < a.tmps.size; omega)
            clear h8 d8
            try simp only [Nat.reduceAdd] at y29
            have hs0 : 31 < a.tmps.size := by omega
            have HF := Lib.hid hF
            clear hsA
            go_simp
            exact hF.step (i := 10) (d := 31) (v := undef) (w' := w') (fun j _ hne => hinj 10 j hne) hmono h0 (by decide) hs0 rfl (later_refl _) (by rw [r10])
          · obtain rfl := (Option.some.inj hop).symm
            have d8 : L.getD 8 false = true := hall ⟨8, .data⟩ (by simp) rfl
            have h8 := hF.val 8 (by decide) d8
            rw [r8] at h8
            have y29 := at_slot (s := 29) h8
            clear h8 d8
            try simp only [Nat.reduceAdd] at y29
            have d10 : L.getD 10 false = true := hall ⟨10, .data⟩ (by simp) rfl
            have h10 := hF.val 10 (by decide) d10
            rw [r10] at h10
            have y31 := at_slot (s := 31) h10
            clear h10 d10
            try simp only [Nat.reduceAdd] at y31
            have d5 : L.getD 5 false = true := hall ⟨5, .guard⟩ (by simp) rfl
            have h5 := hF.val 5 (by decide) d5
            rw [r5] at h5
            have y26 := at_some (s := 26) h5 (by show _ < a.tmps.size; omega)
            clear h5 d5
            try simp only [Nat.reduceAdd] at y26
            have hs0 : 32 < a.tmps.size := by omega
            have HF := Lib.hid hF
            clear hsA
            go_simp
            exact hF.step (i := 11) (d := 32) (v := .bool false) (w' := w') (fun j _ hne => hinj 11 j hne) hmono h0 (by decide) hs0 rfl (later_refl _) (by rw [r11])
          · obtain rfl := (Option.some.inj hop).symm
            have d5 : L.getD 5 false = true := hall ⟨5, .data⟩ (by simp) rfl
            have h5 := hF.val 5 (by decide) d5
            rw [r5] at h5
            have y26 := at_slot (s := 26) h5
            clear h5 d5
            try simp only [Nat.reduceAdd] at y26
            have d11 : L.getD 11 false = true := hall ⟨11, .data⟩ (by simp) rfl
            have h11 := hF.val 11 (by decide) d11
            rw [r11] at h11
            have y32 := at_slot (s := 32) h11
            clear h11 d11
            try simp only [Nat.reduceAdd] at y32
            have hs0 : 33 < a.tmps.size := by omega
            have HF := Lib.hid hF
            clear hsA
            go_simp
            exact hF.step (i := 12) (d := 33) (v := .bool false) (w' := w') (fun j _ hne => hinj 12 j hne) hmono h0 (by decide) hs0 rfl (later_refl _) (by rw [r12])
          · obtain rfl := (Option.some.inj hop).symm
            have d12 : L.getD 12 false = true := hall ⟨12, .data⟩ (by simp) rfl
            have h12 := hF.val 12 (by decide) d12
            rw [r12] at h12
            have y33 := at_slot (s := 33) h12
            clear h12 d12
            try simp only [Nat.reduceAdd] at y33
            have hs0 : 34 < a.tmps.size := by omega
            have HF := Lib.hid hF
            clear hsA
            go_simp
            exact hF.step (i := 13) (d := 34) (v := .bool false) (w' := w') (fun j _ hne => hinj 13 j hne) hmono h0 (by decide) hs0 rfl (later_refl _) (by rw [r13])
          · obtain rfl := (Option.some.inj hop).symm
            have y5 := at_slot ((hF.ag.eval (s := 5) (by decide)).trans e5)
            have d13 : L.getD 13 false = true := hall ⟨13, .guard⟩ (by simp) rfl
            have h13 := hF.val 13 (by decide) d13
            rw [r13] at h13
            have y34 := at_some (s := 34) h13 (by show _ < a.tmps.size; omega)
            clear h13 d13
            try simp only [Nat.reduceAdd] at y34
            obtain ⟨kk0, kk1, lc⟩ := two_of2 (kept hb HX5.out)
            have hs0 : 35 < a.tmps.size := by omega
            have HF := Lib.hid hF
            clear hsA
            go_simp
            exact hF.step (i := 14) (d := 35) (v := relV (.slice p1 A'.vars.length k1) (.slice p2 A'.rows.length k2)) (w' := w') (fun j _ hne => hinj 14 j hne) hmono h0 (by decide) hs0 rfl (later_refl _) (by rw [r14])
          · obtain rfl := (Option.some.inj hop).symm
            have y6 := at_slot ((hF.ag.eval (s := 6) (by decide)).trans e6)
            have d13 : L.getD 13 false = true := hall ⟨13, .guard⟩ (by simp) rfl
            have h13 := hF.val 13 (by decide) d13
            rw [r13] at h13
            have y34 := at_some (s := 34) h13 (by show _ < a.tmps.size; omega)
            clear h13 d13
            try simp only [Nat.reduceAdd] at y34
            obtain ⟨kk0, kk1, lc⟩ := two_of2 (kept hb HY5.out)
            have hs0 : 36 < a.tmps.size := by omega
            have HF := Lib.hid hF
            clear hsA
            go_simp
            exact hF.step (i := 15) (d := 36) (v := relV (.slice p3 B'.vars.length k3) (.slice p4 B'.rows.length k4)) (w' := w') (fun j _ hne => hinj 15 j hne) hmono h0 (by decide) hs0 rfl (later_refl _) (by rw [r15])
          · obtain rfl := (Option.some.inj hop).symm
            have d14 : L.getD 14 false = true := hall ⟨14, .data⟩ (by simp) rfl
            have h14 := hF.val 14 (by decide) d14
            rw [r14] at h14
            have y35 := at_slot (s := 35) h14
            clear h14 d14
            try simp only [Nat.reduceAdd] at y35
            have d15 : L.getD 15 false = true := hall ⟨15, .data⟩ (by simp) rfl
            have h15 := hF.val 15 (by decide) d15
            rw [r15] at h15
            have y36 := at_slot (s := 36) h15
            clear h15 d15
            try simp only [Nat.reduceAdd] at y36
            have d13 : L.getD 13 false = true := hall ⟨13, .guard⟩ (by simp) rfl
            have h13 := hF.val 13 (by decide) d13
            rw [r13] at h13
            have y34 := at_some (s := 34) h13 (by show _ < a.tmps.size; omega)
            clear h13 d13
            try simp only [Nat.reduceAdd] at y34
            have hs0 : 37 < a.tmps.size := by omega
            have hC := HS37.out w' hb
            clear hsA
            have HF := Lib.hid hF
            clear hb
            go_simp
            refine hC.mono ?_
            rintro e w9 ⟨rfl, hb9⟩
            exact hF.step (i := 16) (d := 37) (v := .bool sm) (w' := w9) (fun j _ hne => hinj 16 j hne) hmono h0 (by decide) hs0 rfl hb9 (by rw [r16])
          · obtain rfl := (Option.some.inj hop).symm
            have y5 := at_slot ((hF.ag.eval (s := 5) (by decide)).trans e5)
            have d13 : L.getD 13 false = true := hall ⟨13, .guard⟩ (by simp) rfl
            have h13 := hF.val 13 (by decide) d13
            rw [r13] at h13
            have y34 := at_some (s := 34) h13 (by show _ < a.tmps.size; omega)
            clear h13 d13
            try simp only [Nat.reduceAdd] at y34
            obtain ⟨kk0, kk1, lc⟩ := two_of2 (kept hb HX5.out)
            have hs0 : 38 < a.tmps.size := by omega
            have HF := Lib.hid hF
            clear hsA
            go_simp
            exact hF.step (i := 17) (d := 38) (v := relV (.slice p1 A'.vars.length k1) (.slice p2 A'.rows.length k2)) (w' := w') (fun j _ hne => hinj 17 j hne) hmono h0 (by decide) hs0 rfl (later_refl _) (by rw [r17])
          · obtain rfl := (Option.some.inj hop).symm
            have y6 := at_slot ((hF.ag.eval (s := 6) (by decide)).trans e6)
            have d13 : L.getD 13 false = true := hall ⟨13, .guard⟩ (by simp) rfl
            have h13 := hF.val 13 (by decide) d13
            rw [r13] at h13
            have y34 := at_some (s := 34) h13 (by show _ < a.tmps.size; omega)
            clear h13 d13
            try simp only [Nat.reduceAdd] at y34
            obtain ⟨kk0, kk1, lc⟩ := two_of2 (kept hb HY5.out)
            have hs0 : 39 < a.tmps.size := by omega
            have HF := Lib.hid hF
            clear hsA
            go_simp
            exact hF.step (i := 18) (d := 39) (v := relV (.slice p3 B'.vars.length k3) (.slice p4 B'.rows.length k4)) (w' := w') (fun j _ hne => hinj 18 j hne) hmono h0 (by decide) hs0 rfl (later_refl _) (by rw [r18])
          · obtain rfl := (Option.some.inj hop).symm
            have d17 : L.getD 17 false = true := hall ⟨17, .data⟩ (by simp) rfl
            have h17 := hF.val 17 (by decide) d17
            rw [r17] at h17
            have y38 := at_slot (s := 38) h17
            clear h17 d17
            try simp only [Nat.reduceAdd] at y38
            have d18 : L.getD 18 false = true := hall ⟨18, .data⟩ (by simp) rfl
            have h18 := hF.val 18 (by decide) d18
            rw [r18] at h18
            have y39 := at_slot (s := 39) h18
            clear h18 d18
            try simp only [Nat.reduceAdd] at y39
            have d13 : L.getD 13 false = true := hall ⟨13, .guard⟩ (by simp) rfl
            have h13 := hF.val 13 (by decide) d13
            rw [r13] at h13
            have y34 := at_some (s := 34) h13 (by show _ < a.tmps.size; omega)
            clear h13 d13
            try simp only [Nat.reduceAdd] at y34
            have hs0 : 40 < a.tmps.size := by omega
            have hC := HS40.out w' hb
            clear hsA
            have HF := Lib.hid hF
            clear hb
            go_simp
            refine hC.mono ?_
            rintro e w9 ⟨rfl, hb9⟩
            exact hF.step (i := 19) (d := 40) (v := .bool sm) (w' := w9) (fun j _ hne => hinj 19 j hne) hmono h0 (by decide) hs0 rfl hb9 (by rw [r19])
          · obtain rfl := (Option.some.inj hop).symm
            have d16 : L.getD 16 false = true := hall ⟨16, .data⟩ (by simp) rfl
            have h16 := hF.val 16 (by decide) d16
            rw [r16] at h16
            have y37 := at_slot (s := 37) h16
            clear h16 d16
            try simp only [Nat.reduceAdd] at y37
            have d19 : L.getD 19 false = true := hall ⟨19, .data⟩ (by simp) rfl
            have h19 := hF.val 19 (by decide) d19
            rw [r19] at h19
            have y40 := at_slot (s := 40) h19
            clear h19 d19
            try simp only [Nat.reduceAdd] at y40
            have d13 : L.getD 13 false = true := hall ⟨13, .guard⟩ (by simp) rfl
            have h13 := hF.val 13 (by decide) d13
            rw [r13] at h13
            have y34 := at_some (s := 34) h13 (by show _ < a.tmps.size; omega)
            clear h13 d13
            try simp only [Nat.reduceAdd] at y34
            have hs0 : 41 < a.tmps.size := by omega
            have HF := Lib.hid hF
            clear hsA
            go_simp
            exact hF.step (i := 20) (d := 41) (v := .bool false) (w' := w') (fun j _ hne => hinj 20 j hne) hmono h0 (by decide) hs0 rfl (later_refl _) (by rw [r20])
          · obtain rfl := (Option.some.inj hop).symm
            have d13 : L.getD 13 false = true := hall ⟨13, .data⟩ (by simp) rfl
            have h13 := hF.val 13 (by decide) d13
            rw [r13] at h13
            have y34 := at_slot (s := 34) h13
            clear h13 d13
            try simp only [Nat.reduceAdd] at y34
            have d20 : L.getD 20 false = true := hall ⟨20, .data⟩ (by simp) rfl
            have h20 := hF.val 20 (by decide) d20
            rw [r20] at h20
            have y41 := at_slot (s := 41) h20
            clear h20 d20
            try simp only [Nat.reduceAdd] at y41
            have hs0 : 42 < a.tmps.size := by omega
            have HF := Lib.hid hF
            clear hsA
            go_simp
            exact hF.step (i := 21) (d := 42) (v := .bool false) (w' := w') (fun j _ hne => hinj 21 j hne) hmono h0 (by decide) hs0 rfl (later_refl _) (by rw [r21])
          · obtain rfl := (Option.some.inj hop).symm
            have d21 : L.getD 21 false = true := hall ⟨21, .data⟩ (by simp) rfl
            have h21 := hF.val 21 (by decide) d21
            rw [r21] at h21
            have y42 := at_slot (s := 42) h21
            clear h21 d21
            try simp only [Nat.reduceAdd] at y42
            have hs0 : 43 < a.tmps.size := by omega
            have HF := Lib.hid hF
            clear hsA
            go_simp
            exact hF.step (i := 22) (d := 43) (v := .bool false) (w' := w') (fun j _ hne => hinj 22 j hne) hmono h0 (by decide) hs0 rfl (later_refl _) (by rw [r22])
          · obtain rfl := (Option.some.inj hop).symm
            have y5 := at_slot ((hF.ag.eval (s := 5) (by decide)).trans e5)
            have d22 : L.getD 22 false = true := hall ⟨22, .guard⟩ (by simp) rfl
            have h22 := hF.val 22 (by decide) d22
            rw [r22] at h22
            have y43 := at_some (s := 43) h22 (by show _ < a.tmps.size; omega)
            clear h22 d22
            try simp only [Nat.reduceAdd] at y43
            obtain ⟨kk0, kk1, lc⟩ := two_of2 (kept hb HX5.out)
            have hs0 : 44 < a.tmps.size := by omega
            have HF := Lib.hid hF
            clear hsA
            go_simp
            exact hF.step (i := 23) (d := 44) (v := relV (.slice p1 A'.vars.length k1) (.slice p2 A'.rows.length k2)) (w' := w') (fun j _ hne => hinj 23 j hne) hmono h0 (by decide) hs0 rfl (later_refl _) (by rw [r23])
          · obtain rfl := (Option.some.inj hop).symm
            have y2 := at_slot ((hF.ag.eval (s := 2) (by decide)).trans e2)
            have d22 : L.getD 22 false = true := hall ⟨22, .guard⟩ (by simp) rfl
            have h22 := hF.val 22 (by decide) d22
            rw [r22] at h22
            have y43 := at_some (s := 43) h22 (by show _ < a.tmps.size; omega)
            clear h22 d22
            try simp only [Nat.reduceAdd] at y43
            obtain ⟨kk0, kk1, lc⟩ := two_of2 (kept hb HZ5.out)
            have hs0 : 45 < a.tmps.size := by omega
            have HF := Lib.hid hF
            clear hsA
            go_simp
            exact hF.step (i := 24) (d := 45) (v := relV (.slice a1 A.vars.length c1) (.slice a2 A.rows.length c2)) (w' := w') (fun j _ hne => hinj 24 j hne) hmono h0 (by decide) hs0 rfl (later_refl _) (by rw [r24])
          · obtain rfl := (Option.some.inj hop).symm
            have d24 : L.getD 24 false = true := hall ⟨24, .data⟩ (by simp) rfl
            have h24 := hF.val 24 (by decide) d24
            rw [r24] at h24
            have y45 := at_slot (s := 45) h24
            clear h24 d24
            try simp only [Nat.reduceAdd] at y45
            have d22 : L.getD 22 false = true := hall ⟨22, .guard⟩ (by simp) rfl
            have h22 := hF.val 22 (by decide) d22
            rw [r22] at h22
            have y43 := at_some (s := 43) h22 (by show _ < a.tmps.size; omega)
            clear h22 d22
            try simp only [Nat.reduceAdd] at y43
            have hs0 : 46 < a.tmps.size := by omega
            have hC := HO46.out w' hb
            have hbs := hb.size
            clear hsA
            go_simp
            refine hC.mono ?_
            rintro e w9 ⟨v1, v2, rfl, hO, hb9⟩
            exact hF.step (i := 25) (d := 46) (v := relV v1 v2) (w' := w9) (fun j _ hne => hinj 25 j hne) hmono h0 (by decide) hs0 rfl hb9 (by rw [r25]; exact ⟨v1, v2, rfl, hO.down hbs⟩)
          · obtain rfl := (Option.some.inj hop).symm
            have d23 : L.getD 23 false = true := hall ⟨23, .data⟩ (by simp) rfl
            have h23 := hF.val 23 (by decide) d23
            rw [r23] at h23
            have y44 := at_slot (s := 44) h23
            clear h23 d23
            try simp only [Nat.reduceAdd] at y44
            have d25 : L.getD 25 false = true := hall ⟨25, .data⟩ (by simp) rfl
            have h25 := hF.val 25 (by decide) d25
            rw [r25] at h25
            obtain ⟨w1, w2, q25, o25⟩ := h25
            have y46 := at_slot (s := 46) q25
            try simp only [Nat.reduceAdd] at y46
            have d22 : L.getD 22 false = true := hall ⟨22, .guard⟩ (by simp) rfl
            have h22 := hF.val 22 (by decide) d22
            rw [r22] at h22
            have y43 := at_some (s := 43) h22 (by show _ < a.tmps.size; omega)
            clear h22 d22
            try simp only [Nat.reduceAdd] at y43
            have hs0 : 47 < a.tmps.size := by omega
            have hC := HS47.out w' w1 w2 hb o25
            obtain ⟨p1, q1, p2, q2, rfl, rfl⟩ := o25.shape
            clear q25 o25 d25
            clear hsA
            have HF := Lib.hid hF
            clear hb
            go_simp
            refine hC.mono ?_
            rintro e w9 ⟨rfl, hb9⟩
            exact hF.step (i := 26) (d := 47) (v := .bool true) (w' := w9) (fun j _ hne => hinj 26 j hne) hmono h0 (by decide) hs0 rfl hb9 (by rw [r26])
          · obtain rfl := (Option.some.inj hop).symm
            have d26 : L.getD 26 false = true := hall ⟨26, .data⟩ (by simp) rfl
            have h26 := hF.val 26 (by decide) d26
            rw [r26] at h26
            have y47 := at_slot (s := 47) h26
            clear h26 d26
            try simp only [Nat.reduceAdd] at y47
            have d22 : L.getD 22 false = true := hall ⟨22, .guard⟩ (by simp) rfl
            have h22 := hF.val 22 (by decide) d22
            rw [r22] at h22
            have y43 := at_some (s := 43) h22 (by show _ < a.tmps.size; omega)
            clear h22 d22
            try simp only [Nat.reduceAdd] at y43
            have hs0 : 48 < a.tmps.size := by omega
            have HF := Lib.hid hF
            clear hsA
            go_simp
            exact hF.step (i := 27) (d := 48) (v := .bool false) (w' := w') (fun j _ hne => hinj 27 j hne) hmono h0 (by decide) hs0 rfl (later_refl _) (by rw [r27])
          · obtain rfl := (Option.some.inj hop).symm
            have d22 : L.getD 22 false = true := hall ⟨22, .data⟩ (by simp) rfl
            have h22 := hF.val 22 (by decide) d22
            rw [r22] at h22
            have y43 := at_slot (s := 43) h22
            clear h22 d22
            try simp only [Nat.reduceAdd] at y43
            have d27 : L.getD 27 false = true := hall ⟨27, .data⟩ (by simp) rfl
            have h27 := hF.val 27 (by decide) d27
            rw [r27] at h27
            have y48 := at_slot (s := 48) h27
            clear h27 d27
            try simp only [Nat.reduceAdd] at y48
            have hs0 : 49 < a.tmps.size := by omega
            have HF := Lib.hid hF
            clear hsA
            go_simp
            exact hF.step (i := 28) (d := 49) (v := .bool false) (w' := w') (fun j _ hne => hinj 28 j hne) hmono h0 (by decide) hs0 rfl (later_refl _) (by rw [r28])
        · rintro L a w' hF hall
          have hv := hF.val 28 (by decide) (hall 28 (by decide))
          rw [r28] at hv
          have hv' : a.tmps.getD (21 + 28) undef = .bool false := hv
          obtain ⟨f, hact⟩ := hF.ag.run 21 28 (by omega) (by decide)
          rw [← HFr.out, hv'] at hact
          simp only [List.take_succ_cons, List.take_zero, List.drop_succ_cons, List.drop_zero, List.cons_append, List.nil_append, Nat.reduceAdd, show List.range 28 = [0, 1, 2, 3, 4, 5, 6, 7, 8, 9, 10, 11, 12, 13, 14, 15, 16, 17, 18, 19, 20, 21, 22, 23, 24, 25, 26, 27] from rfl, List.map_cons, List.map_nil] at hact
          have HE := Lib.hid hF.bel
          clear hF hall hv hv' hinj hmono hsz r0 r1 r2 r3 r4 r5 r6 r7 r8 r9 r10 r11 r12 r13 r14 r15 r16 r17 r18 r19 r20 r21 r22 r23 r24 r25 r26 r27 r28 e2 e5 e6 e7
          subst hact
          clear HFr
          go_wp2_with fail
          go_meet
          exact ⟨rfl, HE.out⟩
      case rest =>
        obtain ⟨rfl, hb6⟩ := hcut
        obtain ⟨W6, rfl⟩ : ∃ W, W = wc := ⟨_, rfl⟩
        have hX6 := kept hb6 HX5.out
        have hA6 := H5.out.1.later hb6
        have HOf := Lib.hid (Of_any _ _ A'.vars A'.rows W6 hA6.vars hA6.rows (by have := HC.out.2.2.2.2.2.2.1; omega) (by have := HC.out.2.2.2.2.2.2.1; omega))
        obtain ⟨x0, x1, lX⟩ := two_of2 hX6
        have H6 := Lib.hid (And.intro hX6 (And.intro hA6 hb6))
        clear hX6 hA6 hb6
        refine ‹∀ (a : Act) (w_1 : World), _ → _› _ _ ?_
        go_wp2_with fail
        refine HOf.out.mono ?_
        rintro e W7 ⟨b7, g1, g2, no, rfl, hyes, hno⟩
        obtain ⟨n1, l1, m1, n2, l2, m2, rfl, rfl⟩ : ∃ n1 l1 m1 n2 l2 m2, g1 = .slice n1 l1 m1 ∧ g2 = .slice n2 l2 m2 := by
          cases hq : (colB A'.vars && !badL A'.vars.length A'.rows) with
          | true =>
            obtain ⟨q1, q2, q3, q4, e1, e2⟩ := (hyes hq).2.shape
            exact ⟨_, _, _, _, _, _, e1, e2⟩
          | false => exact ⟨_, _, _, _, _, _, (hno hq).2.1, (hno hq).2.2⟩
        obtain ⟨W8, hW8⟩ : ∃ W, W = W7.alloc (.cells #[.slice n1 l1 m1, .slice n2 l2 m2] 25) := ⟨_, rfl⟩
        have b8 : Below W7.heap.size W7 W8 := by rw [hW8]; exact later_alloc _ _
        have hT8 : RB W8 W7.heap.size (.slice n1 l1 m1) (.slice n2 l2 m2) := by rw [hW8]; exact box_new _ _ _
        have b68 := later_trans b7 b8
        have hA8 := H6.out.2.1.later b68
        have HCo := Lib.hid (Columns_any _ _ W8 hA8.vars)
        have hyes8 : (colB A'.vars && !badL A'.vars.length A'.rows) = true → no = 0 ∧ OwnRl W6.heap.size W8 (.slice n1 l1 m1) (.slice n2 l2 m2) ⟨A'.vars, ofL A'.rows⟩ := fun h => ⟨(hyes h).1, (hyes h).2.later b8⟩
        obtain ⟨x0, x1, lX⟩ := two_of2 (kept b7 H6.out.1)
        obtain ⟨y0, y1, lY⟩ := two_of2 (kept b68 H6.out.1)
        have H8 := Lib.hid (And.intro (kept b68 H6.out.1) (And.intro hA8 (And.intro hT8 (And.intro b68 (And.intro hyes8 hno)))))
        clear hyes hno b7 b8 hT8 b68 hA8 hyes8
        go_upto_region 8 with fail
        rw [← hW8]
        clear hW8 x0 x1 lX
        go_wp2_with fail
        refine HCo.out.mono ?_
        rintro e W8' ⟨rfl, h8⟩
        subst h8
        clear HCo HOf
        go_wp2_with fail
        clear y0 y1 lY
        go_loop [10, 64] (fun c i => ∃ k : Nat, k ≤ A'.rows.length ∧ i = .int .i64 k ∧ c = .bool (colB A'.vars && !badL A'.vars.length (A'.rows.take k))) (fun c i => A'.rows.length - (intOf i).toNat)
        case atStart => exact ⟨0, Nat.zero_le _, rfl, by rw [List.take_zero, show badL A'.vars.length [] = false from rfl, Bool.not_false, Bool.and_true]⟩
        case round =>
          obtain ⟨k, hk, rfl, rfl⟩ := hrel
          have hvm : A'.vars.length ≤ 9223372036854775807 := by have := HC.out.2.2.2.2.2.2.1; omega
          have hrm : A'.rows.length ≤ 9223372036854775807 := by have := HC.out.2.2.2.2.2.2.1; omega
          by_cases hlt : k < A'.rows.length
          · obtain ⟨_, _, e1, _, _, _, f4⟩ := H8.out.2.1.rows.open
            obtain ⟨b, o, e2, hbb, fc⟩ := f4 (by omega)
            injection e1 with e1a e1b e1c
            subst e1a
            subst e2
            obtain ⟨ru, ce1, hru⟩ := fc k hlt
            change SlI .u64 W8' ru (rowN A'.rows k) at hru
            obtain ⟨x0, x1, lX⟩ := two_of2 H8.out.1
            have hnx : badL A'.vars.length (A'.rows.take (k + 1)) = (badL A'.vars.length (A'.rows.take k) || decide ((rowN A'.rows k).length ≠ A'.vars.length)) := by rw [badL_take hlt, rowN_at hlt]
            have HNx := Lib.hid hnx
            obtain ⟨au, cu, rfl, -⟩ := hru.open
            clear hru fc f4 e1b e1c hnx
            cases hc : (colB A'.vars && !badL A'.vars.length (A'.rows.take k)) with
            | true =>
              have HCv := Lib.hid hc
              clear hc
              by_cases hlen : (rowN A'.rows k).length = A'.vars.length
              · have hl0 : (((rowN A'.rows k).length : Int) == (A'.vars.length : Int)) = true := by rw [beq_iff_eq]; omega
                have HL := Lib.hid hlen
                clear hlen
                go_wp2_with fail
                go_round
                case rel => exact ⟨k + 1, hlt, by go_num, by rw [HNx.out, decide_eq_false (fun h => h HL.out), Bool.or_false, HCv.out]⟩
                case measure => simp [intOf]; omega
              · have hl0 : (((rowN A'.rows k).length : Int) == (A'.vars.length : Int)) = false := by rw [beq_eq_false_iff_ne]; omega
                have HL := Lib.hid hlen
                clear hlen
                go_wp2_with fail
                go_round
                case rel => exact ⟨k + 1, hlt, by go_num, by rw [HNx.out, decide_eq_true HL.out, Bool.or_true, Bool.not_true, Bool.and_false]⟩
                case measure => simp [intOf]; omega
            | false =>
              have HCv := Lib.hid hc
              clear hc
              go_wp2_with fail
              go_round
              case rel => exact ⟨k + 1, hlt, by go_num, by rw [HNx.out, Bool.not_or, ← Bool.and_assoc, HCv.out, Bool.false_and]⟩
              case measure => simp [intOf]; omega
          · obtain rfl : k = A'.rows.length := by omega
            rw [List.take_length]
            cases hq : (colB A'.vars && !badL A'.vars.length A'.rows) with
            | false =>
              obtain ⟨rfl, e1, e2⟩ := H8.out.2.2.2.2.2 hq
              have hT8 := H8.out.2.2.1
              cases e1
              cases e2
              obtain ⟨t0, t1, lT⟩ := two_of2 hT8
              clear hq hT8
              go_wp2_with fail
              go_ret
              exact ⟨rfl, later_trans (later_trans H5.out.2.1 H6.out.2.2) H8.out.2.2.2.1⟩
            | true =>
              obtain ⟨rfl, oS⟩ := H8.out.2.2.2.2.1 hq
              have hwd : Wd A'.vars.length A'.rows := badL_no (by rw [Bool.and_eq_true] at hq; simpa using hq.2)
              have hA8 := H8.out.2.1
              have hT8 := H8.out.2.2.1
              have HO100 : Hid (∀ W, Below W8'.heap.size W8' W → Calls Try.prog 31 #[.slice p1 A'.vars.length k1, .slice p2 A'.rows.length k2] W fun e w' => ∃ v1 v2, e = .returned (relV v1 v2) ∧ RlR w' v1 v2 ⟨A'.vars, ofL A'.rows⟩ ∧ Below W.heap.size W w') := Lib.hid (fun W hb => (OfR_any _ _ A'.vars.length A'.rows W ⟨_, _, _, rfl⟩ (hA8.later hb).rows hwd (by have := HC.out.2.2.2.2.2.2.1; omega)).mono (by
                rintro e w' ⟨v', vs', rfl, hO, hb'⟩
                exact ⟨_, _, rfl, rl_of (R := ⟨A'.vars, ofL A'.rows⟩) ((hA8.later hb).vars.later hb') hO hb', hb'⟩))
              have HS101 : Hid (∀ W v1 v2, Below W8'.heap.size W8' W → RlR W v1 v2 ⟨A'.vars, ofL A'.rows⟩ → Calls Try.prog 17 #[relV (.slice n1 l1 m1) (.slice n2 l2 m2), relV v1 v2] W fun e w' => e = .returned (.bool true) ∧ Below W.heap.size W w') := Lib.hid (fun W v1 v2 hb hO => by
                have := SameR_any _ _ _ _ ⟨A'.vars, ofL A'.rows⟩ ⟨A'.vars, ofL A'.rows⟩ W (oS.rlR.later hb) hO
                rwa [decide_eq_true rfl] at this)
              have HX8 := Lib.hid H8.out.1
              have HT8 := Lib.hid hT8
              have HOS := Lib.hid oS
              clear hq hwd hA8 hT8 oS
              go_upto_region 16 with fail
              go_cut [103] (fun s103 wx => s103 = .bool false ∧ Below W8'.heap.size W8' wx)
              case first =>
                generalize hFr : Act.mk _ _ = a0
                have e5 : a0.eval (.tmp 5) = .pointer (some ⟨X, 0, none⟩) := by rw [← hFr]; rfl
                have e8 : a0.eval (.tmp 8) = .pointer (some ⟨W7.heap.size, 0, none⟩) := by rw [← hFr]; rfl
                have e9 : a0.eval (.tmp 9) = .int .i64 0 := by rw [← hFr]; rfl
                have hsz : 103 < a0.tmps.size := by rw [← hFr]; exact Nat.le_of_ble_eq_true rfl
                have HFr := Lib.hid hFr
                clear hFr
                obtain ⟨R, hR⟩ : ∃ R : Nat → Value → World → Prop, R = fun j v w' => if j = 8 then (∃ v1 v2, v = relV v1 v2 ∧ RlR w' v1 v2 ⟨A'.vars, ofL A'.rows⟩) else v = ([.int .i64 0, .bool false, .bool false, relV (.slice n1 l1 m1) (.slice n2 l2 m2), .pointer (some ⟨X, 0, none⟩), .slice p1 A'.vars.length k1, .pointer (some ⟨X, 1, none⟩), .slice p2 A'.rows.length k2, undef, .bool true, .bool false, .bool false] : List Value).getD j undef := ⟨_, rfl⟩
                have hmono : ∀ j v U V, R j v U → Below U.heap.size U V → R j v V := by
                  rw [hR]
                  intro j v U V h hb
                  by_cases e : j = 8
                  · simp only [if_pos e] at h ⊢
                    obtain ⟨v1, v2, e1, e2⟩ := h
                    exact ⟨v1, v2, e1, e2.later hb⟩
                  · simp only [if_neg e] at h ⊢
                    exact h
                have r0 : ∀ v w', R 0 v w' = (v = .int .i64 0) := fun v w' => by rw [hR]; rfl
                have r1 : ∀ v w', R 1 v w' = (v = .bool false) := fun v w' => by rw [hR]; rfl
                have r2 : ∀ v w', R 2 v w' = (v = .bool false) := fun v w' => by rw [hR]; rfl
                have r3 : ∀ v w', R 3 v w' = (v = relV (.slice n1 l1 m1) (.slice n2 l2 m2)) := fun v w' => by rw [hR]; rfl
                have r4 : ∀ v w', R 4 v w' = (v = .pointer (some ⟨X, 0, none⟩)) := fun v w' => by rw [hR]; rfl
                have r5 : ∀ v w', R 5 v w' = (v = .slice p1 A'.vars.length k1) := fun v w' => by rw [hR]; rfl
                have r6 : ∀ v w', R 6 v w' = (v = .pointer (some ⟨X, 1, none⟩)) := fun v w' => by rw [hR]; rfl
                have r7 : ∀ v w', R 7 v w' = (v = .slice p2 A'.rows.length k2) := fun v w' => by rw [hR]; rfl
                have r8 : ∀ v w', R 8 v w' = (∃ v1 v2, v = relV v1 v2 ∧ RlR w' v1 v2 ⟨A'.vars, ofL A'.rows⟩) := fun v w' => by rw [hR]; rfl
                have r9 : ∀ v w', R 9 v w' = (v = .bool true) := fun v w' => by rw [hR]; rfl
                have r10 : ∀ v w', R 10 v w' = (v = .bool false) := fun v w' => by rw [hR]; rfl
                have r11 : ∀ v w', R 11 v w' = (v = .bool false) := fun v w' => by rw [hR]; rfl
                clear hR
                have hinj : ∀ i j : Nat, j ≠ i → (fun k : Nat => 92 + k) j ≠ (fun k : Nat => 92 + k) i := fun i j h e => h (by have e : 92 + j = 92 + i := e; omega)
                refine Inv.wp_region_inv (J := fun L a w' => Fx 12 a0 [92, 93, 94, 95, 96, 97, 98, 99, 100, 101, 102, 103] W8' (fun k : Nat => 92 + k) R L a w') (by kernel_rfl) (by kernel_rfl) (Fx.start _) ?_ ?_
                · rintro L a w' i op hF h0 hop hall
                  have hi : i < 12 := (Array.getElem?_eq_some_iff.1 hop).1
                  refine Inv.wpOp_of hop ?_
                  have hsA := hF.ag.size
                  have hb := hF.bel
                  have hcase : i = 0 ∨ i = 1 ∨ i = 2 ∨ i = 3 ∨ i = 4 ∨ i = 5 ∨ i = 6 ∨ i = 7 ∨ i = 8 ∨ i = 9 ∨ i = 10 ∨ i = 11 := by omega
                  rcases hcase with rfl | rfl | rfl | rfl | rfl | rfl | rfl | rfl | rfl | rfl | rfl | rfl
                  · obtain rfl := (Option.some.inj hop).symm
                    have y9 := at_slot ((hF.ag.eval (s := 9) (by decide)).trans e9)
                    have hs0 : 92 < a.tmps.size := by omega
                    have HF := Lib.hid hF
                    clear hsA
                    go_simp
                    exact hF.step (i := 0) (d := 92) (v := .int .i64 0) (w' := w') (fun j _ hne => hinj 0 j hne) hmono h0 (by decide) hs0 rfl (later_refl _) (by rw [r0])
                  · obtain rfl := (Option.some.inj hop).symm
                    have d0 : L.getD 0 false = true := hall ⟨0, .data⟩ (by simp) rfl
                    have h0 := hF.val 0 (by decide) d0
                    rw [r0] at h0
                    have y92 := at_slot (s := 92) h0
                    clear h0 d0
                    try simp only [Nat.reduceAdd] at y92
                    have hs0 : 93 < a.tmps.size := by omega
                    have HF := Lib.hid hF
                    clear hsA
                    go_simp
                    exact hF.step (i := 1) (d := 93) (v := .bool false) (w' := w') (fun j _ hne => hinj 1 j hne) hmono h0 (by decide) hs0 rfl (later_refl _) (by rw [r1])
                  · obtain rfl := (Option.some.inj hop).symm
                    have d1 : L.getD 1 false = true := hall ⟨1, .data⟩ (by simp) rfl
                    have h1 := hF.val 1 (by decide) d1
                    rw [r1] at h1
                    have y93 := at_slot (s := 93) h1
                    clear h1 d1
                    try simp only [Nat.reduceAdd] at y93
                    have hs0 : 94 < a.tmps.size := by omega
                    have HF := Lib.hid hF
                    clear hsA
                    go_simp
                    exact hF.step (i := 2) (d := 94) (v := .bool false) (w' := w') (fun j _ hne => hinj 2 j hne) hmono h0 (by decide) hs0 rfl (later_refl _) (by rw [r2])
                  · obtain rfl := (Option.some.inj hop).symm
                    have y8 := at_slot ((hF.ag.eval (s := 8) (by decide)).trans e8)
                    have d2 : L.getD 2 false = true := hall ⟨2, .guard⟩ (by simp) rfl
                    have h2 := hF.val 2 (by decide) d2
                    rw [r2] at h2
                    have y94 := at_some (s := 94) h2 (by show _ < a.tmps.size; omega)
                    clear h2 d2
                    try simp only [Nat.reduceAdd] at y94
                    obtain ⟨kk0, kk1, lc⟩ := two_of2 (kept hb HT8.out)
                    have hs0 : 95 < a.tmps.size := by omega
                    have HF := Lib.hid hF
                    clear hsA
                    go_simp
                    exact hF.step (i := 3) (d := 95) (v := relV (.slice n1 l1 m1) (.slice n2 l2 m2)) (w' := w') (fun j _ hne => hinj 3 j hne) hmono h0 (by decide) hs0 rfl (later_refl _) (by rw [r3])
                  · obtain rfl := (Option.some.inj hop).symm
                    have y5 := at_slot ((hF.ag.eval (s := 5) (by decide)).trans e5)
                    have d2 : L.getD 2 false = true := hall ⟨2, .guard⟩ (by simp) rfl
                    have h2 := hF.val 2 (by decide) d2
                    rw [r2] at h2
                    have y94 := at_some (s := 94) h2 (by show _ < a.tmps.size; omega)
                    clear h2 d2
                    try simp only [Nat.reduceAdd] at y94
                    obtain ⟨kk0, kk1, lc⟩ := two_of2 (kept hb HX8.out)
                    have hs0 : 96 < a.tmps.size := by omega
                    have HF := Lib.hid hF
                    clear hsA
                    go_simp
                    exact hF.step (i := 4) (d := 96) (v := .pointer (some ⟨X, 0, none⟩)) (w' := w') (fun j _ hne => hinj 4 j hne) hmono h0 (by decide) hs0 rfl (later_refl _) (by rw [r4])
                  · obtain rfl := (Option.some.inj hop).symm
                    have d4 : L.getD 4 false = true := hall ⟨4, .data⟩ (by simp) rfl
                    have h4 := hF.val 4 (by decide) d4
                    rw [r4] at h4
                    have y96 := at_slot (s := 96) h4
                    clear h4 d4
                    try simp only [Nat.reduceAdd] at y96
                    have d2 : L.getD 2 false = true := hall ⟨2, .guard⟩ (by simp) rfl
                    have h2 := hF.val 2 (by decide) d2
                    rw [r2] at h2
                    have y94 := at_some (s := 94) h2 (by show _ < a.tmps.size; omega)
                    clear h2 d2
                    try simp only [Nat.reduceAdd] at y94
                    obtain ⟨kk0, kk1, lc⟩ := two_of2 (kept hb HX8.out)
                    have hs0 : 97 < a.tmps.size := by omega
                    have HF := Lib.hid hF
                    clear hsA
                    go_simp
                    exact hF.step (i := 5) (d := 97) (v := .slice p1 A'.vars.length k1) (w' := w') (fun j _ hne => hinj 5 j hne) hmono h0 (by decide) hs0 rfl (later_refl _) (by rw [r5])
                  · obtain rfl := (Option.some.inj hop).symm
                    have y5 := at_slot ((hF.ag.eval (s := 5) (by decide)).trans e5)
                    have d2 : L.getD 2 false = true := hall ⟨2, .guard⟩ (by simp) rfl
                    have h2 := hF.val 2 (by decide) d2
                    rw [r2] at h2
                    have y94 := at_some (s := 94) h2 (by show _ < a.tmps.size; omega)
                    clear h2 d2
                    try simp only [Nat.reduceAdd] at y94
                    obtain ⟨kk0, kk1, lc⟩ := two_of2 (kept hb HX8.out)
                    have hs0 : 98 < a.tmps.size := by omega
                    have HF := Lib.hid hF
                    clear hsA
                    go_simp
                    exact hF.step (i := 6) (d := 98) (v := .pointer (some ⟨X, 1, none⟩)) (w' := w') (fun j _ hne => hinj 6 j hne) hmono h0 (by decide) hs0 rfl (later_refl _) (by rw [r6])
                  · obtain rfl := (Option.some.inj hop).symm
                    have d6 : L.getD 6 false = true := hall ⟨6, .data⟩ (by simp) rfl
                    have h6 := hF.val 6 (by decide) d6
                    rw [r6] at h6
                    have y98 := at_slot (s := 98) h6
                    clear h6 d6
                    try simp only [Nat.reduceAdd] at y98
                    have d2 : L.getD 2 false = true := hall ⟨2, .guard⟩ (by simp) rfl
                    have h2 := hF.val 2 (by decide) d2
                    rw [r2] at h2
                    have y94 := at_some (s := 94) h2 (by show _ < a.tmps.size; omega)
                    clear h2 d2
                    try simp only [Nat.reduceAdd] at y94
                    obtain ⟨kk0, kk1, lc⟩ := two_of2 (kept hb HX8.out)
                    have hs0 : 99 < a.tmps.size := by omega
                    have HF := Lib.hid hF
                    clear hsA
                    go_simp
                    exact hF.step (i := 7) (d := 99) (v := .slice p2 A'.rows.length k2) (w' := w') (fun j _ hne => hinj 7 j hne) hmono h0 (by decide) hs0 rfl (later_refl _) (by rw [r7])
                  · obtain rfl := (Option.some.inj hop).symm
                    have d5 : L.getD 5 false = true := hall ⟨5, .data⟩ (by simp) rfl
                    have h5 := hF.val 5 (by decide) d5
                    rw [r5] at h5
                    have y97 := at_slot (s := 97) h5
                    clear h5 d5
                    try simp only [Nat.reduceAdd] at y97
                    have d7 : L.getD 7 false = true := hall ⟨7, .data⟩ (by simp) rfl
                    have h7 := hF.val 7 (by decide) d7
                    rw [r7] at h7
                    have y99 := at_slot (s := 99) h7
                    clear h7 d7
                    try simp only [Nat.reduceAdd] at y99
                    have d2 : L.getD 2 false = true := hall ⟨2, .guard⟩ (by simp) rfl
                    have h2 := hF.val 2 (by decide) d2
                    rw [r2] at h2
                    have y94 := at_some (s := 94) h2 (by show _ < a.tmps.size; omega)
                    clear h2 d2
                    try simp only [Nat.reduceAdd] at y94
                    have hs0 : 100 < a.tmps.size := by omega
                    have hC := HO100.out w' hb
                    have hbs := hb.size
                    clear hsA
                    go_simp
                    refine hC.mono ?_
                    rintro e w9 ⟨v1, v2, rfl, hO, hb9⟩
                    exact hF.step (i := 8) (d := 100) (v := relV v1 v2) (w' := w9) (fun j _ hne => hinj 8 j hne) hmono h0 (by decide) hs0 rfl hb9 (by rw [r8]; exact ⟨v1, v2, rfl, hO⟩)
                  · obtain rfl := (Option.some.inj hop).symm
                    have d3 : L.getD 3 false = true := hall ⟨3, .data⟩ (by simp) rfl
                    have h3 := hF.val 3 (by decide) d3
                    rw [r3] at h3
                    have y95 := at_slot (s := 95) h3
                    clear h3 d3
                    try simp only [Nat.reduceAdd] at y95
                    have d8 : L.getD 8 false = true := hall ⟨8, .data⟩ (by simp) rfl
                    have h8 := hF.val 8 (by decide) d8
                    rw [r8] at h8
                    obtain ⟨w1, w2, q8, o8⟩ := h8
                    have y100 := at_slot (s := 100) q8
                    try simp only [Nat.reduceAdd] at y100
                    have d2 : L.getD 2 false = true := hall ⟨2, .guard⟩ (by simp) rfl
                    have h2 := hF.val 2 (by decide) d2
                    rw [r2] at h2
                    have y94 := at_some (s := 94) h2 (by show _ < a.tmps.size; omega)
                    clear h2 d2
                    try simp only [Nat.reduceAdd] at y94
                    have hs0 : 101 < a.tmps.size := by omega
                    have hC := HS101.out w' w1 w2 hb o8
                    obtain ⟨p1, q1, p2, q2, rfl, rfl⟩ := o8.shape
                    clear q8 o8 d8
                    clear hsA
                    have HF := Lib.hid hF
                    clear hb
                    go_simp
                    refine hC.mono ?_
                    rintro e w9 ⟨rfl, hb9⟩
                    exact hF.step (i := 9) (d := 101) (v := .bool true) (w' := w9) (fun j _ hne => hinj 9 j hne) hmono h0 (by decide) hs0 rfl hb9 (by rw [r9])
                  · obtain rfl := (Option.some.inj hop).symm
                    have d9 : L.getD 9 false = true := hall ⟨9, .data⟩ (by simp) rfl
                    have h9 := hF.val 9 (by decide) d9
                    rw [r9] at h9
                    have y101 := at_slot (s := 101) h9
                    clear h9 d9
                    try simp only [Nat.reduceAdd] at y101
                    have d2 : L.getD 2 false = true := hall ⟨2, .guard⟩ (by simp) rfl
                    have h2 := hF.val 2 (by decide) d2
                    rw [r2] at h2
                    have y94 := at_some (s := 94) h2 (by show _ < a.tmps.size; omega)
                    clear h2 d2
                    try simp only [Nat.reduceAdd] at y94
                    have hs0 : 102 < a.tmps.size := by omega
                    have HF := Lib.hid hF
                    clear hsA
                    go_simp
                    exact hF.step (i := 10) (d := 102) (v := .bool false) (w' := w') (fun j _ hne => hinj 10 j hne) hmono h0 (by decide) hs0 rfl (later_refl _) (by rw [r10])
                  · obtain rfl := (Option.some.inj hop).symm
                    have d2 : L.getD 2 false = true := hall ⟨2, .data⟩ (by simp) rfl
                    have h2 := hF.val 2 (by decide) d2
                    rw [r2] at h2
                    have y94 := at_slot (s := 94) h2
                    clear h2 d2
                    try simp only [Nat.reduceAdd] at y94
                    have d10 : L.getD 10 false = true := hall ⟨10, .data⟩ (by simp) rfl
                    have h10 := hF.val 10 (by decide) d10
                    rw [r10] at h10
                    have y102 := at_slot (s := 102) h10
                    clear h10 d10
                    try simp only [Nat.reduceAdd] at y102
                    have hs0 : 103 < a.tmps.size := by omega
                    have HF := Lib.hid hF
                    clear hsA
                    go_simp
                    exact hF.step (i := 11) (d := 103) (v := .bool false) (w' := w') (fun j _ hne => hinj 11 j hne) hmono h0 (by decide) hs0 rfl (later_refl _) (by rw [r11])
                · rintro L a w' hF hall
                  have hv := hF.val 11 (by decide) (hall 11 (by decide))
                  rw [r11] at hv
                  have hv' : a.tmps.getD (92 + 11) undef = .bool false := hv
                  obtain ⟨f, hact⟩ := hF.ag.run 92 11 (by omega) (by decide)
                  rw [← HFr.out, hv'] at hact
                  simp only [List.take_succ_cons, List.take_zero, List.drop_succ_cons, List.drop_zero, List.cons_append, List.nil_append, Nat.reduceAdd, show List.range 11 = [0, 1, 2, 3, 4, 5, 6, 7, 8, 9, 10] from rfl, List.map_cons, List.map_nil] at hact
                  have HE := Lib.hid hF.bel
                  clear hF hall hv hv' hinj hmono hsz r0 r1 r2 r3 r4 r5 r6 r7 r8 r9 r10 r11 e5 e8 e9
                  subst hact
                  clear HFr
                  go_wp2_with fail
                  go_meet
                  exact ⟨rfl, HE.out⟩
              case rest =>
                obtain ⟨rfl, hb9⟩ := hcut
                have hSp := spoil_any (HOS.out.later hb9) (Nat.le_trans H8.out.2.2.2.1.size hb9.size)
                have HSp := Lib.hid hSp
                obtain ⟨t0, t1, lT⟩ := two_of2 (kept hb9 HT8.out)
                have H9 := Lib.hid hb9
                clear hSp hb9
                refine ‹∀ (a : Act) (w_1 : World), _ → _› _ _ ?_
                go_wp2_with fail
                refine HSp.out.mono ?_
                rintro e W10 ⟨rfl, b10⟩
                have hb10 := (later_trans H8.out.2.2.2.1 H9.out).trans b10
                have hbw10 := later_trans (later_trans H5.out.2.1 H6.out.2.2) hb10
                have HX10 := Lib.hid (kept hb10 H6.out.1)
                have HZ10 := Lib.hid (kept hb10 (kept H6.out.2.2 HZ5.out))
                have HO108 : Hid (∀ W, Below W10.heap.size W10 W → Calls Try.prog 11 #[relV (.slice a1 A.vars.length c1) (.slice a2 A.rows.length c2)] W fun e w' => ∃ v1 v2, e = .returned (relV v1 v2) ∧ OwnRl W.heap.size w' v1 v2 A' ∧ Below W.heap.size W w') := Lib.hid (fun W hb => by rw [← HC.out.2.2.2.2.2.2.2.1]; exact ownR_any _ _ A W (H0.out.1.later (later_trans hbw10 hb)))
                have HS109 : Hid (∀ W v1 v2, Below W10.heap.size W10 W → OwnRl W10.heap.size W v1 v2 A' → Calls Try.prog 17 #[relV (.slice p1 A'.vars.length k1) (.slice p2 A'.rows.length k2), relV v1 v2] W fun e w' => e = .returned (.bool true) ∧ Below W.heap.size W w') := Lib.hid (fun W v1 v2 hb hO => by
                  have := SameR_any _ _ _ _ A' A' W (H6.out.2.1.later (later_trans hb10 hb)) hO.rlR
                  rwa [decide_eq_true rfl] at this)
                have H10 := Lib.hid hbw10
                clear hb10 hbw10 b10 t0 t1 lT
                go_upto_region 19 with fail
                generalize hFr : Act.mk _ _ = a0
                have e2 : a0.eval (.tmp 2) = .pointer (some ⟨w.heap.size, 0, none⟩) := by rw [← hFr]; rfl
                have e5 : a0.eval (.tmp 5) = .pointer (some ⟨X, 0, none⟩) := by rw [← hFr]; rfl
                have hsz : 109 < a0.tmps.size := by rw [← hFr]; exact Nat.le_of_ble_eq_true rfl
                have HFr := Lib.hid hFr
                clear hFr
                obtain ⟨R, hR⟩ : ∃ R : Nat → Value → World → Prop, R = fun j v w' => if j = 2 then (∃ v1 v2, v = relV v1 v2 ∧ OwnRl W10.heap.size w' v1 v2 A') else v = ([relV (.slice p1 A'.vars.length k1) (.slice p2 A'.rows.length k2), relV (.slice a1 A.vars.length c1) (.slice a2 A.rows.length c2), undef, .bool true, .bool true] : List Value).getD j undef := ⟨_, rfl⟩
                have hmono : ∀ j v U V, R j v U → Below U.heap.size U V → R j v V := by
                  rw [hR]
                  intro j v U V h hb
                  by_cases e : j = 2
                  · simp only [if_pos e] at h ⊢
                    obtain ⟨v1, v2, e1, e2⟩ := h
                    exact ⟨v1, v2, e1, e2.later hb⟩
                  · simp only [if_neg e] at h ⊢
                    exact h
                have r0 : ∀ v w', R 0 v w' = (v = relV (.slice p1 A'.vars.length k1) (.slice p2 A'.rows.length k2)) := fun v w' => by rw [hR]; rfl
                have r1 : ∀ v w', R 1 v w' = (v = relV (.slice a1 A.vars.length c1) (.slice a2 A.rows.length c2)) := fun v w' => by rw [hR]; rfl
                have r2 : ∀ v w', R 2 v w' = (∃ v1 v2, v = relV v1 v2 ∧ OwnRl W10.heap.size w' v1 v2 A') := fun v w' => by rw [hR]; rfl
                have r3 : ∀ v w', R 3 v w' = (v = .bool true) := fun v w' => by rw [hR]; rfl
                have r4 : ∀ v w', R 4 v w' = (v = .bool true) := fun v w' => by rw [hR]; rfl
                clear hR
                have hinj : ∀ i, i < 5 → ∀ j, j < 5 → j ≠ i → (fun k : Nat => ([106, 107, 108, 109, 4] : List Nat).getD k 0) j ≠ (fun k : Nat => ([106, 107, 108, 109, 4] : List Nat).getD k 0) i := by decide
                refine Inv.wp_region_inv (J := fun L a w' => Fx 5 a0 [106, 107, 108, 109, 4] W10 (fun k : Nat => ([106, 107, 108, 109, 4] : List Nat).getD k 0) R L a w') (by kernel_rfl) (by kernel_rfl) (Fx.start _) ?_ ?_
                · rintro L a w' i op hF h0 hop hall
                  have hi : i < 5 := (Array.getElem?_eq_some_iff.1 hop).1
                  refine Inv.wpOp_of hop ?_
                  have hsA := hF.ag.size
                  have hb := hF.bel
                  have hcase : i = 0 ∨ i = 1 ∨ i = 2 ∨ i = 3 ∨ i = 4 := by omega
                  rcases hcase with rfl | rfl | rfl | rfl | rfl
                  · obtain rfl := (Option.some.inj hop).symm
                    have y5 := at_slot ((hF.ag.eval (s := 5) (by decide)).trans e5)
                    obtain ⟨kk0, kk1, lc⟩ := two_of2 (kept hb HX10.out)
                    have hs0 : 106 < a.tmps.size := by omega
                    have HF := Lib.hid hF
                    clear hsA
                    go_simp
                    exact hF.step (i := 0) (d := 106) (v := relV (.slice p1 A'.vars.length k1) (.slice p2 A'.rows.length k2)) (w' := w') (hinj 0 (by decide)) hmono h0 (by decide) hs0 rfl (later_refl _) (by rw [r0])
                  · obtain rfl := (Option.some.inj hop).symm
                    have y2 := at_slot ((hF.ag.eval (s := 2) (by decide)).trans e2)
                    obtain ⟨kk0, kk1, lc⟩ := two_of2 (kept hb HZ10.out)
                    have hs0 : 107 < a.tmps.size := by omega
                    have HF := Lib.hid hF
                    clear hsA
                    go_simp
                    exact hF.step (i := 1) (d := 107) (v := relV (.slice a1 A.vars.length c1) (.slice a2 A.rows.length c2)) (w' := w') (hinj 1 (by decide)) hmono h0 (by decide) hs0 rfl (later_refl _) (by rw [r1])
                  · obtain rfl := (Option.some.inj hop).symm
                    have d1 : L.getD 1 false = true := hall ⟨1, .data⟩ (by simp) rfl
                    have h1 := hF.val 1 (by decide) d1
                    rw [r1] at h1
                    have y107 := at_slot (s := 107) h1
                    clear h1 d1
                    try simp only [Nat.reduceAdd] at y107
                    have hs0 : 108 < a.tmps.size := by omega
                    have hC := HO108.out w' hb
                    have hbs := hb.size
                    clear hsA
                    go_simp
                    refine hC.mono ?_
                    rintro e w9 ⟨v1, v2, rfl, hO, hb9⟩
                    exact hF.step (i := 2) (d := 108) (v := relV v1 v2) (w' := w9) (hinj 2 (by decide)) hmono h0 (by decide) hs0 rfl hb9 (by rw [r2]; exact ⟨v1, v2, rfl, hO.down hbs⟩)
                  · obtain rfl := (Option.some.inj hop).symm
                    have d0 : L.getD 0 false = true := hall ⟨0, .data⟩ (by simp) rfl
                    have h0 := hF.val 0 (by decide) d0
                    rw [r0] at h0
                    have y106 := at_slot (s := 106) h0
                    clear h0 d0
                    try simp only [Nat.reduceAdd] at y106
                    have d2 : L.getD 2 false = true := hall ⟨2, .data⟩ (by simp) rfl
                    have h2 := hF.val 2 (by decide) d2
                    rw [r2] at h2
                    obtain ⟨w1, w2, q2, o2⟩ := h2
                    have y108 := at_slot (s := 108) q2
                    try simp only [Nat.reduceAdd] at y108
                    have hs0 : 109 < a.tmps.size := by omega
                    have hC := HS109.out w' w1 w2 hb o2
                    obtain ⟨p1, q1, p2, q2, rfl, rfl⟩ := o2.shape
                    clear q2 o2 d2
                    clear hsA
                    have HF := Lib.hid hF
                    clear hb
                    go_simp
                    refine hC.mono ?_
                    rintro e w9 ⟨rfl, hb9⟩
                    exact hF.step (i := 3) (d := 109) (v := .bool true) (w' := w9) (hinj 3 (by decide)) hmono h0 (by decide) hs0 rfl hb9 (by rw [r3])
                  · obtain rfl := (Option.some.inj hop).symm
                    have d3 : L.getD 3 false = true := hall ⟨3, .data⟩ (by simp) rfl
                    have h3 := hF.val 3 (by decide) d3
                    rw [r3] at h3
                    have y109 := at_slot (s := 109) h3
                    clear h3 d3
                    try simp only [Nat.reduceAdd] at y109
                    have hs0 : 4 < a.tmps.size := by omega
                    have HF := Lib.hid hF
                    clear hsA
                    go_simp
                    exact hF.step (i := 4) (d := 4) (v := .bool true) (w' := w') (hinj 4 (by decide)) hmono h0 (by decide) hs0 rfl (later_refl _) (by rw [r4])
                · rintro L a w' hF hall
                  have hv := hF.val 4 (by decide) (hall 4 (by decide))
                  rw [r4] at hv
                  have hv' : a.tmps.getD 4 undef = .bool true := hv
                  have hact := hF.ag.act
                  rw [← HFr.out] at hact
                  simp only [List.foldl_cons, List.foldl_nil, hv'] at hact
                  obtain ⟨z106, hz106⟩ : ∃ z, a.tmps.getD 106 undef = z := ⟨_, rfl⟩
                  obtain ⟨z107, hz107⟩ : ∃ z, a.tmps.getD 107 undef = z := ⟨_, rfl⟩
                  obtain ⟨z108, hz108⟩ : ∃ z, a.tmps.getD 108 undef = z := ⟨_, rfl⟩
                  obtain ⟨z109, hz109⟩ : ∃ z, a.tmps.getD 109 undef = z := ⟨_, rfl⟩
                  rw [hz106, hz107, hz108, hz109] at hact
                  simp only [List.setIfInBounds_toArray, List.set_cons_zero, List.set_cons_succ] at hact
                  clear hz106 hz107 hz108 hz109
                  have HE := Lib.hid hF.bel
                  clear hF hall hv hv' hinj hmono hsz r0 r1 r2 r3 r4 e2 e5
                  subst hact
                  clear HFr
                  go_wp2_with fail
                  go_ret
                  exact ⟨rfl, later_trans H10.out HE.out⟩
    | false =>
      simp only [Bool.false_eq_true, if_false]
      go_upto_region 5 with fail
      go_cut [49] (fun s49 wx => s49 = .bool false ∧ Below W5.heap.size W5 wx)
      case first =>
        generalize hFr : Act.mk _ _ = a0
        have e2 : a0.eval (.tmp 2) = .pointer (some ⟨w.heap.size, 0, none⟩) := by rw [← hFr]; rfl
        have e5 : a0.eval (.tmp 5) = .pointer (some ⟨X, 0, none⟩) := by rw [← hFr]; rfl
        have e6 : a0.eval (.tmp 6) = .pointer (some ⟨Y, 0, none⟩) := by rw [← hFr]; rfl
        have e7 : a0.eval (.tmp 7) = .int .i64 350 := by rw [← hFr]; rfl
        have hsz : 49 < a0.tmps.size := by rw [← hFr]; exact Nat.le_of_ble_eq_true rfl
        have HFr := Lib.hid hFr
        clear hFr
        obtain ⟨R, hR⟩ : ∃ R : Nat → Value → World → Prop, R = fun j v w' => if j = 25 then (∃ v1 v2, v = relV v1 v2 ∧ OwnRl W5.heap.size w' v1 v2 A') else v = ([.int .i64 350, .bool false, relV (.slice p1 A'.vars.length k1) (.slice p2 A'.rows.length k2), .bool false, .bool false, .bool false, .int .i64 350, .bool true, .bool true, .int .i64 350, .bool false, .bool false, .bool false, .bool false, relV (.slice p1 A'.vars.length k1) (.slice p2 A'.rows.length k2), relV (.slice p3 B'.vars.length k3) (.slice p4 B'.rows.length k4), .bool sm, relV (.slice p1 A'.vars.length k1) (.slice p2 A'.rows.length k2), relV (.slice p3 B'.vars.length k3) (.slice p4 B'.rows.length k4), .bool sm, .bool false, .bool false, .bool false, relV (.slice p1 A'.vars.length k1) (.slice p2 A'.rows.length k2), relV (.slice a1 A.vars.length c1) (.slice a2 A.rows.length c2), undef, .bool true, .bool false, .bool false] : List Value).getD j undef := ⟨_, rfl⟩
        have hmono : ∀ j v U V, R j v U → Below U.heap.size U V → R j v V := by
          rw [hR]
          intro j v U V h hb
          by_cases e : j = 25
          · simp only [if_pos e] at h ⊢
            obtain ⟨v1, v2, e1, e2⟩ := h
            exact ⟨v1, v2, e1, e2.later hb⟩
          · simp only [if_neg e] at h ⊢
            exact h
        have r0 : ∀ v w', R 0 v w' = (v = .int .i64 350) := fun v w' => by rw [hR]; rfl
        have r1 : ∀ v w', R 1 v w' = (v = .bool false) := fun v w' => by rw [hR]; rfl
        have r2 : ∀ v w', R 2 v w' = (v = relV (.slice p1 A'.vars.length k1) (.slice p2 A'.rows.length k2)) := fun v w' => by rw [hR]; rfl
        have r3 : ∀ v w', R 3 v w' = (v = .bool false) := fun v w' => by rw [hR]; rfl
        have r4 : ∀ v w', R 4 v w' = (v = .bool false) := fun v w' => by rw [hR]; rfl
        have r5 : ∀ v w', R 5 v w' = (v = .bool false) := fun v w' => by rw [hR]; rfl
        have r6 : ∀ v w', R 6 v w' = (v = .int .i64 350) := fun v w' => by rw [hR]; rfl
        have r7 : ∀ v w', R 7 v w' = (v = .bool true) := fun v w' => by rw [hR]; rfl
        have r8 : ∀ v w', R 8 v w' = (v = .bool true) := fun v w' => by rw [hR]; rfl
        have r9 : ∀ v w', R 9 v w' = (v = .int .i64 350) := fun v w' => by rw [hR]; rfl
        have r10 : ∀ v w', R 10 v w' = (v = .bool false) := fun v w' => by rw [hR]; rfl
        have r11 : ∀ v w', R 11 v w' = (v = .bool false) := fun v w' => by rw [hR]; rfl
        have r12 : ∀ v w', R 12 v w' = (v = .bool false) := fun v w' => by rw [hR]; rfl
        have r13 : ∀ v w', R 13 v w' = (v = .bool false) := fun v w' => by rw [hR]; rfl
        have r14 : ∀ v w', R 14 v w' = (v = relV (.slice p1 A'.vars.length k1) (.slice p2 A'.rows.length k2)) := fun v w' => by rw [hR]; rfl
        have r15 : ∀ v w', R 15 v w' = (v = relV (.slice p3 B'.vars.length k3) (.slice p4 B'.rows.length k4)) := fun v w' => by rw [hR]; rfl
        have r16 : ∀ v w', R 16 v w' = (v = .bool sm) := fun v w' => by rw [hR]; rfl
        have r17 : ∀ v w', R 17 v w' = (v = relV (.slice p1 A'.vars.length k1) (.slice p2 A'.rows.length k2)) := fun v w' => by rw [hR]; rfl
        have r18 : ∀ v w', R 18 v w' = (v = relV (.slice p3 B'.vars.length k3) (.slice p4 B'.rows.length k4)) := fun v w' => by rw [hR]; rfl
        have r19 : ∀ v w', R 19 v w' = (v = .bool sm) := fun v w' => by rw [hR]; rfl
        have r20 : ∀ v w', R 20 v w' = (v = .bool false) := fun v w' => by rw [hR]; rfl
        have r21 : ∀ v w', R 21 v w' = (v = .bool false) := fun v w' => by rw [hR]; rfl
        have r22 : ∀ v w', R 22 v w' = (v = .bool false) := fun v w' => by rw [hR]; rfl
        have r23 : ∀ v w', R 23 v w' = (v = relV (.slice p1 A'.vars.length k1) (.slice p2 A'.rows.length k2)) := fun v w' => by rw [hR]; rfl
        have r24 : ∀ v w', R 24 v w' = (v = relV (.slice a1 A.vars.length c1) (.slice a2 A.rows.length c2)) := fun v w' => by rw [hR]; rfl
        have r25 : ∀ v w', R 25 v w' = (∃ v1 v2, v = relV v1 v2 ∧ OwnRl W5.heap.size w' v1 v2 A') := fun v w' => by rw [hR]; rfl
        have r26 : ∀ v w', R 26 v w' = (v = .bool true) := fun v w' => by rw [hR]; rfl
        have r27 : ∀ v w', R 27 v w' = (v = .bool false) := fun v w' => by rw [hR]; rfl
        have r28 : ∀ v w', R 28 v w' = (v = .bool false) := fun v w' => by rw [hR]; rfl
        clear hR
        have hinj : ∀ i j : Nat, j ≠ i → (fun k : Nat => 21 + k) j ≠ (fun k : Nat => 21 + k) i := fun i j h e => h (by have e : 21 + j = 21 + i := e; omega)
        refine Inv.wp_region_inv (J := fun L a w' => Fx 29 a0 [21, 22, 23, 24, 25, 26, 27, 28, 29, 30, 31, 32, 33, 34, 35, 36, 37, 38, 39, 40, 41, 42, 43, 44, 45, 46, 47, 48, 49] W5 (fun k : Nat => 21 + k) R L a w') (by kernel_rfl) (by kernel_rfl) (Fx.start _) ?_ ?_
        · rintro L a w' i op hF h0 hop hall
          have hi : i < 29 := (Array.getElem?_eq_some_iff.1 hop).1
          refine Inv.wpOp_of hop ?_
          have hsA := hF.ag.size
          have hb := hF.bel
          have hcase : i = 0 ∨ i = 1 ∨ i = 2 ∨ i = 3 ∨ i = 4 ∨ i = 5 ∨ i = 6 ∨ i = 7 ∨ i = 8 ∨ i = 9 ∨ i = 10 ∨ i = 11 ∨ i = 12 ∨ i = 13 ∨ i = 14 ∨ i = 15 ∨ i = 16 ∨ i = 17 ∨ i = 18 ∨ i = 19 ∨ i = 20 ∨ i = 21 ∨ i = 22 ∨ i = 23 ∨ i = 24 ∨ i = 25 ∨ i = 26 ∨ i = 27 ∨ i = 28 := by omega
          rcases hcase with rfl | rfl | rfl | rfl | rfl | rfl | rfl | rfl | rfl | rfl | rfl | rfl | rfl | rfl | rfl | rfl | rfl | rfl | rfl | rfl | rfl | rfl | rfl | rfl | rfl | rfl | rfl | rfl | rfl
          · obtain rfl := (Option.some.inj hop).symm
            have y7 := at_slot ((hF.ag.eval (s := 7) (by decide)).trans e7)
            have hs0 : 21 < a.tmps.size := by omega
            have HF := Lib.hid hF
            clear hsA
            go_simp
            exact hF.step (i := 0) (d := 21) (v := .int .i64 350) (w' := w') (fun j _ hne => hinj 0 j hne) hmono h0 (by decide) hs0 rfl (later_refl _) (by rw [r0])
          · obtain rfl := (Option.some.inj hop).symm
            have d0 : L.getD 0 false = true := hall ⟨0, .data⟩ (by simp) rfl
            have h0 := hF.val 0 (by decide) d0
            rw [r0] at h0
            have y21 := at_slot (s := 21) h0
            clear h0 d0
            try simp only [Nat.reduceAdd] at y21
            have hs0 : 22 < a.tmps.size := by omega
            have HF := Lib.hid hF
            clear hsA
            go_simp
            exact hF.step (i := 1) (d := 22) (v := .bool false) (w' := w') (fun j _ hne => hinj 1 j hne) hmono h0 (by decide) hs0 rfl (later_refl _) (by rw [r1])
          · obtain rfl := (Option.some.inj hop).symm
            have y5 := at_slot ((hF.ag.eval (s := 5) (by decide)).trans e5)
            obtain ⟨kk0, kk1, lc⟩ := two_of2 (kept hb HX5.out)
            have hs0 : 23 < a.tmps.size := by omega
            have HF := Lib.hid hF
            clear hsA
            go_simp
            exact hF.step (i := 2) (d := 23) (v := relV (.slice p1 A'.vars.length k1) (.slice p2 A'.rows.length k2)) (w' := w') (fun j _ hne => hinj 2 j hne) hmono h0 (by decide) hs0 rfl (later_refl _) (by rw [r2])
          · obtain rfl := (Option.some.inj hop).symm
            have d2 : L.getD 2 false = true := hall ⟨2, .data⟩ (by simp) rfl
            have h2 := hF.val 2 (by decide) d2
            rw [r2] at h2
            have y23 := at_slot (s := 23) h2
            clear h2 d2
            try simp only [Nat.reduceAdd] at y23
            have hs0 : 24 < a.tmps.size := by omega
            have hC := HR24.out w' hb
            clear hsA
            have HF := Lib.hid hF
            clear hb
            go_simp
            refine hC.mono ?_
            rintro e w9 ⟨rfl, hb9⟩
            exact hF.step (i := 3) (d := 24) (v := .bool false) (w' := w9) (fun j _ hne => hinj 3 j hne) hmono h0 (by decide) hs0 rfl hb9 (by rw [r3])
          · obtain rfl := (Option.some.inj hop).symm
            have d1 : L.getD 1 false = true := hall ⟨1, .data⟩ (by simp) rfl
            have h1 := hF.val 1 (by decide) d1
            rw [r1] at h1
            have y22 := at_slot (s := 22) h1
            clear h1 d1
            try simp only [Nat.reduceAdd] at y22
            have d3 : L.getD 3 false = true := hall ⟨3, .data⟩ (by simp) rfl
            have h3 := hF.val 3 (by decide) d3
            rw [r3] at h3
            have y24 := at_slot (s := 24) h3
            clear h3 d3
            try simp only [Nat.reduceAdd] at y24
            have hs0 : 25 < a.tmps.size := by omega
            have HF := Lib.hid hF
            clear hsA
            go_simp
            exact hF.step (i := 4) (d := 25) (v := .bool false) (w' := w') (fun j _ hne => hinj 4 j hne) hmono h0 (by decide) hs0 rfl (later_refl _) (by rw [r4])
          · obtain rfl := (Option.some.inj hop).symm
            have d4 : L.getD 4 false = true := hall ⟨4, .data⟩ (by simp) rfl
            have h4 := hF.val 4 (by decide) d4
            rw [r4] at h4
            have y25 := at_slot (s := 25) h4
            clear h4 d4
            try simp only [Nat.reduceAdd] at y25
            have hs0 : 26 < a.tmps.size := by omega
            have HF := Lib.hid hF
            clear hsA
            go_simp
            exact hF.step (i := 5) (d := 26) (v := .bool false) (w' := w') (fun j _ hne => hinj 5 j hne) hmono h0 (by decide) hs0 rfl (later_refl _) (by rw [r5])
          · obtain rfl := (Option.some.inj hop).symm
            have y7 := at_slot ((hF.ag.eval (s := 7) (by decide)).trans e7)
            have d5 : L.getD 5 false = true := hall ⟨5, .guard⟩ (by simp) rfl
            have h5 := hF.val 5 (by decide) d5
            rw [r5] at h5
            have y26 := at_some (s := 26) h5 (by show _ < a.tmps.size; omega)
            clear h5 d5
            try simp only [Nat.reduceAdd] at y26
            have hs0 : 27 < a.tmps.size := by omega
            have HF := Lib.hid hF
            clear hsA
            go_simp
            exact hF.step (i := 6) (d := 27) (v := .int .i64 350) (w' := w') (fun j _ hne => hinj 6 j hne) hmono h0 (by decide) hs0 rfl (later_refl _) (by rw [r6])
          · obtain rfl := (Option.some.inj hop).symm
            have d6 : L.getD 6 false = true := hall ⟨6, .data⟩ (by simp) rfl
            have h6 := hF.val 6 (by decide) d6
            rw [r6] at h6
            have y27 := at_slot (s := 27) h6
            clear h6 d6
            try simp only [Nat.reduceAdd] at y27
            have d5 : L.getD 5 false = true := hall ⟨5, .guard⟩ (by simp) rfl
            have h5 := hF.val 5 (by decide) d5
            rw [r5] at h5
            have y26 := at_some (s := 26) h5 (by show _ < a.tmps.size; omega)
            clear h5 d5
            try simp only [Nat.reduceAdd] at y26
            have hs0 : 28 < a.tmps.size := by omega
            have HF := Lib.hid hF
            clear hsA
            go_simp
            exact hF.step (i := 7) (d := 28) (v := .bool true) (w' := w') (fun j _ hne => hinj 7 j hne) hmono h0 (by decide) hs0 rfl (later_refl _) (by rw [r7])
          · obtain rfl := (Option.some.inj hop).symm
            have d7 : L.getD 7 false = true := hall ⟨7, .data⟩ (by simp) rfl
            have h7 := hF.val 7 (by decide) d7
            rw [r7] at h7
            have y28 := at_slot (s := 28) h7
            clear h7 d7
            try simp only [Nat.reduceAdd] at y28
            have d5 : L.getD 5 false = true := hall ⟨5, .guard⟩ (by simp) rfl
            have h5 := hF.val 5 (by decide) d5
            rw [r5] at h5
            have y26 := at_some (s := 26) h5 (by show _ < a.tmps.size; omega)
            clear h5 d5
            try simp only [Nat.reduceAdd] at y26
            have hs0 : 29 < a.tmps.size := by omega
            have HF := Lib.hid hF
            clear hsA
            go_simp
            exact hF.step (i := 8) (d := 29) (v := .bool true) (w' := w') (fun j _ hne => hinj 8 j hne) hmono h0 (by decide) hs0 rfl (later_refl _) (by rw [r8])
          · obtain rfl := (Option.some.inj hop).symm
            have y7 := at_slot ((hF.ag.eval (s := 7) (by decide)).trans e7)
            have d8 : L.getD 8 false = true := hall ⟨8, .guard⟩ (by simp) rfl
            have h8 := hF.val 8 (by decide) d8
            rw [r8] at h8
            have y29 := at_some (s := 29) h8 (by show _ < a.tmps.size; omega)
            clear h8 d8
            try simp only [Nat.reduceAdd] at y29
            have hs0 : 30 < a.tmps.size := by omega
            have HF := Lib.hid hF
            clear hsA
            go_simp
            exact hF.step (i := 9) (d := 30) (v := .int .i64 350) (w' := w') (fun j _ hne => hinj 9 j hne) hmono h0 (by decide) hs0 rfl (later_refl _) (by rw [r9])
          · obtain rfl := (Option.some.inj hop).symm
            have d9 : L.getD 9 false = true := hall ⟨9, .data⟩ (by simp) rfl
            have h9 := hF.val 9 (by decide) d9
            rw [r9] at h9
            have y30 := at_slot (s := 30) h9
            clear h9 d9
            try simp only [Nat.reduceAdd] at y30
            have d8 : L.getD 8 false = true := hall ⟨8, .guard⟩ (by simp) rfl
            have h8 := hF.val 8 (by decide) d8
            rw [r8] at h8
            have y29 := at_some (s := 29) h8 (by show _ < a.tmps.size; omega)
            clear h8 d8
            try simp only [Nat.reduceAdd] at y29
            have hs0 : 31 < a.tmps.size := by omega
            have HF := Lib.hid hF
            clear hsA
            go_simp
            exact hF.step (i := 10) (d := 31) (v := .bool false) (w' := w') (fun j _ hne => hinj 10 j hne) hmono h0 (by decide) hs0 rfl (later_refl _) (by rw [r10])
          · obtain rfl := (Option.some.inj hop).symm
            have d8 : L.getD 8 false = true := hall ⟨8, .data⟩ (by simp) rfl
            have h8 := hF.val 8 (by decide) d8
            rw [r8] at h8
            have y29 := at_slot (s := 29) h8
            clear h8 d8
            try simp only [Nat.reduceAdd] at y29
            have d10 : L.getD 10 false = true := hall ⟨10, .data⟩ (by simp) rfl
            have h10 := hF.val 10 (by decide) d10
            rw [r10] at h10
            have y31 := at_slot (s := 31) h10
            clear h10 d10
            try simp only [Nat.reduceAdd] at y31
            have d5 : L.getD 5 false = true := hall ⟨5, .guard⟩ (by simp) rfl
            have h5 := hF.val 5 (by decide) d5
            rw [r5] at h5
            have y26 := at_some (s := 26) h5 (by show _ < a.tmps.size; omega)
            clear h5 d5
            try simp only [Nat.reduceAdd] at y26
            have hs0 : 32 < a.tmps.size := by omega
            have HF := Lib.hid hF
            clear hsA
            go_simp
            exact hF.step (i := 11) (d := 32) (v := .bool false) (w' := w') (fun j _ hne => hinj 11 j hne) hmono h0 (by decide) hs0 rfl (later_refl _) (by rw [r11])
          · obtain rfl := (Option.some.inj hop).symm
            have d5 : L.getD 5 false = true := hall ⟨5, .data⟩ (by simp) rfl
            have h5 := hF.val 5 (by decide) d5
            rw [r5] at h5
            have y26 := at_slot (s := 26) h5
            clear h5 d5
            try simp only [Nat.reduceAdd] at y26
            have d11 : L.getD 11 false = true := hall ⟨11, .data⟩ (by simp) rfl
            have h11 := hF.val 11 (by decide) d11
            rw [r11] at h11
            have y32 := at_slot (s := 32) h11
            clear h11 d11
            try simp only [Nat.reduceAdd] at y32
            have hs0 : 33 < a.tmps.size := by omega
            have HF := Lib.hid hF
            clear hsA
            go_simp
            exact hF.step (i := 12) (d := 33) (v := .bool false) (w' := w') (fun j _ hne => hinj 12 j hne) hmono h0 (by decide) hs0 rfl (later_refl _) (by rw [r12])
          · obtain rfl := (Option.some.inj hop).symm
            have d12 : L.getD 12 false = true := hall ⟨12, .data⟩ (by simp) rfl
            have h12 := hF.val 12 (by decide) d12
            rw [r12] at h12
            have y33 := at_slot (s := 33) h12
            clear h12 d12
            try simp only [Nat.reduceAdd] at y33
            have hs0 : 34 < a.tmps.size := by omega
            have HF := Lib.hid hF
            clear hsA
            go_simp
            exact hF.step (i := 13) (d := 34) (v := .bool false) (w' := w') (fun j _ hne => hinj 13 j hne) hmono h0 (by decide) hs0 rfl (later_refl _) (by rw [r13])
          · obtain rfl := (Option.some.inj hop).symm
            have y5 := at_slot ((hF.ag.eval (s := 5) (by decide)).trans e5)
            have d13 : L.getD 13 false = true := hall ⟨13, .guard⟩ (by simp) rfl
            have h13 := hF.val 13 (by decide) d13
            rw [r13] at h13
            have y34 := at_some (s := 34) h13 (by show _ < a.tmps.size; omega)
            clear h13 d13
            try simp only [Nat.reduceAdd] at y34
            obtain ⟨kk0, kk1, lc⟩ := two_of2 (kept hb HX5.out)
            have hs0 : 35 < a.tmps.size := by omega
            have HF := Lib.hid hF
            clear hsA
            go_simp
            exact hF.step (i := 14) (d := 35) (v := relV (.slice p1 A'.vars.length k1) (.slice p2 A'.rows.length k2)) (w' := w') (fun j _ hne => hinj 14 j hne) hmono h0 (by decide) hs0 rfl (later_refl _) (by rw [r14])
          · obtain rfl := (Option.some.inj hop).symm
            have y6 := at_slot ((hF.ag.eval (s := 6) (by decide)).trans e6)
            have d13 : L.getD 13 false = true := hall ⟨13, .guard⟩ (by simp) rfl
            have h13 := hF.val 13 (by decide) d13
            rw [r13] at h13
            have y34 := at_some (s := 34) h13 (by show _ < a.tmps.size; omega)
            clear h13 d13
            try simp only [Nat.reduceAdd] at y34
            obtain ⟨kk0, kk1, lc⟩ := two_of2 (kept hb HY5.out)
            have hs0 : 36 < a.tmps.size := by omega
            have HF := Lib.hid hF
            clear hsA
            go_simp
            exact hF.step (i := 15) (d := 36) (v := relV (.slice p3 B'.vars.length k3) (.slice p4 B'.rows.length k4)) (w' := w') (fun j _ hne => hinj 15 j hne) hmono h0 (by decide) hs0 rfl (later_refl _) (by rw [r15])
          · obtain rfl := (Option.some.inj hop).symm
            have d14 : L.getD 14 false = true := hall ⟨14, .data⟩ (by simp) rfl
            have h14 := hF.val 14 (by decide) d14
            rw [r14] at h14
            have y35 := at_slot (s := 35) h14
            clear h14 d14
            try simp only [Nat.reduceAdd] at y35
            have d15 : L.getD 15 false = true := hall ⟨15, .data⟩ (by simp) rfl
            have h15 := hF.val 15 (by decide) d15
            rw [r15] at h15
            have y36 := at_slot (s := 36) h15
            clear h15 d15
            try simp only [Nat.reduceAdd] at y36
            have d13 : L.getD 13 false = true := hall ⟨13, .guard⟩ (by simp) rfl
            have h13 := hF.val 13 (by decide) d13
            rw [r13] at h13
            have y34 := at_some (s := 34) h13 (by show _ < a.tmps.size; omega)
            clear h13 d13
            try simp only [Nat.reduceAdd] at y34
            have hs0 : 37 < a.tmps.size := by omega
            have hC := HS37.out w' hb
            clear hsA
            have HF := Lib.hid hF
            clear hb
            go_simp
            refine hC.mono ?_
            rintro e w9 ⟨rfl, hb9⟩
            exact hF.step (i := 16) (d := 37) (v := .bool sm) (w' := w9) (fun j _ hne => hinj 16 j hne) hmono h0 (by decide) hs0 rfl hb9 (by rw [r16])
          · obtain rfl := (Option.some.inj hop).symm
            have y5 := at_slot ((hF.ag.eval (s := 5) (by decide)).trans e5)
            have d13 : L.getD 13 false = true := hall ⟨13, .guard⟩ (by simp) rfl
            have h13 := hF.val 13 (by decide) d13
            rw [r13] at h13
            have y34 := at_some (s := 34) h13 (by show _ < a.tmps.size; omega)
            clear h13 d13
            try simp only [Nat.reduceAdd] at y34
            obtain ⟨kk0, kk1, lc⟩ := two_of2 (kept hb HX5.out)
            have hs0 : 38 < a.tmps.size := by omega
            have HF := Lib.hid hF
            clear hsA
            go_simp
            exact hF.step (i := 17) (d := 38) (v := relV (.slice p1 A'.vars.length k1) (.slice p2 A'.rows.length k2)) (w' := w') (fun j _ hne => hinj 17 j hne) hmono h0 (by decide) hs0 rfl (later_refl _) (by rw [r17])
          · obtain rfl := (Option.some.inj hop).symm
            have y6 := at_slot ((hF.ag.eval (s := 6) (by decide)).trans e6)
            have d13 : L.getD 13 false = true := hall ⟨13, .guard⟩ (by simp) rfl
            have h13 := hF.val 13 (by decide) d13
            rw [r13] at h13
            have y34 := at_some (s := 34) h13 (by show _ < a.tmps.size; omega)
            clear h13 d13
            try simp only [Nat.reduceAdd] at y34
            obtain ⟨kk0, kk1, lc⟩ := two_of2 (kept hb HY5.out)
            have hs0 : 39 < a.tmps.size := by omega
            have HF := Lib.hid hF
            clear hsA
            go_simp
            exact hF.step (i := 18) (d := 39) (v := relV (.slice p3 B'.vars.length k3) (.slice p4 B'.rows.length k4)) (w' := w') (fun j _ hne => hinj 18 j hne) hmono h0 (by decide) hs0 rfl (later_refl _) (by rw [r18])
          · obtain rfl := (Option.some.inj hop).symm
            have d17 : L.getD 17 false = true := hall ⟨17, .data⟩ (by simp) rfl
            have h17 := hF.val 17 (by decide) d17
            rw [r17] at h17
            have y38 := at_slot (s := 38) h17
            clear h17 d17
            try simp only [Nat.reduceAdd] at y38
            have d18 : L.getD 18 false = true := hall ⟨18, .data⟩ (by simp) rfl
            have h18 := hF.val 18 (by decide) d18
            rw [r18] at h18
            have y39 := at_slot (s := 39) h18
            clear h18 d18
            try simp only [Nat.reduceAdd] at y39
            have d13 : L.getD 13 false = true := hall ⟨13, .guard⟩ (by simp) rfl
            have h13 := hF.val 13 (by decide) d13
            rw [r13] at h13
            have y34 := at_some (s := 34) h13 (by show _ < a.tmps.size; omega)
            clear h13 d13
            try simp only [Nat.reduceAdd] at y34
            have hs0 : 40 < a.tmps.size := by omega
            have hC := HS40.out w' hb
            clear hsA
            have HF := Lib.hid hF
            clear hb
            go_simp
            refine hC.mono ?_
            rintro e w9 ⟨rfl, hb9⟩
            exact hF.step (i := 19) (d := 40) (v := .bool sm) (w' := w9) (fun j _ hne => hinj 19 j hne) hmono h0 (by decide) hs0 rfl hb9 (by rw [r19])
          · obtain rfl := (Option.some.inj hop).symm
            have d16 : L.getD 16 false = true := hall ⟨16, .data⟩ (by simp) rfl
            have h16 := hF.val 16 (by decide) d16
            rw [r16] at h16
            have y37 := at_slot (s := 37) h16
            clear h16 d16
            try simp only [Nat.reduceAdd] at y37
            have d19 : L.getD 19 false = true := hall ⟨19, .data⟩ (by simp) rfl
            have h19 := hF.val 19 (by decide) d19
            rw [r19] at h19
            have y40 := at_slot (s := 40) h19
            clear h19 d19
            try simp only [Nat.reduceAdd] at y40
            have d13 : L.getD 13 false = true := hall ⟨13, .guard⟩ (by simp) rfl
            have h13 := hF.val 13 (by decide) d13
            rw [r13] at h13
            have y34 := at_some (s := 34) h13 (by show _ < a.tmps.size; omega)
            clear h13 d13
            try simp only [Nat.reduceAdd] at y34
            have hs0 : 41 < a.tmps.size := by omega
            have HF := Lib.hid hF
            clear hsA
            go_simp
            exact hF.step (i := 20) (d := 41) (v := .bool false) (w' := w') (fun j _ hne => hinj 20 j hne) hmono h0 (by decide) hs0 rfl (later_refl _) (by rw [r20])
          · obtain rfl := (Option.some.inj hop).symm
            have d13 : L.getD 13 false = true := hall ⟨13, .data⟩ (by simp) rfl
            have h13 := hF.val 13 (by decide) d13
            rw [r13] at h13
            have y34 := at_slot (s := 34) h13
            clear h13 d13
            try simp only [Nat.reduceAdd] at y34
            have d20 : L.getD 20 false = true := hall ⟨20, .data⟩ (by simp) rfl
            have h20 := hF.val 20 (by decide) d20
            rw [r20] at h20
            have y41 := at_slot (s := 41) h20
            clear h20 d20
            try simp only [Nat.reduceAdd] at y41
            have hs0 : 42 < a.tmps.size := by omega
            have HF := Lib.hid hF
            clear hsA
            go_simp
            exact hF.step (i := 21) (d := 42) (v := .bool false) (w' := w') (fun j _ hne => hinj 21 j hne) hmono h0 (by decide) hs0 rfl (later_refl _) (by rw [r21])
          · obtain rfl := (Option.some.inj hop).symm
            have d21 : L.getD 21 false = true := hall ⟨21, .data⟩ (by simp) rfl
            have h21 := hF.val 21 (by decide) d21
            rw [r21] at h21
            have y42 := at_slot (s := 42) h21
            clear h21 d21
            try simp only [Nat.reduceAdd] at y42
            have hs0 : 43 < a.tmps.size := by omega
            have HF := Lib.hid hF
            clear hsA
            go_simp
            exact hF.step (i := 22) (d := 43) (v := .bool false) (w' := w') (fun j _ hne => hinj 22 j hne) hmono h0 (by decide) hs0 rfl (later_refl _) (by rw [r22])
          · obtain rfl := (Option.some.inj hop).symm
            have y5 := at_slot ((hF.ag.eval (s := 5) (by decide)).trans e5)
            have d22 : L.getD 22 false = true := hall ⟨22, .guard⟩ (by simp) rfl
            have h22 := hF.val 22 (by decide) d22
            rw [r22] at h22
            have y43 := at_some (s := 43) h22 (by show _ < a.tmps.size; omega)
            clear h22 d22
            try simp only [Nat.reduceAdd] at y43
            obtain ⟨kk0, kk1, lc⟩ := two_of2 (kept hb HX5.out)
            have hs0 : 44 < a.tmps.size := by omega
            have HF := Lib.hid hF
            clear hsA
            go_simp
            exact hF.step (i := 23) (d := 44) (v := relV (.slice p1 A'.vars.length k1) (.slice p2 A'.rows.length k2)) (w' := w') (fun j _ hne => hinj 23 j hne) hmono h0 (by decide) hs0 rfl (later_refl _) (by rw [r23])
          · obtain rfl := (Option.some.inj hop).symm
            have y2 := at_slot ((hF.ag.eval (s := 2) (by decide)).trans e2)
            have d22 : L.getD 22 false = true := hall ⟨22, .guard⟩ (by simp) rfl
            have h22 := hF.val 22 (by decide) d22
            rw [r22] at h22
            have y43 := at_some (s := 43) h22 (by show _ < a.tmps.size; omega)
            clear h22 d22
            try simp only [Nat.reduceAdd] at y43
            obtain ⟨kk0, kk1, lc⟩ := two_of2 (kept hb HZ5.out)
            have hs0 : 45 < a.tmps.size := by omega
            have HF := Lib.hid hF
            clear hsA
            go_simp
            exact hF.step (i := 24) (d := 45) (v := relV (.slice a1 A.vars.length c1) (.slice a2 A.rows.length c2)) (w' := w') (fun j _ hne => hinj 24 j hne) hmono h0 (by decide) hs0 rfl (later_refl _) (by rw [r24])
          · obtain rfl := (Option.some.inj hop).symm
            have d24 : L.getD 24 false = true := hall ⟨24, .data⟩ (by simp) rfl
            have h24 := hF.val 24 (by decide) d24
            rw [r24] at h24
            have y45 := at_slot (s := 45) h24
            clear h24 d24
            try simp only [Nat.reduceAdd] at y45
            have d22 : L.getD 22 false = true := hall ⟨22, .guard⟩ (by simp) rfl
            have h22 := hF.val 22 (by decide) d22
            rw [r22] at h22
            have y43 := at_some (s := 43) h22 (by show _ < a.tmps.size; omega)
            clear h22 d22
            try simp only [Nat.reduceAdd] at y43
            have hs0 : 46 < a.tmps.size := by omega
            have hC := HO46.out w' hb
            have hbs := hb.size
            clear hsA
            go_simp
            refine hC.mono ?_
            rintro e w9 ⟨v1, v2, rfl, hO, hb9⟩
            exact hF.step (i := 25) (d := 46) (v := relV v1 v2) (w' := w9) (fun j _ hne => hinj 25 j hne) hmono h0 (by decide) hs0 rfl hb9 (by rw [r25]; exact ⟨v1, v2, rfl, hO.down hbs⟩)
          · obtain rfl := (Option.some.inj hop).symm
            have d23 : L.getD 23 false = true := hall ⟨23, .data⟩ (by simp) rfl
            have h23 := hF.val 23 (by decide) d23
            rw [r23] at h23
            have y44 := at_slot (s := 44) h23
            clear h23 d23
            try simp only [Nat.reduceAdd] at y44
            have d25 : L.getD 25 false = true := hall ⟨25, .data⟩ (by simp) rfl
            have h25 := hF.val 25 (by decide) d25
            rw [r25] at h25
            obtain ⟨w1, w2, q25, o25⟩ := h25
            have y46 := at_slot (s := 46) q25
            try simp only [Nat.reduceAdd] at y46
            have d22 : L.getD 22 false = true := hall ⟨22, .guard⟩ (by simp) rfl
            have h22 := hF.val 22 (by decide) d22
            rw [r22] at h22
            have y43 := at_some (s := 43) h22 (by show _ < a.tmps.size; omega)
            clear h22 d22
            try simp only [Nat.reduceAdd] at y43
            have hs0 : 47 < a.tmps.size := by omega
            have hC := HS47.out w' w1 w2 hb o25
            obtain ⟨p1, q1, p2, q2, rfl, rfl⟩ := o25.shape
            clear q25 o25 d25
            clear hsA
            have HF := Lib.hid hF
            clear hb
            go_simp
            refine hC.mono ?_
            rintro e w9 ⟨rfl, hb9⟩
            exact hF.step (i := 26) (d := 47) (v := .bool true) (w' := w9) (fun j _ hne => hinj 26 j hne) hmono h0 (by decide) hs0 rfl hb9 (by rw [r26])
          · obtain rfl := (Option.some.inj hop).symm
            have d26 : L.getD 26 false = true := hall ⟨26, .data⟩ (by simp) rfl
            have h26 := hF.val 26 (by decide) d26
            rw [r26] at h26
            have y47 := at_slot (s := 47) h26
            clear h26 d26
            try simp only [Nat.reduceAdd] at y47
            have d22 : L.getD 22 false = true := hall ⟨22, .guard⟩ (by simp) rfl
            have h22 := hF.val 22 (by decide) d22
            rw [r22] at h22
            have y43 := at_some (s := 43) h22 (by show _ < a.tmps.size; omega)
            clear h22 d22
            try simp only [Nat.reduceAdd] at y43
            have hs0 : 48 < a.tmps.size := by omega
            have HF := Lib.hid hF
            clear hsA
            go_simp
            exact hF.step (i := 27) (d := 48) (v := .bool false) (w' := w') (fun j _ hne => hinj 27 j hne) hmono h0 (by decide) hs0 rfl (later_refl _) (by rw [r27])
          · obtain rfl := (Option.some.inj hop).symm
            have d22 : L.getD 22 false = true := hall ⟨22, .data⟩ (by simp) rfl
            have h22 := hF.val 22 (by decide) d22
            rw [r22] at h22
            have y43 := at_slot (s := 43) h22
            clear h22 d22
            try simp only [Nat.reduceAdd] at y43
            have d27 : L.getD 27 false = true := hall ⟨27, .data⟩ (by simp) rfl
            have h27 := hF.val 27 (by decide) d27
            rw [r27] at h27
            have y48 := at_slot (s := 48) h27
            clear h27 d27
            try simp only [Nat.reduceAdd] at y48
            have hs0 : 49 < a.tmps.size := by omega
            have HF := Lib.hid hF
            clear hsA
            go_simp
            exact hF.step (i := 28) (d := 49) (v := .bool false) (w' := w') (fun j _ hne => hinj 28 j hne) hmono h0 (by decide) hs0 rfl (later_refl _) (by rw [r28])
        · rintro L a w' hF hall
          have hv := hF.val 28 (by decide) (hall 28 (by decide))
          rw [r28] at hv
          have hv' : a.tmps.getD (21 + 28) undef = .bool false := hv
          obtain ⟨f, hact⟩ := hF.ag.run 21 28 (by omega) (by decide)
          rw [← HFr.out, hv'] at hact
          simp only [List.take_succ_cons, List.take_zero, List.drop_succ_cons, List.drop_zero, List.cons_append, List.nil_append, Nat.reduceAdd, show List.range 28 = [0, 1, 2, 3, 4, 5, 6, 7, 8, 9, 10, 11, 12, 13, 14, 15, 16, 17, 18, 19, 20, 21, 22, 23, 24, 25, 26, 27] from rfl, List.map_cons, List.map_nil] at hact
          have HE := Lib.hid hF.bel
          clear hF hall hv hv' hinj hmono hsz r0 r1 r2 r3 r4 r5 r6 r7 r8 r9 r10 r11 r12 r13 r14 r15 r16 r17 r18 r19 r20 r21 r22 r23 r24 r25 r26 r27 r28 e2 e5 e6 e7
          subst hact
          clear HFr
          go_wp2_with fail
          go_meet
          exact ⟨rfl, HE.out⟩
      case rest =>
        obtain ⟨rfl, hb6⟩ := hcut
        obtain ⟨W6, rfl⟩ : ∃ W, W = wc := ⟨_, rfl⟩
        have hX6 := kept hb6 HX5.out
        have hA6 := H5.out.1.later hb6
        have HOf := Lib.hid (Of_any _ _ A'.vars A'.rows W6 hA6.vars hA6.rows (by have := HC.out.2.2.2.2.2.2.1; omega) (by have := HC.out.2.2.2.2.2.2.1; omega))
        obtain ⟨x0, x1, lX⟩ := two_of2 hX6
        have H6 := Lib.hid (And.intro hX6 (And.intro hA6 hb6))
        clear hX6 hA6 hb6
        refine ‹∀ (a : Act) (w_1 : World), _ → _› _ _ ?_
        go_wp2_with fail
        refine HOf.out.mono ?_
        rintro e W7 ⟨b7, g1, g2, no, rfl, hyes, hno⟩
        obtain ⟨n1, l1, m1, n2, l2, m2, rfl, rfl⟩ : ∃ n1 l1 m1 n2 l2 m2, g1 = .slice n1 l1 m1 ∧ g2 = .slice n2 l2 m2 := by
          cases hq : (colB A'.vars && !badL A'.vars.length A'.rows) with
          | true =>
            obtain ⟨q1, q2, q3, q4, e1, e2⟩ := (hyes hq).2.shape
            exact ⟨_, _, _, _, _, _, e1, e2⟩
          | false => exact ⟨_, _, _, _, _, _, (hno hq).2.1, (hno hq).2.2⟩
        obtain ⟨W8, hW8⟩ : ∃ W, W = W7.alloc (.cells #[.slice n1 l1 m1, .slice n2 l2 m2] 25) := ⟨_, rfl⟩
        have b8 : Below W7.heap.size W7 W8 := by rw [hW8]; exact later_alloc _ _
        have hT8 : RB W8 W7.heap.size (.slice n1 l1 m1) (.slice n2 l2 m2) := by rw [hW8]; exact box_new _ _ _
        have b68 := later_trans b7 b8
        have hA8 := H6.out.2.1.later b68
        have HCo := Lib.hid (Columns_any _ _ W8 hA8.vars)
        have hyes8 : (colB A'.vars && !badL A'.vars.length A'.rows) = true → no = 0 ∧ OwnRl W6.heap.size W8 (.slice n1 l1 m1) (.slice n2 l2 m2) ⟨A'.vars, ofL A'.rows⟩ := fun h => ⟨(hyes h).1, (hyes h).2.later b8⟩
        obtain ⟨x0, x1, lX⟩ := two_of2 (kept b7 H6.out.1)
        obtain ⟨y0, y1, lY⟩ := two_of2 (kept b68 H6.out.1)
        have H8 := Lib.hid (And.intro (kept b68 H6.out.1) (And.intro hA8 (And.intro hT8 (And.intro b68 (And.intro hyes8 hno)))))
        clear hyes hno b7 b8 hT8 b68 hA8 hyes8
        go_upto_region 8 with fail
        rw [← hW8]
        clear hW8 x0 x1 lX
        go_wp2_with fail
        refine HCo.out.mono ?_
        rintro e W8' ⟨rfl, h8⟩
        subst h8
        clear HCo HOf
        go_wp2_with fail
        clear y0 y1 lY
        go_loop [10, 64] (fun c i => ∃ k : Nat, k ≤ A'.rows.length ∧ i = .int .i64 k ∧ c = .bool (colB A'.vars && !badL A'.vars.length (A'.rows.take k))) (fun c i => A'.rows.length - (intOf i).toNat)
        case atStart => exact ⟨0, Nat.zero_le _, rfl, by rw [List.take_zero, show badL A'.vars.length [] = false from rfl, Bool.not_false, Bool.and_true]⟩
        case round =>
          obtain ⟨k, hk, rfl, rfl⟩ := hrel
          have hvm : A'.vars.length ≤ 9223372036854775807 := by have := HC.out.2.2.2.2.2.2.1; omega
          have hrm : A'.rows.length ≤ 9223372036854775807 := by have := HC.out.2.2.2.2.2.2.1; omega
          by_cases hlt : k < A'.rows.length
          · obtain ⟨_, _, e1, _, _, _, f4⟩ := H8.out.2.1.rows.open
            obtain ⟨b, o, e2, hbb, fc⟩ := f4 (by omega)
            injection e1 with e1a e1b e1c
            subst e1a
            subst e2
            obtain ⟨ru, ce1, hru⟩ := fc k hlt
            change SlI .u64 W8' ru (rowN A'.rows k) at hru
            obtain ⟨x0, x1, lX⟩ := two_of2 H8.out.1
            have hnx : badL A'.vars.length (A'.rows.take (k + 1)) = (badL A'.vars.length (A'.rows.take k) || decide ((rowN A'.rows k).length ≠ A'.vars.length)) := by rw [badL_take hlt, rowN_at hlt]
            have HNx := Lib.hid hnx
            obtain ⟨au, cu, rfl, -⟩ := hru.open
            clear hru fc f4 e1b e1c hnx
            cases hc : (colB A'.vars && !badL A'.vars.length (A'.rows.take k)) with
            | true =>
              have HCv := Lib.hid hc
              clear hc
              by_cases hlen : (rowN A'.rows k).length = A'.vars.length
              · have hl0 : (((rowN A'.rows k).length : Int) == (A'.vars.length : Int)) = true := by rw [beq_iff_eq]; omega
                have HL := Lib.hid hlen
                clear hlen
                go_wp2_with fail
                go_round
                case rel => exact ⟨k + 1, hlt, by go_num, by rw [HNx.out, decide_eq_false (fun h => h HL.out), Bool.or_false, HCv.out]⟩
                case measure => simp [intOf]; omega
              · have hl0 : (((rowN A'.rows k).length : Int) == (A'.vars.length : Int)) = false := by rw [beq_eq_false_iff_ne]; omega
                have HL := Lib.hid hlen
                clear hlen
                go_wp2_with fail
                go_round
                case rel => exact ⟨k + 1, hlt, by go_num, by rw [HNx.out, decide_eq_true HL.out, Bool.or_true, Bool.not_true, Bool.and_false]⟩
                case measure => simp [intOf]; omega
            | false =>
              have HCv := Lib.hid hc
              clear hc
              go_wp2_with fail
              go_round
              case rel => exact ⟨k + 1, hlt, by go_num, by rw [HNx.out, Bool.not_or, ← Bool.and_assoc, HCv.out, Bool.false_and]⟩
              case measure => simp [intOf]; omega
          · obtain rfl : k = A'.rows.length := by omega
            rw [List.take_length]
            cases hq : (colB A'.vars && !badL A'.vars.length A'.rows) with
            | false =>
              obtain ⟨rfl, e1, e2⟩ := H8.out.2.2.2.2.2 hq
              have hT8 := H8.out.2.2.1
              cases e1
              cases e2
              obtain ⟨t0, t1, lT⟩ := two_of2 hT8
              clear hq hT8
              go_wp2_with fail
              go_ret
              exact ⟨rfl, later_trans (later_trans H5.out.2.1 H6.out.2.2) H8.out.2.2.2.1⟩
            | true =>
              obtain ⟨rfl, oS⟩ := H8.out.2.2.2.2.1 hq
              have hwd : Wd A'.vars.length A'.rows := badL_no (by rw [Bool.and_eq_true] at hq; simpa using hq.2)
              have hA8 := H8.out.2.1
              have hT8 := H8.out.2.2.1
              have HO100 : Hid (∀ W, Below W8'.heap.size W8' W → Calls Try.prog 31 #[.slice p1 A'.vars.length k1, .slice p2 A'.rows.length k2] W fun e w' => ∃ v1 v2, e = .returned (relV v1 v2) ∧ RlR w' v1 v2 ⟨A'.vars, ofL A'.rows⟩ ∧ Below W.heap.size W w') := Lib.hid (fun W hb => (OfR_any _ _ A'.vars.length A'.rows W ⟨_, _, _, rfl⟩ (hA8.later hb).rows hwd (by have := HC.out.2.2.2.2.2.2.1; omega)).mono (by
                rintro e w' ⟨v', vs', rfl, hO, hb'⟩
                exact ⟨_, _, rfl, rl_of (R := ⟨A'.vars, ofL A'.rows⟩) ((hA8.later hb).vars.later hb') hO hb', hb'⟩))
              have HS101 : Hid (∀ W v1 v2, Below W8'.heap.size W8' W → RlR W v1 v2 ⟨A'.vars, ofL A'.rows⟩ → Calls Try.prog 17 #[relV (.slice n1 l1 m1) (.slice n2 l2 m2), relV v1 v2] W fun e w' => e = .returned (.bool true) ∧ Below W.heap.size W w') := Lib.hid (fun W v1 v2 hb hO => by
                have := SameR_any _ _ _ _ ⟨A'.vars, ofL A'.rows⟩ ⟨A'.vars, ofL A'.rows⟩ W (oS.rlR.later hb) hO
                rwa [decide_eq_true rfl] at this)
              have HX8 := Lib.hid H8.out.1
              have HT8 := Lib.hid hT8
              have HOS := Lib.hid oS
              clear hq hwd hA8 hT8 oS
              go_upto_region 16 with fail
              go_cut [103] (fun s103 wx => s103 = .bool false ∧ Below W8'.heap.size W8' wx)
              case first =>
                generalize hFr : Act.mk _ _ = a0
                have e5 : a0.eval (.tmp 5) = .pointer (some ⟨X, 0, none⟩) := by rw [← hFr]; rfl
                have e8 : a0.eval (.tmp 8) = .pointer (some ⟨W7.heap.size, 0, none⟩) := by rw [← hFr]; rfl
                have e9 : a0.eval (.tmp 9) = .int .i64 0 := by rw [← hFr]; rfl
                have hsz : 103 < a0.tmps.size := by rw [← hFr]; exact Nat.le_of_ble_eq_true rfl
                have HFr := Lib.hid hFr
                clear hFr
                obtain ⟨R, hR⟩ : ∃ R : Nat → Value → World → Prop, R = fun j v w' => if j = 8 then (∃ v1 v2, v = relV v1 v2 ∧ RlR w' v1 v2 ⟨A'.vars, ofL A'.rows⟩) else v = ([.int .i64 0, .bool false, .bool false, relV (.slice n1 l1 m1) (.slice n2 l2 m2), .pointer (some ⟨X, 0, none⟩), .slice p1 A'.vars.length k1, .pointer (some ⟨X, 1, none⟩), .slice p2 A'.rows.length k2, undef, .bool true, .bool false, .bool false] : List Value).getD j undef := ⟨_, rfl⟩
                have hmono : ∀ j v U V, R j v U → Below U.heap.size U V → R j v V := by
                  rw [hR]
                  intro j v U V h hb
                  by_cases e : j = 8
                  · simp only [if_pos e] at h ⊢
                    obtain ⟨v1, v2, e1, e2⟩ := h
                    exact ⟨v1, v2, e1, e2.later hb⟩
                  · simp only [if_neg e] at h ⊢
                    exact h
                have r0 : ∀ v w', R 0 v w' = (v = .int .i64 0) := fun v w' => by rw [hR]; rfl
                have r1 : ∀ v w', R 1 v w' = (v = .bool false) := fun v w' => by rw [hR]; rfl
                have r2 : ∀ v w', R 2 v w' = (v = .bool false) := fun v w' => by rw [hR]; rfl
                have r3 : ∀ v w', R 3 v w' = (v = relV (.slice n1 l1 m1) (.slice n2 l2 m2)) := fun v w' => by rw [hR]; rfl
                have r4 : ∀ v w', R 4 v w' = (v = .pointer (some ⟨X, 0, none⟩)) := fun v w' => by rw [hR]; rfl
                have r5 : ∀ v w', R 5 v w' = (v = .slice p1 A'.vars.length k1) := fun v w' => by rw [hR]; rfl
                have r6 : ∀ v w', R 6 v w' = (v = .pointer (some ⟨X, 1, none⟩)) := fun v w' => by rw [hR]; rfl
                have r7 : ∀ v w', R 7 v w' = (v = .slice p2 A'.rows.length k2) := fun v w' => by rw [hR]; rfl
                have r8 : ∀ v w', R 8 v w' = (∃ v1 v2, v = relV v1 v2 ∧ RlR w' v1 v2 ⟨A'.vars, ofL A'.rows⟩) := fun v w' => by rw [hR]; rfl
                have r9 : ∀ v w', R 9 v w' = (v = .bool true) := fun v w' => by rw [hR]; rfl
                have r10 : ∀ v w', R 10 v w' = (v = .bool false) := fun v w' => by rw [hR]; rfl
                have r11 : ∀ v w', R 11 v w' = (v = .bool false) := fun v w' => by rw [hR]; rfl
                clear hR
                have hinj : ∀ i j : Nat, j ≠ i → (fun k : Nat => 92 + k) j ≠ (fun k : Nat => 92 + k) i := fun i j h e => h (by have e : 92 + j = 92 + i := e; omega)
                refine Inv.wp_region_inv (J := fun L a w' => Fx 12 a0 [92, 93, 94, 95, 96, 97, 98, 99, 100, 101, 102, 103] W8' (fun k : Nat => 92 + k) R L a w') (by kernel_rfl) (by kernel_rfl) (Fx.start _) ?_ ?_
                · rintro L a w' i op hF h0 hop hall
                  have hi : i < 12 := (Array.getElem?_eq_some_iff.1 hop).1
                  refine Inv.wpOp_of hop ?_
                  have hsA := hF.ag.size
                  have hb := hF.bel
                  have hcase : i = 0 ∨ i = 1 ∨ i = 2 ∨ i = 3 ∨ i = 4 ∨ i = 5 ∨ i = 6 ∨ i = 7 ∨ i = 8 ∨ i = 9 ∨ i = 10 ∨ i = 11 := by omega
                  rcases hcase with rfl | rfl | rfl | rfl | rfl | rfl | rfl | rfl | rfl | rfl | rfl | rfl
                  · obtain rfl := (Option.some.inj hop).symm
                    have y9 := at_slot ((hF.ag.eval (s := 9) (by decide)).trans e9)
                    have hs0 : 92 < a.tmps.size := by omega
                    have HF := Lib.hid hF
                    clear hsA
                    go_simp
                    exact hF.step (i := 0) (d := 92) (v := .int .i64 0) (w' := w') (fun j _ hne => hinj 0 j hne) hmono h0 (by decide) hs0 rfl (later_refl _) (by rw [r0])
                  · obtain rfl := (Option.some.inj hop).symm
                    have d0 : L.getD 0 false = true := hall ⟨0, .data⟩ (by simp) rfl
                    have h0 := hF.val 0 (by decide) d0
                    rw [r0] at h0
                    have y92 := at_slot (s := 92) h0
                    clear h0 d0
                    try simp only [Nat.reduceAdd] at y92
                    have hs0 : 93 < a.tmps.size := by omega
                    have HF := Lib.hid hF
                    clear hsA
                    go_simp
                    exact hF.step (i := 1) (d := 93) (v := .bool false) (w' := w') (fun j _ hne => hinj 1 j hne) hmono h0 (by decide) hs0 rfl (later_refl _) (by rw [r1])
                  · obtain rfl := (Option.some.inj hop).symm
                    have d1 : L.getD 1 false = true := hall ⟨1, .data⟩ (by simp) rfl
                    have h1 := hF.val 1 (by decide) d1
                    rw [r1] at h1
                    have y93 := at_slot (s := 93) h1
                    clear h1 d1
                    try simp only [Nat.reduceAdd] at y93
                    have hs0 : 94 < a.tmps.size := by omega
                    have HF := Lib.hid hF
                    clear hsA
                    go_simp
                    exact hF.step (i := 2) (d := 94) (v := .bool false) (w' := w') (fun j _ hne => hinj 2 j hne) hmono h0 (by decide) hs0 rfl (later_refl _) (by rw [r2])
                  · obtain rfl := (Option.some.inj hop).symm
                    have y8 := at_slot ((hF.ag.eval (s := 8) (by decide)).trans e8)
                    have d2 : L.getD 2 false = true := hall ⟨2, .guard⟩ (by simp) rfl
                    have h2 := hF.val 2 (by decide) d2
                    rw [r2] at h2
                    have y94 := at_some (s := 94) h2 (by show _ < a.tmps.size; omega)
                    clear h2 d2
                    try simp only [Nat.reduceAdd] at y94
                    obtain ⟨kk0, kk1, lc⟩ := two_of2 (kept hb HT8.out)
                    have hs0 : 95 < a.tmps.size := by omega
                    have HF := Lib.hid hF
                    clear hsA
                    go_simp
                    exact hF.step (i := 3) (d := 95) (v := relV (.slice n1 l1 m1) (.slice n2 l2 m2)) (w' := w') (fun j _ hne => hinj 3 j hne) hmono h0 (by decide) hs0 rfl (later_refl _) (by rw [r3])
                  · obtain rfl := (Option.some.inj hop).symm
                    have y5 := at_slot ((hF.ag.eval (s := 5) (by decide)).trans e5)
                    have d2 : L.getD 2 false = true := hall ⟨2, .guard⟩ (by simp) rfl
                    have h2 := hF.val 2 (by decide) d2
                    rw [r2] at h2
                    have y94 := at_some (s := 94) h2 (by show _ < a.tmps.size; omega)
                    clear h2 d2
                    try simp only [Nat.reduceAdd] at y94
                    obtain ⟨kk0, kk1, lc⟩ := two_of2 (kept hb HX8.out)
                    have hs0 : 96 < a.tmps.size := by omega
                    have HF := Lib.hid hF
                    clear hsA
                    go_simp
                    exact hF.step (i := 4) (d := 96) (v := .pointer (some ⟨X, 0, none⟩)) (w' := w') (fun j _ hne => hinj 4 j hne) hmono h0 (by decide) hs0 rfl (later_refl _) (by rw [r4])
                  · obtain rfl := (Option.some.inj hop).symm
                    have d4 : L.getD 4 false = true := hall ⟨4, .data⟩ (by simp) rfl
                    have h4 := hF.val 4 (by decide) d4
                    rw [r4] at h4
                    have y96 := at_slot (s := 96) h4
                    clear h4 d4
                    try simp only [Nat.reduceAdd] at y96
                    have d2 : L.getD 2 false = true := hall ⟨2, .guard⟩ (by simp) rfl
                    have h2 := hF.val 2 (by decide) d2
                    rw [r2] at h2
                    have y94 := at_some (s := 94) h2 (by show _ < a.tmps.size; omega)
                    clear h2 d2
                    try simp only [Nat.reduceAdd] at y94
                    obtain ⟨kk0, kk1, lc⟩ := two_of2 (kept hb HX8.out)
                    have hs0 : 97 < a.tmps.size := by omega
                    have HF := Lib.hid hF
                    clear hsA
                    go_simp
                    exact hF.step (i := 5) (d := 97) (v := .slice p1 A'.vars.length k1) (w' := w') (fun j _ hne => hinj 5 j hne) hmono h0 (by decide) hs0 rfl (later_refl _) (by rw [r5])
                  · obtain rfl := (Option.some.inj hop).symm
                    have y5 := at_slot ((hF.ag.eval (s := 5) (by decide)).trans e5)
                    have d2 : L.getD 2 false = true := hall ⟨2, .guard⟩ (by simp) rfl
                    have h2 := hF.val 2 (by decide) d2
                    rw [r2] at h2
                    have y94 := at_some (s := 94) h2 (by show _ < a.tmps.size; omega)
                    clear h2 d2
                    try simp only [Nat.reduceAdd] at y94
                    obtain ⟨kk0, kk1, lc⟩ := two_of2 (kept hb HX8.out)
                    have hs0 : 98 < a.tmps.size := by omega
                    have HF := Lib.hid hF
                    clear hsA
                    go_simp
                    exact hF.step (i := 6) (d := 98) (v := .pointer (some ⟨X, 1, none⟩)) (w' := w') (fun j _ hne => hinj 6 j hne) hmono h0 (by decide) hs0 rfl (later_refl _) (by rw [r6])
                  · obtain rfl := (Option.some.inj hop).symm
                    have d6 : L.getD 6 false = true := hall ⟨6, .data⟩ (by simp) rfl
                    have h6 := hF.val 6 (by decide) d6
                    rw [r6] at h6
                    have y98 := at_slot (s := 98) h6
                    clear h6 d6
                    try simp only [Nat.reduceAdd] at y98
                    have d2 : L.getD 2 false = true := hall ⟨2, .guard⟩ (by simp) rfl
                    have h2 := hF.val 2 (by decide) d2
                    rw [r2] at h2
                    have y94 := at_some (s := 94) h2 (by show _ < a.tmps.size; omega)
                    clear h2 d2
                    try simp only [Nat.reduceAdd] at y94
                    obtain ⟨kk0, kk1, lc⟩ := two_of2 (kept hb HX8.out)
                    have hs0 : 99 < a.tmps.size := by omega
                    have HF := Lib.hid hF
                    clear hsA
                    go_simp
                    exact hF.step (i := 7) (d := 99) (v := .slice p2 A'.rows.length k2) (w' := w') (fun j _ hne => hinj 7 j hne) hmono h0 (by decide) hs0 rfl (later_refl _) (by rw [r7])
                  · obtain rfl := (Option.some.inj hop).symm
                    have d5 : L.getD 5 false = true := hall ⟨5, .data⟩ (by simp) rfl
                    have h5 := hF.val 5 (by decide) d5
                    rw [r5] at h5
                    have y97 := at_slot (s := 97) h5
                    clear h5 d5
                    try simp only [Nat.reduceAdd] at y97
                    have d7 : L.getD 7 false = true := hall ⟨7, .data⟩ (by simp) rfl
                    have h7 := hF.val 7 (by decide) d7
                    rw [r7] at h7
                    have y99 := at_slot (s := 99) h7
                    clear h7 d7
                    try simp only [Nat.reduceAdd] at y99
                    have d2 : L.getD 2 false = true := hall ⟨2, .guard⟩ (by simp) rfl
                    have h2 := hF.val 2 (by decide) d2
                    rw [r2] at h2
                    have y94 := at_some (s := 94) h2 (by show _ < a.tmps.size; omega)
                    clear h2 d2
                    try simp only [Nat.reduceAdd] at y94
                    have hs0 : 100 < a.tmps.size := by omega
                    have hC := HO100.out w' hb
                    have hbs := hb.size
                    clear hsA
                    go_simp
                    refine hC.mono ?_
                    rintro e w9 ⟨v1, v2, rfl, hO, hb9⟩
                    exact hF.step (i := 8) (d := 100) (v := relV v1 v2) (w' := w9) (fun j _ hne => hinj 8 j hne) hmono h0 (by decide) hs0 rfl hb9 (by rw [r8]; exact ⟨v1, v2, rfl, hO⟩)
                  · obtain rfl := (Option.some.inj hop).symm
                    have d3 : L.getD 3 false = true := hall ⟨3, .data⟩ (by simp) rfl
                    have h3 := hF.val 3 (by decide) d3
                    rw [r3] at h3
                    have y95 := at_slot (s := 95) h3
                    clear h3 d3
                    try simp only [Nat.reduceAdd] at y95
                    have d8 : L.getD 8 false = true := hall ⟨8, .data⟩ (by simp) rfl
                    have h8 := hF.val 8 (by decide) d8
                    rw [r8] at h8
                    obtain ⟨w1, w2, q8, o8⟩ := h8
                    have y100 := at_slot (s := 100) q8
                    try simp only [Nat.reduceAdd] at y100
                    have d2 : L.getD 2 false = true := hall ⟨2, .guard⟩ (by simp) rfl
                    have h2 := hF.val 2 (by decide) d2
                    rw [r2] at h2
                    have y94 := at_some (s := 94) h2 (by show _ < a.tmps.size; omega)
                    clear h2 d2
                    try simp only [Nat.reduceAdd] at y94
                    have hs0 : 101 < a.tmps.size := by omega
                    have hC := HS101.out w' w1 w2 hb o8
                    obtain ⟨p1, q1, p2, q2, rfl, rfl⟩ := o8.shape
                    clear q8 o8 d8
                    clear hsA
                    have HF := Lib.hid hF
                    clear hb
                    go_simp
                    refine hC.mono ?_
                    rintro e w9 ⟨rfl, hb9⟩
                    exact hF.step (i := 9) (d := 101) (v := .bool true) (w' := w9) (fun j _ hne => hinj 9 j hne) hmono h0 (by decide) hs0 rfl hb9 (by rw [r9])
                  · obtain rfl := (Option.some.inj hop).symm
                    have d9 : L.getD 9 false = true := hall ⟨9, .data⟩ (by simp) rfl
                    have h9 := hF.val 9 (by decide) d9
                    rw [r9] at h9
                    have y101 := at_slot (s := 101) h9
                    clear h9 d9
                    try simp only [Nat.reduceAdd] at y101
                    have d2 : L.getD 2 false = true := hall ⟨2, .guard⟩ (by simp) rfl
                    have h2 := hF.val 2 (by decide) d2
                    rw [r2] at h2
                    have y94 := at_some (s := 94) h2 (by show _ < a.tmps.size; omega)
                    clear h2 d2
                    try simp only [Nat.reduceAdd] at y94
                    have hs0 : 102 < a.tmps.size := by omega
                    have HF := Lib.hid hF
                    clear hsA
                    go_simp
                    exact hF.step (i := 10) (d := 102) (v := .bool false) (w' := w') (fun j _ hne => hinj 10 j hne) hmono h0 (by decide) hs0 rfl (later_refl _) (by rw [r10])
                  · obtain rfl := (Option.some.inj hop).symm
                    have d2 : L.getD 2 false = true := hall ⟨2, .data⟩ (by simp) rfl
                    have h2 := hF.val 2 (by decide) d2
                    rw [r2] at h2
                    have y94 := at_slot (s := 94) h2
                    clear h2 d2
                    try simp only [Nat.reduceAdd] at y94
                    have d10 : L.getD 10 false = true := hall ⟨10, .data⟩ (by simp) rfl
                    have h10 := hF.val 10 (by decide) d10
                    rw [r10] at h10
                    have y102 := at_slot (s := 102) h10
                    clear h10 d10
                    try simp only [Nat.reduceAdd] at y102
                    have hs0 : 103 < a.tmps.size := by omega
                    have HF := Lib.hid hF
                    clear hsA
                    go_simp
                    exact hF.step (i := 11) (d := 103) (v := .bool false) (w' := w') (fun j _ hne => hinj 11 j hne) hmono h0 (by decide) hs0 rfl (later_refl _) (by rw [r11])
                · rintro L a w' hF hall
                  have hv := hF.val 11 (by decide) (hall 11 (by decide))
                  rw [r11] at hv
                  have hv' : a.tmps.getD (92 + 11) undef = .bool false := hv
                  obtain ⟨f, hact⟩ := hF.ag.run 92 11 (by omega) (by decide)
                  rw [← HFr.out, hv'] at hact
                  simp only [List.take_succ_cons, List.take_zero, List.drop_succ_cons, List.drop_zero, List.cons_append, List.nil_append, Nat.reduceAdd, show List.range 11 = [0, 1, 2, 3, 4, 5, 6, 7, 8, 9, 10] from rfl, List.map_cons, List.map_nil] at hact
                  have HE := Lib.hid hF.bel
                  clear hF hall hv hv' hinj hmono hsz r0 r1 r2 r3 r4 r5 r6 r7 r8 r9 r10 r11 e5 e8 e9
                  subst hact
                  clear HFr
                  go_wp2_with fail
                  go_meet
                  exact ⟨rfl, HE.out⟩
              case rest =>
                obtain ⟨rfl, hb9⟩ := hcut
                have hSp := spoil_any (HOS.out.later hb9) (Nat.le_trans H8.out.2.2.2.1.size hb9.size)
                have HSp := Lib.hid hSp
                obtain ⟨t0, t1, lT⟩ := two_of2 (kept hb9 HT8.out)
                have H9 := Lib.hid hb9
                clear hSp hb9
                refine ‹∀ (a : Act) (w_1 : World), _ → _› _ _ ?_
                go_wp2_with fail
                refine HSp.out.mono ?_
                rintro e W10 ⟨rfl, b10⟩
                have hb10 := (later_trans H8.out.2.2.2.1 H9.out).trans b10
                have hbw10 := later_trans (later_trans H5.out.2.1 H6.out.2.2) hb10
                have HX10 := Lib.hid (kept hb10 H6.out.1)
                have HZ10 := Lib.hid (kept hb10 (kept H6.out.2.2 HZ5.out))
                have HO108 : Hid (∀ W, Below W10.heap.size W10 W → Calls Try.prog 11 #[relV (.slice a1 A.vars.length c1) (.slice a2 A.rows.length c2)] W fun e w' => ∃ v1 v2, e = .returned (relV v1 v2) ∧ OwnRl W.heap.size w' v1 v2 A' ∧ Below W.heap.size W w') := Lib.hid (fun W hb => by rw [← HC.out.2.2.2.2.2.2.2.1]; exact ownR_any _ _ A W (H0.out.1.later (later_trans hbw10 hb)))
                have HS109 : Hid (∀ W v1 v2, Below W10.heap.size W10 W → OwnRl W10.heap.size W v1 v2 A' → Calls Try.prog 17 #[relV (.slice p1 A'.vars.length k1) (.slice p2 A'.rows.length k2), relV v1 v2] W fun e w' => e = .returned (.bool true) ∧ Below W.heap.size W w') := Lib.hid (fun W v1 v2 hb hO => by
                  have := SameR_any _ _ _ _ A' A' W (H6.out.2.1.later (later_trans hb10 hb)) hO.rlR
                  rwa [decide_eq_true rfl] at this)
                have H10 := Lib.hid hbw10
                clear hb10 hbw10 b10 t0 t1 lT
                go_upto_region 19 with fail
                generalize hFr : Act.mk _ _ = a0
                have e2 : a0.eval (.tmp 2) = .pointer (some ⟨w.heap.size, 0, none⟩) := by rw [← hFr]; rfl
                have e5 : a0.eval (.tmp 5) = .pointer (some ⟨X, 0, none⟩) := by rw [← hFr]; rfl
                have hsz : 109 < a0.tmps.size := by rw [← hFr]; exact Nat.le_of_ble_eq_true rfl
                have HFr := Lib.hid hFr
                clear hFr
                obtain ⟨R, hR⟩ : ∃ R : Nat → Value → World → Prop, R = fun j v w' => if j = 2 then (∃ v1 v2, v = relV v1 v2 ∧ OwnRl W10.heap.size w' v1 v2 A') else v = ([relV (.slice p1 A'.vars.length k1) (.slice p2 A'.rows.length k2), relV (.slice a1 A.vars.length c1) (.slice a2 A.rows.length c2), undef, .bool true, .bool true] : List Value).getD j undef := ⟨_, rfl⟩
                have hmono : ∀ j v U V, R j v U → Below U.heap.size U V → R j v V := by
                  rw [hR]
                  intro j v U V h hb
                  by_cases e : j = 2
                  · simp only [if_pos e] at h ⊢
                    obtain ⟨v1, v2, e1, e2⟩ := h
                    exact ⟨v1, v2, e1, e2.later hb⟩
                  · simp only [if_neg e] at h ⊢
                    exact h
                have r0 : ∀ v w', R 0 v w' = (v = relV (.slice p1 A'.vars.length k1) (.slice p2 A'.rows.length k2)) := fun v w' => by rw [hR]; rfl
                have r1 : ∀ v w', R 1 v w' = (v = relV (.slice a1 A.vars.length c1) (.slice a2 A.rows.length c2)) := fun v w' => by rw [hR]; rfl
                have r2 : ∀ v w', R 2 v w' = (∃ v1 v2, v = relV v1 v2 ∧ OwnRl W10.heap.size w' v1 v2 A') := fun v w' => by rw [hR]; rfl
                have r3 : ∀ v w', R 3 v w' = (v = .bool true) := fun v w' => by rw [hR]; rfl
                have r4 : ∀ v w', R 4 v w' = (v = .bool true) := fun v w' => by rw [hR]; rfl
                clear hR
                have hinj : ∀ i, i < 5 → ∀ j, j < 5 → j ≠ i → (fun k : Nat => ([106, 107, 108, 109, 4] : List Nat).getD k 0) j ≠ (fun k : Nat => ([106, 107, 108, 109, 4] : List Nat).getD k 0) i := by decide
                refine Inv.wp_region_inv (J := fun L a w' => Fx 5 a0 [106, 107, 108, 109, 4] W10 (fun k : Nat => ([106, 107, 108, 109, 4] : List Nat).getD k 0) R L a w') (by kernel_rfl) (by kernel_rfl) (Fx.start _) ?_ ?_
                · rintro L a w' i op hF h0 hop hall
                  have hi : i < 5 := (Array.getElem?_eq_some_iff.1 hop).1
                  refine Inv.wpOp_of hop ?_
                  have hsA := hF.ag.size
                  have hb := hF.bel
                  have hcase : i = 0 ∨ i = 1 ∨ i = 2 ∨ i = 3 ∨ i = 4 := by omega
                  rcases hcase with rfl | rfl | rfl | rfl | rfl
                  · obtain rfl := (Option.some.inj hop).symm
                    have y5 := at_slot ((hF.ag.eval (s := 5) (by decide)).trans e5)
                    obtain ⟨kk0, kk1, lc⟩ := two_of2 (kept hb HX10.out)
                    have hs0 : 106 < a.tmps.size := by omega
                    have HF := Lib.hid hF
                    clear hsA
                    go_simp
                    exact hF.step (i := 0) (d := 106) (v := relV (.slice p1 A'.vars.length k1) (.slice p2 A'.rows.length k2)) (w' := w') (hinj 0 (by decide)) hmono h0 (by decide) hs0 rfl (later_refl _) (by rw [r0])
                  · obtain rfl := (Option.some.inj hop).symm
                    have y2 := at_slot ((hF.ag.eval (s := 2) (by decide)).trans e2)
                    obtain ⟨kk0, kk1, lc⟩ := two_of2 (kept hb HZ10.out)
                    have hs0 : 107 < a.tmps.size := by omega
                    have HF := Lib.hid hF
                    clear hsA
                    go_simp
                    exact hF.step (i := 1) (d := 107) (v := relV (.slice a1 A.vars.length c1) (.slice a2 A.rows.length c2)) (w' := w') (hinj 1 (by decide)) hmono h0 (by decide) hs0 rfl (later_refl _) (by rw [r1])
                  · obtain rfl := (Option.some.inj hop).symm
                    have d1 : L.getD 1 false = true := hall ⟨1, .data⟩ (by simp) rfl
                    have h1 := hF.val 1 (by decide) d1
                    rw [r1] at h1
                    have y107 := at_slot (s := 107) h1
                    clear h1 d1
                    try simp only [Nat.reduceAdd] at y107
                    have hs0 : 108 < a.tmps.size := by omega
                    have hC := HO108.out w' hb
                    have hbs := hb.size
                    clear hsA
                    go_simp
                    refine hC.mono ?_
                    rintro e w9 ⟨v1, v2, rfl, hO, hb9⟩
                    exact hF.step (i := 2) (d := 108) (v := relV v1 v2) (w' := w9) (hinj 2 (by decide)) hmono h0 (by decide) hs0 rfl hb9 (by rw [r2]; exact ⟨v1, v2, rfl, hO.down hbs⟩)
                  · obtain rfl := (Option.some.inj hop).symm
                    have d0 : L.getD 0 false = true := hall ⟨0, .data⟩ (by simp) rfl
                    have h0 := hF.val 0 (by decide) d0
                    rw [r0] at h0
                    have y106 := at_slot (s := 106) h0
                    clear h0 d0
                    try simp only [Nat.reduceAdd] at y106
                    have d2 : L.getD 2 false = true := hall ⟨2, .data⟩ (by simp) rfl
                    have h2 := hF.val 2 (by decide) d2
                    rw [r2] at h2
                    obtain ⟨w1, w2, q2, o2⟩ := h2
                    have y108 := at_slot (s := 108) q2
                    try simp only [Nat.reduceAdd] at y108
                    have hs0 : 109 < a.tmps.size := by omega
                    have hC := HS109.out w' w1 w2 hb o2
                    obtain ⟨p1, q1, p2, q2, rfl, rfl⟩ := o2.shape
                    clear q2 o2 d2
                    clear hsA
                    have HF := Lib.hid hF
                    clear hb
                    go_simp
                    refine hC.mono ?_
                    rintro e w9 ⟨rfl, hb9⟩
                    exact hF.step (i := 3) (d := 109) (v := .bool true) (w' := w9) (hinj 3 (by decide)) hmono h0 (by decide) hs0 rfl hb9 (by rw [r3])
                  · obtain rfl := (Option.some.inj hop).symm
                    have d3 : L.getD 3 false = true := hall ⟨3, .data⟩ (by simp) rfl
                    have h3 := hF.val 3 (by decide) d3
                    rw [r3] at h3
                    have y109 := at_slot (s := 109) h3
                    clear h3 d3
                    try simp only [Nat.reduceAdd] at y109
                    have hs0 : 4 < a.tmps.size := by omega
                    have HF := Lib.hid hF
                    clear hsA
                    go_simp
                    exact hF.step (i := 4) (d := 4) (v := .bool true) (w' := w') (hinj 4 (by decide)) hmono h0 (by decide) hs0 rfl (later_refl _) (by rw [r4])
                · rintro L a w' hF hall
                  have hv := hF.val 4 (by decide) (hall 4 (by decide))
                  rw [r4] at hv
                  have hv' : a.tmps.getD 4 undef = .bool true := hv
                  have hact := hF.ag.act
                  rw [← HFr.out] at hact
                  simp only [List.foldl_cons, List.foldl_nil, hv'] at hact
                  obtain ⟨z106, hz106⟩ : ∃ z, a.tmps.getD 106 undef = z := ⟨_, rfl⟩
                  obtain ⟨z107, hz107⟩ : ∃ z, a.tmps.getD 107 undef = z := ⟨_, rfl⟩
                  obtain ⟨z108, hz108⟩ : ∃ z, a.tmps.getD 108 undef = z := ⟨_, rfl⟩
                  obtain ⟨z109, hz109⟩ : ∃ z, a.tmps.getD 109 undef = z := ⟨_, rfl⟩
                  rw [hz106, hz107, hz108, hz109] at hact
                  simp only [List.setIfInBounds_toArray, List.set_cons_zero, List.set_cons_succ] at hact
                  clear hz106 hz107 hz108 hz109
                  have HE := Lib.hid hF.bel
                  clear hF hall hv hv' hinj hmono hsz r0 r1 r2 r3 r4 e2 e5
                  subst hact
                  clear HFr
                  go_wp2_with fail
                  go_ret
                  exact ⟨rfl, later_trans H10.out HE.out⟩
end Go.Proofs.Ytdeiinfljfgmeaa
