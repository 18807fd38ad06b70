/-
  HyperWhole, walked.
-/
import Derived.Deep.RegionHeld3
import Derived.Deep.AppendLies
import Derived.Deep.DeepCutAuto
import Derived.Test.YtplidcbfbonjlaaDoorHzApp
import Derived.Test.YtplidcbfbonjlaaDoorHzPl
namespace Go.Proofs.YtplidcbfbonjlaaDoor
open Go.RowKit Go.Shelf Go.Lib
set_option linter.unusedVariables false
set_option linter.unusedSimpArgs false

def tab12 : TabT := [(36, .val), (37, .val), (38, .val), (39, .val), (40, .clone), (41, .val), (42, .cell), (43, .grown), (44, .agg), (8, .box), (8, .store)]
def tab19 : TabT := [(81, .val), (82, .val), (83, .val), (84, .val), (85, .clone), (86, .val), (87, .val), (88, .val), (89, .val), (90, .val), (91, .cell), (92, .grown), (93, .agg), (12, .box), (12, .store)]
set_option maxRecDepth 100000 in
set_option maxHeartbeats 8000000 in
theorem hyperWhole_any (m : Int) (ev : Value) (ls : List (List Int)) (at0 : Int) (w : World) (h : SlRK .i64 w ev ls) (hT : TabW w) :
    Calls Tryd.prog 6 #[hypV m ev, .int .i64 at0] w fun e w' => e = .returned (.bool true) ∧ Below w.heap.size w w' := by
  have H := Lib.hid (And.intro h hT)
  obtain ⟨ku, hku⟩ : ∃ k : Int, IntKind.u64.wrap at0 = k := ⟨_, rfl⟩
  have hku0 : 0 ≤ ku ∧ ku < 18446744073709551616 := by
    rw [← hku]
    constructor
    · simp [IntKind.wrap, IntKind.bits, IntKind.signed]; omega
    · simp [IntKind.wrap, IntKind.bits, IntKind.signed]; omega
  have HKU := Lib.hid hku0
  clear hku0
  obtain ⟨ae, ce, rfl, -⟩ := h.open
  clear h hT
  go_enter Tryd.func6, Tryd.ntmps6
  have H0 := Lib.hid (And.intro (box_new w #[.int .i64 m, .slice ae ls.length ce] 24) (later_alloc w (.cells #[.int .i64 m, .slice ae ls.length ce] 24)))
  go_wp2_with fail
  refine (wakes_any _ (H.out.2.later H0.out.2)).mono ?_
  rintro e w1 ⟨rfl, hb1⟩
  have H1 := Lib.hid (And.intro (kept hb1 H0.out.1) (later_trans H0.out.2 hb1))
  obtain ⟨c0, c1, f0, f1, lN⟩ := two_of H1.out.1
  clear hb1
  go_wp2_with fail
  refine (own_any m _ ls _ (H.out.1.later H1.out.2)).mono ?_
  rintro e w2 ⟨hv, ps, rfl, hO, hps, hb2⟩
  obtain ⟨ah, ch, rfl⟩ := owns_shape2 hO.own
  have hR := hO.slR
  rw [hps] at hR
  have hpl : ps.length = (ownL ls).length := by rw [← hps, List.length_map]
  obtain ⟨E, hE⟩ : ∃ E, ownL ls = E := ⟨_, rfl⟩
  rw [hE] at hR hpl
  obtain ⟨n, hn⟩ : ∃ n, E.length = n := ⟨_, rfl⟩
  rw [hn] at hpl
  rw [hpl] at hR ⊢
  have hb2' := later_trans hb2 (later_alloc w2 (.cells #[.int .i64 m, .slice ah n ch] 24))
  have hI2 : HyI w w2.heap.size m (.slice ah n ch) E (w2.alloc (.cells #[.int .i64 m, .slice ah n ch] 24)) := ⟨later_trans H1.out.2 hb2', box_new _ _ _, hR.later (later_alloc _ _), by have := hb2.size; omega, H.out.2.later (later_trans H1.out.2 hb2')⟩
  clear hO hps hpl hb2 hb2' hR c0 c1 f0 f1 lN hE
  go_upto_region 4 with fail
  obtain ⟨W2, hw2⟩ : ∃ W, w2.alloc (.cells #[.int .i64 m, .slice ah n ch] 24) = W := ⟨_, rfl⟩
  rw [hw2] at hI2
  try rw [hw2]
  obtain ⟨Y, hY⟩ : ∃ Y, w2.heap.size = Y := ⟨_, rfl⟩
  rw [hY] at hI2 ⊢
  have H2 := Lib.hid (And.intro hI2 hn)
  obtain ⟨c0, c1, -, -, lY⟩ := two_of hI2.box
  clear hI2 hw2 hY hn
  have hC2 := hyperCheck_any m (.slice ah n ch) E W2 H2.out.1.row
  cases hy : hypB m E with
  | false =>
    rw [hy] at hC2
    simp only [Bool.false_eq_true, if_false] at hC2
    have HC := Lib.hid hC2
    clear hC2 hy
    go_wp2_with fail
    refine HC.out.mono ?_
    rintro e w4 ⟨rfl, b4⟩
    have HE := Lib.hid (later_trans H2.out.1.bel b4)
    clear b4
    go_wp2_with fail
    go_ret
    exact ⟨rfl, HE.out⟩
  | true =>
    rw [hy] at hC2
    simp only [if_true] at hC2
    have hy4 := hypB_yes hy
    have hn40 : n ≤ 40 := by have := H2.out.2; omega
    have HC := Lib.hid (And.intro hC2 hy)
    have HY := Lib.hid hy4
    obtain ⟨mm, rfl⟩ : ∃ mm : Nat, m = mm := ⟨m.toNat, (Int.toNat_of_nonneg hy4.1).symm⟩
    have hm32 : mm ≤ 32 := by have := hy4.2.1; omega
    clear hC2 hy hy4
    by_cases h40 : n = 40
    · subst h40
      go_wp2_with fail
      refine HC.out.1.mono ?_
      rintro e w4 ⟨rfl, b4⟩
      have hI4 := H2.out.1.later b4
      clear c0 c1 lY
      obtain ⟨c0, c1, -, -, lY⟩ := two_of hI4.box
      have HE := Lib.hid hI4.bel
      clear b4 hI4
      go_wp2_with fail
      go_ret
      exact ⟨rfl, HE.out⟩
    · have hnI : ¬ (n : Int) = 40 := by omega
      have hnJ : ((n : Int) == 40) = false := by rw [beq_eq_false_iff_ne]; exact hnI
      clear h40
      go_wp2_with fail
      refine HC.out.1.mono ?_
      rintro e w4 ⟨rfl, b4⟩
      have hI4 := H2.out.1.later b4
      clear c0 c1 lY
      obtain ⟨c0, c1, -, -, lY⟩ := two_of hI4.box
      have H4 := Lib.hid hI4
      clear b4 hI4
      obtain ⟨i0, hi, hz0, hz1, hz2⟩ := info_parts info_int
      go_wp2_with fail
      go_loopw [28, 6] (fun i v wr => ∃ k : Nat, k ≤ mm ∧ i = .int .i64 k ∧ wr.ownsRow w4.heap.size 3 1 v k ((upL k).map (.int .i64)) ∧ Below w4.heap.size w4 wr) (fun i _ _ => mm - (intOf i).toNat)
      case atStart => exact ⟨0, Nat.zero_le _, rfl, World.ownsRow_nil _ _ _ _, later_refl _⟩
      case round =>
        obtain ⟨k, hk, rfl, hO, hb⟩ := hrel
        have hsz := hb.size
        obtain ⟨av, cv, rfl⟩ := owns_shape2 (n := k) (by simpa using hO)
        clear c0 c1 lY
        obtain ⟨c0, c1, -, -, lY⟩ := two_of (H4.out.later hb).box
        by_cases hkm : k < mm
        · have hkI : (k : Int) < mm := by omega
          have HB := Lib.hid hb
          clear hb
          have hOA := hO.alloc (.cells #[.int .i64 (k : Int)] 3)
          go_wp2_with (at_builtin; refine wpList_append_own _ rfl (.tmp 31) (.tmp 33) 27 rfl w4.heap.size 3 i0 _ 1 8 Tryd.underlying27 hi hz0 hz1 hz2 rfl (by decide) _ _ _ rfl hOA ⟨wr.heap.size, 0, none⟩ 1 1 [.int .i64 (k : Int)] rfl rfl (cells_new _ _ _) (by simp [Value.oneCell']) (by unfold maxLen; omega) (by omega) (by simp; omega) ?_; intro v6 w6 hown6 hgrow6 _)
          have hb6 : Below w4.heap.size w4 w6 := (later_trans HB.out (later_alloc _ _)).grown hgrow6 (by rw [World.size_alloc]; omega) (fun k e => owns_above hOA k e)
          have HX := Lib.hid (And.intro hown6 hb6)
          clear hown6 hgrow6 hb6 hOA hO
          go_roundw
          case rel => exact ⟨k + 1, hkm, by go_num, by rw [upL_snoc, List.map_append]; exact HX.out.1, HX.out.2⟩
          case measure => simp [intOf]; omega
        · obtain rfl : k = mm := by omega
          have hI5 := H4.out.later hb
          have hAll : SlI .i64 wr (.slice av k cv) (upL k) := by
            have := SlI.of_owns (xs := upL k) hO (fun x hx => by
              unfold upL at hx
              obtain ⟨i, hi, rfl⟩ := List.mem_map.1 hx
              have := List.mem_range.1 hi
              exact WalkArith.wf_i64 (by omega))
            exact this
          obtain ⟨rv, hrC, hrR⟩ := hI5.row
          have hCl : ∀ W, Below wr.heap.size wr W → Calls Tryd.prog 25 #[.slice ah n ch] W fun e w' => ∃ a c, e = .returned (.slice a n c) ∧ w'.ownsRow wr.heap.size 27 1 (.slice a n c) n ((List.range n).map rv) ∧ Below W.heap.size W w' := fun W hbW => by
            refine (cloneRW_any (.slice ah n ch) E rv W (hrC.later hbW) (fun r hr => (hrR r hr).later hbW) (by have := H2.out.2; omega)).mono ?_
            rintro e w' ⟨v', rfl, h1, h3⟩
            rw [H2.out.2] at h1
            obtain ⟨a, c, rfl⟩ := owns_shape2 (n := n) (by simpa using h1)
            exact ⟨a, c, rfl, owns_down h1 hbW.size, h3⟩
          have hrR' : ∀ r, r < n → SlI .i64 wr (rv r) (rowN E r) := fun r hr => hrR r (by have := H2.out.2; omega)
          obtain ⟨r0, hr, rz0, rz1, rz2⟩ := info_parts info_rowI
          have HCl := Lib.hid (And.intro hCl (And.intro hI5 (And.intro hAll hrR')))
          clear hCl hI5 hAll hO hb hrC hrR hrR'
          -- [W
          go_upto_region 12 with fail
          go_cut [8] (fun s8 wx => ∃ (X : Nat) (a6 : Option Addr) (c6 : Nat), s8 = .pointer (some ⟨X, 0, none⟩) ∧ HB wx X k (.slice a6 (n + 1) c6) ∧ SlRK .i64 wx (.slice a6 (n + 1) c6) (E ++ [upL k]) ∧ Below wr.heap.size wr wx)
          case first =>
            generalize hA : Act.mk _ _ = a0
            have e5 : a0.eval (.tmp 5) = .pointer (some ⟨Y, 0, none⟩) := by rw [← hA]; rfl
            have e6 : a0.eval (.tmp 6) = .slice av k cv := by rw [← hA]; rfl
            have hsz : 45 < a0.tmps.size := by rw [← hA]; exact Nat.le_of_ble_eq_true rfl
            have HA := Lib.hid hA
            clear hA
            have hTB : TabOk tab12 7 10 9 := TabT.ok_ok (by rfl)
            refine Inv.wp_region_inv (J := fun L a w' => Inv.Fa tab12.length a0 [36, 37, 38, 39, 40, 41, 42, 43, 44, 8] (FA ⟨wr.heap.size, n, (List.range n).map rv, Value.slice av k cv, Value.int .i64 (k : Int), 7, 10, 9⟩ tab12 (fun j => [.pointer (some ⟨Y, 0, none⟩), .int .i64 (k : Int), .pointer (some ⟨Y, 1, none⟩), .slice ah n ch, undef, .slice av k cv, undef, undef, undef, undef, undef].getD j undef)) L a w' ∧ Below wr.heap.size wr w') (by kernel_rfl) (by kernel_rfl) ⟨Inv.Fa.start _, later_drew _⟩ ?_ ?_
            · rintro L a w' i op ⟨hF, hb⟩ h0 hop hall
              have hi : i < 11 := (Array.getElem?_eq_some_iff.1 hop).1
              refine Inv.wpOp_of hop ?_
              have hcase : i = 0 ∨ i = 1 ∨ i = 2 ∨ i = 3 ∨ i = 4 ∨ i = 5 ∨ i = 6 ∨ i = 7 ∨ i = 8 ∨ i = 9 ∨ i = 10 := by omega
              rcases hcase with rfl | rfl | rfl | rfl | rfl | rfl | rfl | rfl | rfl | rfl | rfl
              · obtain rfl := (Option.some.inj hop).symm
                have hs0 : 36 < a.tmps.size := by have := hF.ag.size; omega
                have y5 : a.tmps[5]?.getD undef = .pointer (some ⟨Y, 0, none⟩) := by have h := (hF.ag.eval (s := 5) (by decide)).trans e5; simpa [Act.eval] using h
                go_simp
                exact ap_step (i := 0) (v := .pointer (some ⟨Y, 0, none⟩)) hTB hF (by decide) (show (0 : Nat) ≠ 10 by decide) (by decide) hs0 h0 (later_refl _) rfl
              · obtain rfl := (Option.some.inj hop).symm
                have hs0 : 37 < a.tmps.size := by have := hF.ag.size; omega
                have d0 : L.getD 0 false = true := hall ⟨0, .data⟩ (by simp) rfl
                have y36 : a.tmps[36]?.getD undef = .pointer (some ⟨Y, 0, none⟩) := by have h : a.eval (.tmp 36) = .pointer (some ⟨Y, 0, none⟩) := hF.facts 0 (by decide) d0; simpa [Act.eval] using h
                obtain ⟨k0, k1, -, -, kC⟩ := two_of (kept hb HCl.out.2.1.box)
                go_simp
                exact ap_step (i := 1) (v := .int .i64 (k : Int)) hTB hF (by decide) (show (1 : Nat) ≠ 10 by decide) (by decide) hs0 h0 (later_refl _) rfl
              · obtain rfl := (Option.some.inj hop).symm
                have hs0 : 38 < a.tmps.size := by have := hF.ag.size; omega
                have y5 : a.tmps[5]?.getD undef = .pointer (some ⟨Y, 0, none⟩) := by have h := (hF.ag.eval (s := 5) (by decide)).trans e5; simpa [Act.eval] using h
                go_simp
                exact ap_step (i := 2) (v := .pointer (some ⟨Y, 1, none⟩)) hTB hF (by decide) (show (2 : Nat) ≠ 10 by decide) (by decide) hs0 h0 (later_refl _) rfl
              · obtain rfl := (Option.some.inj hop).symm
                have hs0 : 39 < a.tmps.size := by have := hF.ag.size; omega
                have d2 : L.getD 2 false = true := hall ⟨2, .data⟩ (by simp) rfl
                have y38 : a.tmps[38]?.getD undef = .pointer (some ⟨Y, 1, none⟩) := by have h : a.eval (.tmp 38) = .pointer (some ⟨Y, 1, none⟩) := hF.facts 2 (by decide) d2; simpa [Act.eval] using h
                obtain ⟨k0, k1, -, -, kC⟩ := two_of (kept hb HCl.out.2.1.box)
                go_simp
                exact ap_step (i := 3) (v := .slice ah n ch) hTB hF (by decide) (show (3 : Nat) ≠ 10 by decide) (by decide) hs0 h0 (later_refl _) rfl
              · obtain rfl := (Option.some.inj hop).symm
                have hs0 : 40 < a.tmps.size := by have := hF.ag.size; omega
                have d3 : L.getD 3 false = true := hall ⟨3, .data⟩ (by simp) rfl
                have y39 : a.tmps[39]?.getD undef = .slice ah n ch := by have h : a.eval (.tmp 39) = .slice ah n ch := hF.facts 3 (by decide) d3; simpa [Act.eval] using h
                have hCl := HCl.out.1 w' hb
                go_simp
                refine hCl.mono ?_
                rintro e w9 ⟨a9, c9, rfl, h91, h93⟩
                exact ⟨ap_step (i := 4) (v := .slice a9 n c9) hTB hF (by decide) (show (4 : Nat) ≠ 10 by decide) (by decide) hs0 h0 h93 (fun _ => ⟨a9, c9, rfl, h91⟩), later_trans hb h93⟩
              · obtain rfl := (Option.some.inj hop).symm
                have hs0 : 41 < a.tmps.size := by have := hF.ag.size; omega
                have y6 : a.tmps[6]?.getD undef = .slice av k cv := by have h := (hF.ag.eval (s := 6) (by decide)).trans e6; simpa [Act.eval] using h
                go_simp
                exact ap_step (i := 5) (v := .slice av k cv) hTB hF (by decide) (show (5 : Nat) ≠ 10 by decide) (by decide) hs0 h0 (later_refl _) rfl
              · obtain rfl := (Option.some.inj hop).symm
                have hs0 : 42 < a.tmps.size := by have := hF.ag.size; omega
                have d5 : L.getD 5 false = true := hall ⟨5, .data⟩ (by simp) rfl
                have y41 : a.tmps[41]?.getD undef = .slice av k cv := by have h : a.eval (.tmp 41) = .slice av k cv := hF.facts 5 (by decide) d5; simpa [Act.eval] using h
                go_simp
                exact ⟨ap_step (i := 6) (v := .slice (some ⟨w'.heap.size, 0, none⟩) 1 1) hTB hF (by decide) (show (6 : Nat) ≠ 10 by decide) (by decide) hs0 h0 (later_alloc _ _) (fun _ => ⟨w'.heap.size, rfl, box_new _ _ _⟩), later_trans hb (later_alloc _ _)⟩
              · obtain rfl := (Option.some.inj hop).symm
                have hs0 : 43 < a.tmps.size := by have := hF.ag.size; omega
                have dc : L.getD 4 false = true := hall ⟨4, .data⟩ (by simp) rfl
                have de : L.getD 6 false = true := hall ⟨6, .data⟩ (by simp) rfl
                have h8f : L.getD 7 false = false := false_of' h0
                obtain ⟨av9, cv9, er, hor⟩ : ∃ av cv, a.eval (.tmp 40) = .slice av n cv ∧ w'.ownsRow wr.heap.size 27 1 (a.eval (.tmp 40)) n ((List.range n).map rv) := (hF.facts 4 (by decide) dc : FK _ _ .clone _ _ _) h8f
                obtain ⟨b9, ec, hoc⟩ : ∃ b, a.eval (.tmp 42) = .slice (some ⟨b, 0, none⟩) 1 1 ∧ w'.heap[b]? = some (.cells #[Value.slice av k cv] 27 (0, 0)) := (hF.facts 6 (by decide) de : FK _ _ .cell _ _ _) h8f
                rw [er] at hor
                have hbs := hb.size
                refine step_append_lies _ rfl (.tmp 40) (.tmp 42) 22 rfl wr.heap.size 27 r0 _ 1 24 Tryd.underlying22 hr rz0 rz1 rz2 rfl (by decide) (.slice av9 n cv9) n _ er hor ⟨b9, 0, none⟩ 1 1 [Value.slice av k cv] ec rfl (World.news_of_block (cs := #[Value.slice av k cv]) (t := 27) (fr := (0, 0)) hoc) (by simp [Value.oneCell']) (by decide) (by unfold maxLen; omega) (by omega) hbs _ rfl ?_
                intro g6 cap6 w6 hown6 hgrow6 hat6 hlt6
                exact ⟨ap_app (v := .slice (some ⟨g6, 0, none⟩) (n + 1) cap6) hTB hF (show 7 < tab12.length by decide) (show (7 : Nat) ≠ 10 by decide) (show tab12.d 7 ∈ [36, 37, 38, 39, 40, 41, 42, 43, 44, 8] by decide) hs0 h0 rfl hor hgrow6 ⟨g6, cap6, rfl, hown6⟩, hb.grown hgrow6 hbs (fun k e => owns_above hor k e)⟩
              · obtain rfl := (Option.some.inj hop).symm
                have hs0 : 44 < a.tmps.size := by have := hF.ag.size; omega
                have d1 : L.getD 1 false = true := hall ⟨1, .data⟩ (by simp) rfl
                have y37 : a.tmps[37]?.getD undef = .int .i64 (k : Int) := by have h : a.eval (.tmp 37) = .int .i64 (k : Int) := hF.facts 1 (by decide) d1; simpa [Act.eval] using h
                have dg : L.getD 7 false = true := hall ⟨7, .data⟩ (by simp) rfl
                obtain ⟨g8, c8, e8, o8⟩ : ∃ g cap, a.eval (.tmp 43) = .slice (some ⟨g, 0, none⟩) (n + 1) cap ∧ w'.ownsRow wr.heap.size 27 1 (a.eval (.tmp 43)) (n + 1) ((List.range n).map rv ++ [Value.slice av k cv]) := hF.facts 7 (by decide) dg
                have y43 : a.tmps[43]?.getD undef = .slice (some ⟨g8, 0, none⟩) (n + 1) c8 := by simpa [Act.eval] using e8
                rw [e8] at o8
                have HO8 := Lib.hid o8
                clear o8 e8
                go_simp
                exact ap_step (i := 8) (v := .agg #[Value.int .i64 (k : Int), .slice (some ⟨g8, 0, none⟩) (n + 1) c8]) hTB hF (by decide) (show (8 : Nat) ≠ 10 by decide) (by decide) hs0 h0 (later_refl _) ⟨upT (set_less' h0) dg, _, rfl, g8, c8, rfl, HO8.out⟩
              · obtain rfl := (Option.some.inj hop).symm
                have hs0 : 8 < a.tmps.size := by have := hF.ag.size; omega
                have hsz0 := hb.size
                go_simp
                exact ⟨ap_step (i := 9) (v := .pointer (some ⟨w'.heap.size, 0, none⟩)) hTB hF (by decide) (show (9 : Nat) ≠ 10 by decide) (by decide) hs0 h0 (later_alloc _ _) (fun _ => ⟨w'.heap.size, rfl, hsz0, box_new _ _ _⟩), later_trans hb (later_alloc _ _)⟩
              · obtain rfl := (Option.some.inj hop).symm
                have db : L.getD 9 false = true := hall ⟨9, .data⟩ (by simp) rfl
                have da : L.getD 8 false = true := hall ⟨8, .data⟩ (by simp) rfl
                obtain ⟨lq, x9, e9, g9, c9, rfl, o9⟩ : L.getD 7 false = true ∧ ∃ x, a.eval (.tmp 44) = .agg #[Value.int .i64 (k : Int), x] ∧ ∃ g cap, x = .slice (some ⟨g, 0, none⟩) (n + 1) cap ∧ w'.ownsRow wr.heap.size 27 1 x (n + 1) ((List.range n).map rv ++ [Value.slice av k cv]) := hF.facts 8 (by decide) da
                obtain ⟨X, e10, hBX, hX⟩ : ∃ X : Nat, a.eval (.tmp 8) = .pointer (some ⟨X, 0, none⟩) ∧ wr.heap.size ≤ X ∧ w'.heap[X]? = some (.cells #[.int .i64 0, .slice none 0 0] 24 (0, 0)) := (hF.facts 9 (by decide) db : FK _ _ .box _ _ _) (false_of' h0)
                have y44 : a.tmps[44]?.getD undef = .agg #[Value.int .i64 (k : Int), .slice (some ⟨g9, 0, none⟩) (n + 1) c9] := by simpa [Act.eval] using e9
                have y8 : a.tmps[8]?.getD undef = .pointer (some ⟨X, 0, none⟩) := by simpa [Act.eval] using e10
                obtain ⟨k0, k1, j0, j1, kX⟩ := two_of hX
                have HO9 := Lib.hid (And.intro o9 hX)
                clear o9 e9 hX
                go_simp
                exact ⟨ap_store (mi := (k : Int)) rfl hTB hF h0 db lq e10 hBX HO9.out.2 ⟨g9, c9, rfl, HO9.out.1⟩, below_set (below_set hb hBX) hBX⟩
            · rintro L a w' ⟨hF, hb⟩ hall
              obtain ⟨-, x9, ⟨X, e10, hBX, hX⟩, ⟨g9, c9, rfl, o9⟩⟩ : (L.getD 9 false = true ∧ L.getD 7 false = true) ∧ ∃ x, (∃ X : Nat, a.eval (.tmp 8) = .pointer (some ⟨X, 0, none⟩) ∧ wr.heap.size ≤ X ∧ w'.heap[X]? = some (.cells #[Value.int .i64 (k : Int), x] 24 (0, 0))) ∧ ∃ g cap, x = .slice (some ⟨g, 0, none⟩) (n + 1) cap ∧ w'.ownsRow wr.heap.size 27 1 x (n + 1) ((List.range n).map rv ++ [Value.slice av k cv]) := hF.facts 10 (by decide) (hall 10 (by decide))
              obtain ⟨f, hact⟩ := hF.ag.block 8 36 9 (by decide) (by omega) (by decide)
              have e10' : a.tmps.getD 8 undef = .pointer (some ⟨X, 0, none⟩) := e10
              rw [← HA.out, e10'] at hact
              simp only [List.take_succ_cons, List.take_zero, List.drop_succ_cons, List.drop_zero, List.cons_append, List.nil_append, Nat.reduceSub, Nat.reduceAdd, show List.range 9 = [0, 1, 2, 3, 4, 5, 6, 7, 8] from rfl, List.map_cons, List.map_nil] at hact
              have HE := Lib.hid (And.intro (app_slR o9 HCl.out.2.2.2 HCl.out.2.2.1 H2.out.2 hb) (And.intro hX hb))
              clear hF hall e10 e10' o9 hX hb e5 e6 hsz
              subst hact
              clear HA
              go_wp2_with fail
              go_meet
              exact ⟨X, _, _, rfl, HE.out.2.1, HE.out.1, HE.out.2.2⟩
          case rest =>
            obtain ⟨X, a6, c6, rfl, hX, hS, hb⟩ := hcut
            have hI6 := HCl.out.2.1.later hb
            have hTr := Tree_any (k : Int) (.slice a6 (n + 1) c6) (E ++ [upL k]) wc hS
            clear c0 c1 lY
            obtain ⟨c0, c1, -, -, lY⟩ := two_of hI6.box
            obtain ⟨x0, x1, -, -, lX⟩ := two_of hX
            have H6 := Lib.hid (And.intro hI6 (And.intro hS hX))
            have HTr := Lib.hid hTr
            clear hI6 hTr hS hX hb
            go_wp2_with fail
            refine HTr.out.mono ?_
            rintro e w7 ⟨tv, P, no, rfl, hP, hT7, b7⟩
            obtain ⟨rfl, hac, hJ⟩ := whole_tree HC.out.2 (by have := H2.out.2; omega) hT7
            have hPn : P.length = n + 1 := by have := hJ.len; rw [List.length_map, List.length_append, List.length_singleton] at this; have := H2.out.2; omega
            obtain ⟨ta, tc, rfl⟩ := owns_shape2 hP
            have hPI := SlI.of_tree hP (.inr hJ) (by omega)
            rw [hPn] at hPI
            rw [hPn]
            have hI7 := H6.out.1.later b7
            have hS7 := H6.out.2.1.later b7
            have hX7 := kept b7 H6.out.2.2
            have hAc := AcyclicB_any (k : Int) (.slice a6 (n + 1) c6) (E ++ [upL k]) w7 hS7 hI7.tab
            rw [hac] at hAc
            clear c0 c1 lY x0 x1 lX
            obtain ⟨c0, c1, -, -, lY⟩ := two_of hI7.box
            obtain ⟨x0, x1, -, -, lX⟩ := two_of hX7
            have H7 := Lib.hid (And.intro hI7 (And.intro hS7 (And.intro hX7 (And.intro hPI hJ))))
            have HAc := Lib.hid hAc
            clear hI7 hS7 hX7 hPI hJ hac hAc hP hT7 b7
            go_wp2_with fail
            refine HAc.out.mono ?_
            rintro e w8 ⟨rfl, b8⟩
            have hI8 := H7.out.1.later b8
            have hJo := Joins_any (k : Int) (.slice a6 (n + 1) c6) (.slice ta (n + 1) tc) (E ++ [upL k]) P w8 (H7.out.2.1.later b8) (H7.out.2.2.2.1.later b8) (by omega)
            clear c0 c1 lY x0 x1 lX
            obtain ⟨c0, c1, -, -, lY⟩ := two_of hI8.box
            obtain ⟨x0, x1, -, -, lX⟩ := two_of (kept b8 H7.out.2.2.1)
            have H8 := Lib.hid (And.intro hI8 hJo)
            clear hI8 hJo b8
            go_wp2_with fail
            refine H8.out.2.mono ?_
            rintro e w9 ⟨hTe, b9⟩
            obtain rfl := hTe.is ⟨hyp_app HC.out.2 (by have := H2.out.2; omega) (up_edge k), H7.out.2.2.2.2⟩
            have hI9 := H8.out.1.later b9
            clear c0 c1 lY x0 x1 lX
            obtain ⟨c0, c1, -, -, lY⟩ := two_of hI9.box
            have H9 := Lib.hid hI9
            clear hI9 b9 hTe
            by_cases hn0 : n = 0
            · subst hn0
              have hAc := AcyclicB_any (k : Int) (.slice ah 0 ch) E w9 H9.out.row H9.out.tab
              have hE0 : E = [] := List.eq_nil_of_length_eq_zero H2.out.2
              have hac : acB k E = true := acB_iff.2 ⟨HC.out.2, by rw [hE0]; exact ⟨Cof.self _, Keep.self _, irr_nil⟩⟩
              rw [hac] at hAc
              have HAc := Lib.hid hAc
              clear hAc hE0 hac
              go_wp2_with fail
              refine HAc.out.mono ?_
              rintro e wa ⟨rfl, ba⟩
              have HE := Lib.hid (later_trans H9.out.bel ba)
              clear ba
              go_wp2_with fail
              go_ret
              exact ⟨rfl, HE.out⟩
            · obtain ⟨j, hj⟩ : ∃ j : Nat, (j : Int) = ku % (n : Int) := ⟨(ku % (n : Int)).toNat, Int.toNat_of_nonneg (Int.emod_nonneg _ (by omega))⟩
              have hjn : j < n := by have := Int.emod_lt_of_pos ku (show (0 : Int) < (n : Int) by omega); omega
              obtain ⟨_, _, e1, _, _, _, f4⟩ := H9.out.row.open
              obtain ⟨b, o, e2, _, fc⟩ := f4 (by have := H2.out.2; omega)
              injection e1 with e1a e1b e1c
              subst e1a e1c
              subst e2
              obtain ⟨rk, ck, sk⟩ := fc j (by have := H2.out.2; omega)
              obtain ⟨a0v, c0v, rfl, -⟩ := sk.open
              obtain ⟨le, hle⟩ : ∃ le, (rowN E j).length = le := ⟨_, rfl⟩
              rw [hle] at ck sk
              have HSk := Lib.hid (And.intro sk hle)
              have hwu : IntKind.u64.wrap (n : Int) = (n : Int) := by simp [IntKind.wrap, IntKind.bits, IntKind.signed]; omega
              have htm : Int.tmod ku (n : Int) = (j : Int) := by rw [Int.tmod_eq_emod_of_nonneg HKU.out.1, hj]
              have hwk : IntKind.i64.wrap (j : Int) = (j : Int) := by simp [IntKind.wrap, IntKind.bits, IntKind.signed]; omega
              have hne : ¬ ((n : Int) = 0) := by omega
              have hneb : ((n : Int) == 0) = false := by rw [beq_eq_false_iff_ne]; exact hne
              clear f4 fc e1b sk hj hle
              go_upto_region 19 with fail
              go_quiet (fail)
              obtain ⟨ws, hws⟩ : ∃ ws, w9.drewN nq = ws := ⟨_, rfl⟩
              have hbs : Below w9.heap.size w9 ws := by rw [← hws]; exact later_drewN _ _
              rw [hws]
              clear hws hwu htm hwk hne hneb c0 c1 lY ck
              have hI10 := H9.out.later hbs
              obtain ⟨hf, hhf⟩ : ∃ hf, le / 2 = hf := ⟨_, rfl⟩
              have hfl : hf ≤ le := by omega
              have hle9 : le ≤ 9223372036854775807 ∧ le ≤ c0v ∧ c0v ≤ 9223372036854775807 := by
                obtain ⟨_, _, e1, h1, h2, _⟩ := HSk.out.1.open
                injection e1 with _ e1b e1c
                have := HSk.out.2
                subst e1c
                omega
              have hAl2 : SlI .i64 ws (.slice a0v hf c0v) ((rowN E j).take hf) := SlI.later (SlI.cut2 (k := .i64) HSk.out.1 (by have := HSk.out.2; omega)) hbs
              obtain ⟨rv, hrC, hrR⟩ := hI10.row
              have hCl : ∀ W, Below ws.heap.size ws W → Calls Tryd.prog 25 #[.slice (some ⟨b, o, none⟩) n ch] W fun e w' => ∃ a c, e = .returned (.slice a n c) ∧ w'.ownsRow ws.heap.size 27 1 (.slice a n c) n ((List.range n).map rv) ∧ Below W.heap.size W w' := fun W hbW => by
                refine (cloneRW_any (.slice (some ⟨b, o, none⟩) n ch) E rv W (hrC.later hbW) (fun r hr => (hrR r hr).later hbW) (by have := H2.out.2; omega)).mono ?_
                rintro e w' ⟨v', rfl, h1, h3⟩
                rw [H2.out.2] at h1
                obtain ⟨a, c, rfl⟩ := owns_shape2 (n := n) (by simpa using h1)
                exact ⟨a, c, rfl, owns_down h1 hbW.size, h3⟩
              have hrR' : ∀ r, r < n → SlI .i64 ws (rv r) (rowN E r) := fun r hr => hrR r (by have := H2.out.2; omega)
              have HC2 := Lib.hid (And.intro hCl (And.intro hI10 (And.intro hAl2 hrR')))
              have hqt : Int.tdiv (le : Int) 2 = (hf : Int) := by rw [Int.tdiv_eq_ediv_of_nonneg (by omega)]; omega
              have hqw : IntKind.i64.wrap (hf : Int) = (hf : Int) := by simp [IntKind.wrap, IntKind.bits, IntKind.signed]; omega
              have hfc : hf ≤ c0v := by omega
              clear hCl hI10 hAl2 hrC hrR hrR' hbs hhf hfl
              go_upto_region 19 with fail
              go_cut [12] (fun s12 wx => ∃ (X : Nat) (a6 : Option Addr) (c6 : Nat), s12 = .pointer (some ⟨X, 0, none⟩) ∧ HB wx X k (.slice a6 (n + 1) c6) ∧ SlRK .i64 wx (.slice a6 (n + 1) c6) (E ++ [(rowN E j).take hf]) ∧ Below ws.heap.size ws wx)
              case first =>
                generalize hA : Act.mk _ _ = a0
                have e5 : a0.eval (.tmp 5) = .pointer (some ⟨Y, 0, none⟩) := by rw [← hA]; rfl
                have e11 : a0.eval (.tmp 11) = .slice a0v le c0v := by rw [← hA]; rfl
                have hsz : 94 < a0.tmps.size := by rw [← hA]; exact Nat.le_of_ble_eq_true rfl
                have HA := Lib.hid hA
                clear hA
                have hTB : TabOk tab19 11 14 13 := TabT.ok_ok (by rfl)
                refine Inv.wp_region_inv (J := fun L a w' => Inv.Fa tab19.length a0 [81, 82, 83, 84, 85, 86, 87, 88, 89, 90, 91, 92, 93, 12] (FA ⟨ws.heap.size, n, (List.range n).map rv, Value.slice a0v hf c0v, Value.int .i64 (k : Int), 11, 14, 13⟩ tab19 (fun j => [.pointer (some ⟨Y, 0, none⟩), .int .i64 (k : Int), .pointer (some ⟨Y, 1, none⟩), .slice (some ⟨b, o, none⟩) n ch, undef, .slice a0v le c0v, .slice a0v le c0v, .int .i64 (le : Int), .int .i64 (hf : Int), .slice a0v hf c0v, undef, undef, undef, undef, undef].getD j undef)) L a w' ∧ Below ws.heap.size ws w') (by kernel_rfl) (by kernel_rfl) ⟨Inv.Fa.start _, later_drew _⟩ ?_ ?_
                · rintro L a w' i op ⟨hF, hb⟩ h0 hop hall
                  have hi : i < 15 := (Array.getElem?_eq_some_iff.1 hop).1
                  refine Inv.wpOp_of hop ?_
                  have hcase : i = 0 ∨ i = 1 ∨ i = 2 ∨ i = 3 ∨ i = 4 ∨ i = 5 ∨ i = 6 ∨ i = 7 ∨ i = 8 ∨ i = 9 ∨ i = 10 ∨ i = 11 ∨ i = 12 ∨ i = 13 ∨ i = 14 := by omega
                  rcases hcase with rfl | rfl | rfl | rfl | rfl | rfl | rfl | rfl | rfl | rfl | rfl | rfl | rfl | rfl | rfl
                  · obtain rfl := (Option.some.inj hop).symm
                    have hs0 : 81 < a.tmps.size := by have := hF.ag.size; omega
                    have y5 : a.tmps[5]?.getD undef = .pointer (some ⟨Y, 0, none⟩) := by have h := (hF.ag.eval (s := 5) (by decide)).trans e5; simpa [Act.eval] using h
                    go_simp
                    exact ap_step (i := 0) (v := .pointer (some ⟨Y, 0, none⟩)) hTB hF (by decide) (show (0 : Nat) ≠ 14 by decide) (by decide) hs0 h0 (later_refl _) rfl
                  · obtain rfl := (Option.some.inj hop).symm
                    have hs0 : 82 < a.tmps.size := by have := hF.ag.size; omega
                    have d0 : L.getD 0 false = true := hall ⟨0, .data⟩ (by simp) rfl
                    have y81 : a.tmps[81]?.getD undef = .pointer (some ⟨Y, 0, none⟩) := by have h : a.eval (.tmp 81) = .pointer (some ⟨Y, 0, none⟩) := hF.facts 0 (by decide) d0; simpa [Act.eval] using h
                    obtain ⟨k0, k1, -, -, kC⟩ := two_of (kept hb HC2.out.2.1.box)
                    go_simp
                    exact ap_step (i := 1) (v := .int .i64 (k : Int)) hTB hF (by decide) (show (1 : Nat) ≠ 14 by decide) (by decide) hs0 h0 (later_refl _) rfl
                  · obtain rfl := (Option.some.inj hop).symm
                    have hs0 : 83 < a.tmps.size := by have := hF.ag.size; omega
                    have y5 : a.tmps[5]?.getD undef = .pointer (some ⟨Y, 0, none⟩) := by have h := (hF.ag.eval (s := 5) (by decide)).trans e5; simpa [Act.eval] using h
                    go_simp
                    exact ap_step (i := 2) (v := .pointer (some ⟨Y, 1, none⟩)) hTB hF (by decide) (show (2 : Nat) ≠ 14 by decide) (by decide) hs0 h0 (later_refl _) rfl
                  · obtain rfl := (Option.some.inj hop).symm
                    have hs0 : 84 < a.tmps.size := by have := hF.ag.size; omega
                    have d2 : L.getD 2 false = true := hall ⟨2, .data⟩ (by simp) rfl
                    have y83 : a.tmps[83]?.getD undef = .pointer (some ⟨Y, 1, none⟩) := by have h : a.eval (.tmp 83) = .pointer (some ⟨Y, 1, none⟩) := hF.facts 2 (by decide) d2; simpa [Act.eval] using h
                    obtain ⟨k0, k1, -, -, kC⟩ := two_of (kept hb HC2.out.2.1.box)
                    go_simp
                    exact ap_step (i := 3) (v := .slice (some ⟨b, o, none⟩) n ch) hTB hF (by decide) (show (3 : Nat) ≠ 14 by decide) (by decide) hs0 h0 (later_refl _) rfl
                  · obtain rfl := (Option.some.inj hop).symm
                    have hs0 : 85 < a.tmps.size := by have := hF.ag.size; omega
                    have d3 : L.getD 3 false = true := hall ⟨3, .data⟩ (by simp) rfl
                    have y84 : a.tmps[84]?.getD undef = .slice (some ⟨b, o, none⟩) n ch := by have h : a.eval (.tmp 84) = .slice (some ⟨b, o, none⟩) n ch := hF.facts 3 (by decide) d3; simpa [Act.eval] using h
                    have hCl := HC2.out.1 w' hb
                    go_simp
                    refine hCl.mono ?_
                    rintro e w9 ⟨a9, c9, rfl, h91, h93⟩
                    exact ⟨ap_step (i := 4) (v := .slice a9 n c9) hTB hF (by decide) (show (4 : Nat) ≠ 14 by decide) (by decide) hs0 h0 h93 (fun _ => ⟨a9, c9, rfl, h91⟩), later_trans hb h93⟩
                  · obtain rfl := (Option.some.inj hop).symm
                    have hs0 : 86 < a.tmps.size := by have := hF.ag.size; omega
                    have y11 : a.tmps[11]?.getD undef = .slice a0v le c0v := by have h := (hF.ag.eval (s := 11) (by decide)).trans e11; simpa [Act.eval] using h
                    go_simp
                    exact ap_step (i := 5) (v := .slice a0v le c0v) hTB hF (by decide) (show (5 : Nat) ≠ 14 by decide) (by decide) hs0 h0 (later_refl _) rfl
                  · obtain rfl := (Option.some.inj hop).symm
                    have hs0 : 87 < a.tmps.size := by have := hF.ag.size; omega
                    have y11 : a.tmps[11]?.getD undef = .slice a0v le c0v := by have h := (hF.ag.eval (s := 11) (by decide)).trans e11; simpa [Act.eval] using h
                    go_simp
                    exact ap_step (i := 6) (v := .slice a0v le c0v) hTB hF (by decide) (show (6 : Nat) ≠ 14 by decide) (by decide) hs0 h0 (later_refl _) rfl
                  · obtain rfl := (Option.some.inj hop).symm
                    have hs0 : 88 < a.tmps.size := by have := hF.ag.size; omega
                    have d6 : L.getD 6 false = true := hall ⟨6, .data⟩ (by simp) rfl
                    have y87 : a.tmps[87]?.getD undef = .slice a0v le c0v := by have h : a.eval (.tmp 87) = .slice a0v le c0v := hF.facts 6 (by decide) d6; simpa [Act.eval] using h
                    go_simp
                    exact ap_step (i := 7) (v := .int .i64 (le : Int)) hTB hF (by decide) (show (7 : Nat) ≠ 14 by decide) (by decide) hs0 h0 (later_refl _) rfl
                  · obtain rfl := (Option.some.inj hop).symm
                    have hs0 : 89 < a.tmps.size := by have := hF.ag.size; omega
                    have d7 : L.getD 7 false = true := hall ⟨7, .data⟩ (by simp) rfl
                    have y88 : a.tmps[88]?.getD undef = .int .i64 (le : Int) := by have h : a.eval (.tmp 88) = .int .i64 (le : Int) := hF.facts 7 (by decide) d7; simpa [Act.eval] using h
                    go_simp
                    exact ap_step (i := 8) (v := .int .i64 (hf : Int)) hTB hF (by decide) (show (8 : Nat) ≠ 14 by decide) (by decide) hs0 h0 (later_refl _) rfl
                  · obtain rfl := (Option.some.inj hop).symm
                    have hs0 : 90 < a.tmps.size := by have := hF.ag.size; omega
                    have d5 : L.getD 5 false = true := hall ⟨5, .data⟩ (by simp) rfl
                    have y86 : a.tmps[86]?.getD undef = .slice a0v le c0v := by have h : a.eval (.tmp 86) = .slice a0v le c0v := hF.facts 5 (by decide) d5; simpa [Act.eval] using h
                    have d8 : L.getD 8 false = true := hall ⟨8, .data⟩ (by simp) rfl
                    have y89 : a.tmps[89]?.getD undef = .int .i64 (hf : Int) := by have h : a.eval (.tmp 89) = .int .i64 (hf : Int) := hF.facts 8 (by decide) d8; simpa [Act.eval] using h
                    go_simp
                    exact ap_step (i := 9) (v := .slice a0v hf c0v) hTB hF (by decide) (show (9 : Nat) ≠ 14 by decide) (by decide) hs0 h0 (later_refl _) rfl
                  · obtain rfl := (Option.some.inj hop).symm
                    have hs0 : 91 < a.tmps.size := by have := hF.ag.size; omega
                    have d9 : L.getD 9 false = true := hall ⟨9, .data⟩ (by simp) rfl
                    have y90 : a.tmps[90]?.getD undef = .slice a0v hf c0v := by have h : a.eval (.tmp 90) = .slice a0v hf c0v := hF.facts 9 (by decide) d9; simpa [Act.eval] using h
                    go_simp
                    exact ⟨ap_step (i := 10) (v := .slice (some ⟨w'.heap.size, 0, none⟩) 1 1) hTB hF (by decide) (show (10 : Nat) ≠ 14 by decide) (by decide) hs0 h0 (later_alloc _ _) (fun _ => ⟨w'.heap.size, rfl, box_new _ _ _⟩), later_trans hb (later_alloc _ _)⟩
                  · obtain rfl := (Option.some.inj hop).symm
                    have hs0 : 92 < a.tmps.size := by have := hF.ag.size; omega
                    have dc : L.getD 4 false = true := hall ⟨4, .data⟩ (by simp) rfl
                    have de : L.getD 10 false = true := hall ⟨10, .data⟩ (by simp) rfl
                    have h8f : L.getD 11 false = false := false_of' h0
                    obtain ⟨av9, cv9, er, hor⟩ : ∃ av cv, a.eval (.tmp 85) = .slice av n cv ∧ w'.ownsRow ws.heap.size 27 1 (a.eval (.tmp 85)) n ((List.range n).map rv) := (hF.facts 4 (by decide) dc : FK _ _ .clone _ _ _) h8f
                    obtain ⟨b9, ec, hoc⟩ : ∃ b, a.eval (.tmp 91) = .slice (some ⟨b, 0, none⟩) 1 1 ∧ w'.heap[b]? = some (.cells #[Value.slice a0v hf c0v] 27 (0, 0)) := (hF.facts 10 (by decide) de : FK _ _ .cell _ _ _) h8f
                    rw [er] at hor
                    have hbs := hb.size
                    refine step_append_lies _ rfl (.tmp 85) (.tmp 91) 22 rfl ws.heap.size 27 r0 _ 1 24 Tryd.underlying22 hr rz0 rz1 rz2 rfl (by decide) (.slice av9 n cv9) n _ er hor ⟨b9, 0, none⟩ 1 1 [Value.slice a0v hf c0v] ec rfl (World.news_of_block (cs := #[Value.slice a0v hf c0v]) (t := 27) (fr := (0, 0)) hoc) (by simp [Value.oneCell']) (by decide) (by unfold maxLen; omega) (by omega) hbs _ rfl ?_
                    intro g6 cap6 w6 hown6 hgrow6 hat6 hlt6
                    exact ⟨ap_app (v := .slice (some ⟨g6, 0, none⟩) (n + 1) cap6) hTB hF (show 11 < tab19.length by decide) (show (11 : Nat) ≠ 14 by decide) (show tab19.d 11 ∈ [81, 82, 83, 84, 85, 86, 87, 88, 89, 90, 91, 92, 93, 12] by decide) hs0 h0 rfl hor hgrow6 ⟨g6, cap6, rfl, hown6⟩, hb.grown hgrow6 hbs (fun k e => owns_above hor k e)⟩
                  · obtain rfl := (Option.some.inj hop).symm
                    have hs0 : 93 < a.tmps.size := by have := hF.ag.size; omega
                    have d1 : L.getD 1 false = true := hall ⟨1, .data⟩ (by simp) rfl
                    have y82 : a.tmps[82]?.getD undef = .int .i64 (k : Int) := by have h : a.eval (.tmp 82) = .int .i64 (k : Int) := hF.facts 1 (by decide) d1; simpa [Act.eval] using h
                    have dg : L.getD 11 false = true := hall ⟨11, .data⟩ (by simp) rfl
                    obtain ⟨g8, c8, e8, o8⟩ : ∃ g cap, a.eval (.tmp 92) = .slice (some ⟨g, 0, none⟩) (n + 1) cap ∧ w'.ownsRow ws.heap.size 27 1 (a.eval (.tmp 92)) (n + 1) ((List.range n).map rv ++ [Value.slice a0v hf c0v]) := hF.facts 11 (by decide) dg
                    have y92 : a.tmps[92]?.getD undef = .slice (some ⟨g8, 0, none⟩) (n + 1) c8 := by simpa [Act.eval] using e8
                    rw [e8] at o8
                    have HO8 := Lib.hid o8
                    clear o8 e8
                    go_simp
                    exact ap_step (i := 12) (v := .agg #[Value.int .i64 (k : Int), .slice (some ⟨g8, 0, none⟩) (n + 1) c8]) hTB hF (by decide) (show (12 : Nat) ≠ 14 by decide) (by decide) hs0 h0 (later_refl _) ⟨upT (set_less' h0) dg, _, rfl, g8, c8, rfl, HO8.out⟩
                  · obtain rfl := (Option.some.inj hop).symm
                    have hs0 : 12 < a.tmps.size := by have := hF.ag.size; omega
                    have hsz0 := hb.size
                    go_simp
                    exact ⟨ap_step (i := 13) (v := .pointer (some ⟨w'.heap.size, 0, none⟩)) hTB hF (by decide) (show (13 : Nat) ≠ 14 by decide) (by decide) hs0 h0 (later_alloc _ _) (fun _ => ⟨w'.heap.size, rfl, hsz0, box_new _ _ _⟩), later_trans hb (later_alloc _ _)⟩
                  · obtain rfl := (Option.some.inj hop).symm
                    have db : L.getD 13 false = true := hall ⟨13, .data⟩ (by simp) rfl
                    have da : L.getD 12 false = true := hall ⟨12, .data⟩ (by simp) rfl
                    obtain ⟨lq, x9, e9, g9, c9, rfl, o9⟩ : L.getD 11 false = true ∧ ∃ x, a.eval (.tmp 93) = .agg #[Value.int .i64 (k : Int), x] ∧ ∃ g cap, x = .slice (some ⟨g, 0, none⟩) (n + 1) cap ∧ w'.ownsRow ws.heap.size 27 1 x (n + 1) ((List.range n).map rv ++ [Value.slice a0v hf c0v]) := hF.facts 12 (by decide) da
                    obtain ⟨X, e10, hBX, hX⟩ : ∃ X : Nat, a.eval (.tmp 12) = .pointer (some ⟨X, 0, none⟩) ∧ ws.heap.size ≤ X ∧ w'.heap[X]? = some (.cells #[.int .i64 0, .slice none 0 0] 24 (0, 0)) := (hF.facts 13 (by decide) db : FK _ _ .box _ _ _) (false_of' h0)
                    have y93 : a.tmps[93]?.getD undef = .agg #[Value.int .i64 (k : Int), .slice (some ⟨g9, 0, none⟩) (n + 1) c9] := by simpa [Act.eval] using e9
                    have y12 : a.tmps[12]?.getD undef = .pointer (some ⟨X, 0, none⟩) := by simpa [Act.eval] using e10
                    obtain ⟨k0, k1, j0, j1, kX⟩ := two_of hX
                    have HO9 := Lib.hid (And.intro o9 hX)
                    clear o9 e9 hX
                    go_simp
                    exact ⟨ap_store (mi := (k : Int)) rfl hTB hF h0 db lq e10 hBX HO9.out.2 ⟨g9, c9, rfl, HO9.out.1⟩, below_set (below_set hb hBX) hBX⟩
                · rintro L a w' ⟨hF, hb⟩ hall
                  obtain ⟨-, x9, ⟨X, e10, hBX, hX⟩, ⟨g9, c9, rfl, o9⟩⟩ : (L.getD 13 false = true ∧ L.getD 11 false = true) ∧ ∃ x, (∃ X : Nat, a.eval (.tmp 12) = .pointer (some ⟨X, 0, none⟩) ∧ ws.heap.size ≤ X ∧ w'.heap[X]? = some (.cells #[Value.int .i64 (k : Int), x] 24 (0, 0))) ∧ ∃ g cap, x = .slice (some ⟨g, 0, none⟩) (n + 1) cap ∧ w'.ownsRow ws.heap.size 27 1 x (n + 1) ((List.range n).map rv ++ [Value.slice a0v hf c0v]) := hF.facts 14 (by decide) (hall 14 (by decide))
                  obtain ⟨f, hact⟩ := hF.ag.block 12 81 13 (by decide) (by omega) (by decide)
                  have e10' : a.tmps.getD 12 undef = .pointer (some ⟨X, 0, none⟩) := e10
                  rw [← HA.out, e10'] at hact
                  simp only [List.take_succ_cons, List.take_zero, List.drop_succ_cons, List.drop_zero, List.cons_append, List.nil_append, Nat.reduceSub, Nat.reduceAdd, show List.range 13 = [0, 1, 2, 3, 4, 5, 6, 7, 8, 9, 10, 11, 12] from rfl, List.map_cons, List.map_nil] at hact
                  have HE := Lib.hid (And.intro (app_slR o9 HC2.out.2.2.2 HC2.out.2.2.1 H2.out.2 hb) (And.intro hX hb))
                  clear hF hall e10 e10' o9 hX hb e5 e11 hsz
                  subst hact
                  clear HA
                  go_wp2_with fail
                  go_meet
                  exact ⟨X, _, _, rfl, HE.out.2.1, HE.out.1, HE.out.2.2⟩
              case rest =>
                obtain ⟨Z, a8, c8, rfl, hZ, hS, hb⟩ := hcut
                have hI11 := HC2.out.2.1.later hb
                have hyM : hypB k (E ++ [(rowN E j).take hf]) = true := hyp_app HC.out.2 (by have := H2.out.2; omega) (take_edge (hypB_edge HC.out.2 (by have := H2.out.2; omega)) _)
                obtain ⟨ps, hps⟩ : ∃ ps, partsTo E k = ps := ⟨_, rfl⟩
                have hL1 : ∀ W, Below wc.heap.size wc W → Calls Tryd.prog 14 #[hypV k (.slice a8 (n + 1) c8)] W fun e w' => ∃ v' out, e = .returned v' ∧ SlRK .i64 w' v' out ∧ LeftP k (E ++ [(rowN E j).take hf]) out ∧ Below W.heap.size W w' := fun W hW => Left_any k _ _ W (hS.later hW) (hI11.tab.later hW)
                have hL2 : ∀ W, Below wc.heap.size wc W → Calls Tryd.prog 14 #[hypV k (.slice (some ⟨b, o, none⟩) n ch)] W fun e w' => ∃ v' out, e = .returned v' ∧ SlRK .i64 w' v' out ∧ LeftP k E out ∧ Below W.heap.size W w' := fun W hW => Left_any k _ _ W (hI11.row.later hW) (hI11.tab.later hW)
                have hP1 : ∀ W, Below wc.heap.size wc W → Calls Tryd.prog 23 #[hypV k (.slice a8 (n + 1) c8)] W fun e w' => ∃ v', e = .returned v' ∧ SlRK .i64 w' v' ps ∧ Below W.heap.size W w' := fun W hW => by
                  have := Parts_any k _ _ W (hS.later hW) (hI11.tab.later hW) hyM
                  rwa [parts_more (by have := H2.out.2; omega), Int.toNat_natCast, hps] at this
                have hP2 : ∀ W, Below wc.heap.size wc W → Calls Tryd.prog 23 #[hypV k (.slice (some ⟨b, o, none⟩) n ch)] W fun e w' => ∃ v', e = .returned v' ∧ SlRK .i64 w' v' ps ∧ Below W.heap.size W w' := fun W hW => by
                  have := Parts_any k _ _ W (hI11.row.later hW) (hI11.tab.later hW) HC.out.2
                  rwa [Int.toNat_natCast, hps] at this
                have hEq : ∀ o1 o2, LeftP k (E ++ [(rowN E j).take hf]) o1 → LeftP k E o2 → o1 = o2 := fun o1 o2 h1 h2 => left_more HC.out.2 (by have := H2.out.2; omega) (by have := H2.out.2; omega) h1 h2
                obtain ⟨c0, c1, -, -, lY⟩ := two_of hI11.box
                obtain ⟨z0, z1, -, -, lZ⟩ := two_of hZ
                have HK : Hid (∀ W, Below wc.heap.size wc W → W.cell? ⟨Y, 0, none⟩ = some (.int .i64 k) ∧ W.cell? ⟨Y, 1, none⟩ = some (.slice (some ⟨b, o, none⟩) n ch) ∧ W.cell? ⟨Z, 0, none⟩ = some (.int .i64 k) ∧ W.cell? ⟨Z, 1, none⟩ = some (.slice a8 (n + 1) c8)) := Lib.hid (fun W hb => ⟨cell_next hb c0, cell_next hb c1, cell_next hb z0, cell_next hb z1⟩)
                have HCs := Lib.hid (And.intro hL1 (And.intro hL2 (And.intro hP1 (And.intro hP2 hEq))))
                have HI := Lib.hid hI11.bel
                clear hL1 hL2 hP1 hP2 hEq hI11 hyM hps hZ hS hb hqt hqw hfc hku hle9
                go_upto_region 20 with fail
                go_cut [4] (fun s4 wx => s4 = .bool true ∧ Below wc.heap.size wc wx)
                case first =>
                  go_region_held3 (fun W => W.cell? ⟨Y, 0, none⟩ = some (.int .i64 k) ∧ W.cell? ⟨Y, 1, none⟩ = some (.slice (some ⟨b, o, none⟩) n ch) ∧ W.cell? ⟨Z, 0, none⟩ = some (.int .i64 k) ∧ W.cell? ⟨Z, 1, none⟩ = some (.slice a8 (n + 1) c8))
                    (first | exact HK.out _ (later_refl _) | exact HK.out _ (later_drew _) | exact HK.out _ hbT | exact HK.out _ hbD | exact HK.out _ hbC | exact HK.out _ hbS | exact HK.out _ hbB | exact HK.out _ hbA | assumption)
                    (first
                      | (go_at_call 14; have hguard1 := hv1; refine (HCs.out.2.1 _ (by first | exact hbT | exact hbD | exact hbC | exact hbS | exact hbB | exact hbA | exact later_drew _ | exact later_refl _)).mono ?_; rintro e wB ⟨v2, o2, rfl, hv2, hq2, hB1⟩; obtain ⟨l2a, l2c, rfl, -⟩ := hv2.open; have hbB : Below wc.heap.size wc wB := (later_trans (by first | exact hbT | exact hbD | exact hbC | exact hbS | exact hbB | exact hbA | exact later_drew _ | exact later_refl _) hB1))
                      | (go_at_call 14; refine (HCs.out.1 _ (by first | exact hbT | exact hbD | exact hbC | exact hbS | exact hbB | exact hbA | exact later_drew _ | exact later_refl _)).mono ?_; rintro e wA ⟨v1, o1, rfl, hv1, hq1, hA1⟩; obtain ⟨l1a, l1c, rfl, -⟩ := hv1.open; have hbA : Below wc.heap.size wc wA := (later_trans (by first | exact hbT | exact hbD | exact hbC | exact hbS | exact hbB | exact hbA | exact later_drew _ | exact later_refl _) hA1))
                      | (go_at_call 23; have hguard2 := hp1; refine (HCs.out.2.2.2.1 _ (by first | exact hbT | exact hbD | exact hbC | exact hbS | exact hbB | exact hbA | exact later_drew _ | exact later_refl _)).mono ?_; rintro e wD ⟨p2, rfl, hp2, hD1⟩; obtain ⟨l4a, l4c, rfl, -⟩ := hp2.open; have hbD : Below wc.heap.size wc wD := (later_trans (by first | exact hbT | exact hbD | exact hbC | exact hbS | exact hbB | exact hbA | exact later_drew _ | exact later_refl _) hD1))
                      | (go_at_call 23; refine (HCs.out.2.2.1 _ (by first | exact hbT | exact hbD | exact hbC | exact hbS | exact hbB | exact hbA | exact later_drew _ | exact later_refl _)).mono ?_; rintro e wC ⟨p1, rfl, hp1, hC1⟩; obtain ⟨l3a, l3c, rfl, -⟩ := hp1.open; have hbC : Below wc.heap.size wc wC := (later_trans (by first | exact hbT | exact hbD | exact hbC | exact hbS | exact hbB | exact hbA | exact later_drew _ | exact later_refl _) hC1))
                      | (go_at_call 20; have hguard3 := hp2; refine (same_any _ _ ps _ (by first | exact hp1 | exact hp1.later hD1) (by first | exact hp2 | exact hp2.later hC1)).mono ?_; rintro e wT ⟨rfl, hT1⟩; have hbT : Below wc.heap.size wc wT := (later_trans (by first | exact hbT | exact hbD | exact hbC | exact hbS | exact hbB | exact hbA | exact later_drew _ | exact later_refl _) hT1))
                      | (go_at_call 20; refine (same_any _ _ o1 _ (by first | exact hv1 | exact hv1.later hB1) (by rw [HCs.out.2.2.2.2 _ _ hq1 hq2]; first | exact hv2 | exact hv2.later hA1)).mono ?_; rintro e wS ⟨rfl, hS1⟩; have hbS : Below wc.heap.size wc wS := (later_trans (by first | exact hbT | exact hbD | exact hbC | exact hbS | exact hbB | exact hbA | exact later_drew _ | exact later_refl _) hS1)))
                  all_goals (go_wp2_with fail)
                  all_goals go_meet
                  all_goals exact ⟨rfl, hbT⟩
                case rest =>
                  obtain ⟨rfl, hcb⟩ := hcut
                  have HE := Lib.hid (later_trans HI.out hcb)
                  clear hcb
                  go_wp2_with fail
                  go_ret
                  exact ⟨rfl, HE.out⟩
end Go.Proofs.YtplidcbfbonjlaaDoor
