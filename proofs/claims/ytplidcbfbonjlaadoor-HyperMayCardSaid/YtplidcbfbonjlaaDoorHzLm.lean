/-
  HyperMay, walked. (Printed by mkhzlm.py.)
-/
import Derived.Deep.RegionHeld3
import Derived.Deep.DeepCutAuto
import Derived.Test.YtplidcbfbonjlaaDoorHzLaw
import Derived.Test.YtplidcbfbonjlaaDoorHzSpl
namespace Go.Proofs.YtplidcbfbonjlaaDoor
open Go.RowKit Go.Shelf Go.Lib
set_option linter.unusedVariables false
set_option linter.unusedSimpArgs false

/-- What stands all along. -/
structure MayI (w : World) (X Y : Nat) (m : Int) (ev : Value) (ls : List (List Int)) (hv : Value) (E : List (List Int)) (rv : Value) (rs : List (List Int)) (lv : Value) (L : List (List Int)) (W : World) : Prop where
  bel : Below w.heap.size w W
  bx : HB W X m ev
  by' : HB W Y m hv
  rx : SlRK .i64 W ev ls
  ry : SlRK .i64 W hv E
  rr : SlRK .i64 W rv rs
  rl : SlRK .i64 W lv L
  tab : TabW W
theorem MayI.later {w W W' : World} {X Y : Nat} {m : Int} {ev hv rv lv : Value} {ls E rs L : List (List Int)} (h : MayI w X Y m ev ls hv E rv rs lv L W) (hb : Below W.heap.size W W') : MayI w X Y m ev ls hv E rv rs lv L W' :=
  ⟨later_trans h.bel hb, kept hb h.bx, kept hb h.by', h.rx.later hb, h.ry.later hb, h.rr.later hb, h.rl.later hb, h.tab.later hb⟩
theorem rowsL_small {M : Nat} {ls : List (List Int)} : (rowsL M ls).length ≤ M ∧ ∀ e ∈ rowsL M ls, e.length ≤ 34 := by
  unfold rowsL
  refine ⟨by rw [List.length_map, List.length_take]; omega, fun e he => ?_⟩
  obtain ⟨x, -, rfl⟩ := List.mem_map.1 he
  rw [List.length_take]; omega
set_option maxRecDepth 100000 in
set_option maxHeartbeats 8000000 in
theorem hyperMay_any (m : Int) (ev : Value) (ls : List (List Int)) (M : Int) (rv : Value) (rs : List (List Int)) (w : World) (h : SlRK .i64 w ev ls) (hr : SlRK .i64 w rv rs) (hT : TabW w) :
    Calls Tryd.prog 4 #[hypV m ev, .int .i64 M, rv] w fun e w' => e = .returned (.bool true) ∧ Below w.heap.size w w' := by
  have H := Lib.hid (And.intro h (And.intro hT hr))
  obtain ⟨ae, ce, rfl, -⟩ := h.open
  obtain ⟨ar, cr, rfl, -⟩ := hr.open
  clear h hT hr
  go_enter Tryd.func4, Tryd.ntmps4
  have H0 := Lib.hid (And.intro (box_new w #[.int .i64 m, .slice ae ls.length ce] 24) (later_alloc w (.cells #[.int .i64 m, .slice ae ls.length ce] 24)))
  go_wp2_with fail
  refine (wakes_any _ (H.out.2.1.later H0.out.2)).mono ?_
  rintro e w1 ⟨rfl, hb1⟩
  have H1 := Lib.hid (And.intro (kept hb1 H0.out.1) (later_trans H0.out.2 hb1))
  obtain ⟨c0, c1, f0, f1, lN⟩ := two_of H1.out.1
  clear hb1
  go_wp2_with fail
  refine (own_any m _ ls _ (H.out.1.later H1.out.2)).mono ?_
  rintro e w2 ⟨hv, ps, rfl, hO, hps, hb2⟩
  obtain ⟨ah, ch, rfl⟩ := owns_shape2 hO.own
  have hR := hO.slR
  rw [hps] at hR
  have hpl : ps.length = (ownL ls).length := by rw [← hps, List.length_map]
  obtain ⟨E, hE⟩ : ∃ E, ownL ls = E := ⟨_, rfl⟩
  rw [hE] at hR hpl
  obtain ⟨n, hn⟩ : ∃ n, E.length = n := ⟨_, rfl⟩
  rw [hn] at hpl
  rw [hpl] at hR ⊢
  have hro := rows_any 42 (by decide) (.slice ar rs.length cr) rs w2 (H.out.2.2.later (later_trans H1.out.2 hb2))
  have H2 := Lib.hid (And.intro hR (And.intro hn (And.intro hb2 (And.intro hE hro))))
  clear hO hps hpl hb2 hR c0 c1 f0 f1 lN hE hro
  go_wp2_with fail
  refine H2.out.2.2.2.2.mono ?_
  rintro e w3 ⟨lv, pl, rfl, hO3, hps3, hb3⟩
  obtain ⟨al, cl, rfl⟩ := owns_shape2 hO3.own
  have hR3 := hO3.slR
  rw [hps3] at hR3
  have hpl3 : pl.length = (rowsL 42 rs).length := by rw [← hps3, List.length_map]
  obtain ⟨L, hL⟩ : ∃ L, rowsL 42 rs = L := ⟨_, rfl⟩
  have hsm := rowsL_small (M := 42) (ls := rs)
  rw [hL] at hR3 hpl3 hsm
  obtain ⟨nl, hnl⟩ : ∃ nl, L.length = nl := ⟨_, rfl⟩
  rw [hnl] at hpl3
  rw [hpl3] at hR3 ⊢
  have bA := later_alloc w3 (.cells #[.int .i64 m, .slice ah n ch] 24)
  have b13 := later_trans H2.out.2.2.1 hb3
  have bB := later_trans H1.out.2 (later_trans b13 bA)
  have hI3 : MayI w w.heap.size w3.heap.size m (.slice ae ls.length ce) ls (.slice ah n ch) E (.slice ar rs.length cr) rs (.slice al nl cl) L (w3.alloc (.cells #[.int .i64 m, .slice ah n ch] 24)) := ⟨bB, kept (later_trans b13 bA) H1.out.1, box_new _ _ _, H.out.1.later bB, H2.out.1.later (later_trans hb3 bA), H.out.2.2.later bB, hR3.later bA, H.out.2.1.later bB⟩
  have H3 := Lib.hid (And.intro hI3 (And.intro hnl (And.intro hL (And.intro H2.out.2.1 (And.intro H2.out.2.2.2.1 hsm)))))
  clear hO3 hps3 hpl3 hb3 hR3 hL hI3 bA b13 bB hn hnl hsm
  go_upto_region 4 with fail
  obtain ⟨W3, hw3⟩ : ∃ W, w3.alloc (.cells #[.int .i64 m, .slice ah n ch] 24) = W := ⟨_, rfl⟩
  rw [hw3] at H3
  try rw [hw3]
  obtain ⟨Y, hY⟩ : ∃ Y, w3.heap.size = Y := ⟨_, rfl⟩
  rw [hY] at H3 ⊢
  obtain ⟨X, hX⟩ : ∃ X, w.heap.size = X := ⟨_, rfl⟩
  have HX := Lib.hid hX
  have H3' : Hid (MayI w X Y m (.slice ae ls.length ce) ls (.slice ah n ch) E (.slice ar rs.length cr) rs (.slice al nl cl) L W3) := Lib.hid (by rw [← hX]; exact H3.out.1)
  try rw [hX]
  obtain ⟨c0, c1, -, -, lY⟩ := two_of H3'.out.by'
  clear hw3 hY hX
  have hRi := Right20_any m (.slice ah n ch) E W3 H3'.out.ry
  have HRi := Lib.hid hRi
  clear hRi
  go_wp2_with fail
  refine HRi.out.mono ?_
  rintro e w4 ⟨rfl, b4⟩
  have hI4 := H3'.out.later b4
  have hCk := hyperCheck_any m (.slice ah n ch) E w4 hI4.ry
  clear c0 c1 lY
  obtain ⟨c0, c1, -, -, lY⟩ := two_of hI4.by'
  have H4 := Lib.hid (And.intro hI4 hCk)
  clear hI4 hCk b4
  go_wp2_with fail
  refine H4.out.2.mono ?_
  rintro e w5 ⟨rfl, b5⟩
  have hI5 := H4.out.1.later b5
  clear c0 c1 lY
  obtain ⟨y, hy⟩ : ∃ y, hypB m E = y := ⟨_, rfl⟩
  rw [hy]
  obtain ⟨q, hq⟩ : ∃ q : Int, (if y = true then (0 : Int) else 300) = q := ⟨_, rfl⟩
  rw [hq]
  have H5 := Lib.hid hI5
  have HQ := Lib.hid hq
  clear hI5 b5 hy hq
  go_upto_region 6 with fail
  go_cut [39] (fun s39 wx => s39 = .bool false ∧ wx = w5)
  case first =>
    cases y with
    | true => (obtain rfl : q = 0 := HQ.out.symm); go_wp2_with fail; go_meet; exact ⟨rfl, rfl⟩
    | false => (obtain rfl : q = 300 := HQ.out.symm); go_wp2_with fail; go_meet; exact ⟨rfl, rfl⟩
  case rest =>
    obtain ⟨rfl, rfl⟩ := hcut
    have hOf := Of_any M (.slice al nl cl) L wc H5.out.rl H5.out.tab
    have HOf := Lib.hid hOf
    clear hOf
    go_wp2_with fail
    refine HOf.out.mono ?_
    rintro e w6 ⟨gv, m', rfl, hg, b6⟩
    have hI6 := H5.out.later b6
    cases hof : ofB M L with
    | false =>
      rw [hof] at hg
      simp only [Bool.false_eq_true, if_false] at hg ⊢
      obtain ⟨rfl, rfl⟩ := hg
      have hIG := hI6.later (later_alloc w6 (.cells #[.int .i64 0, (.slice none 0 0)] 24))
      have hIb := later_trans b6 (later_alloc w6 (.cells #[.int .i64 0, (.slice none 0 0)] 24))
      have hOG := OwnRK.later (OwnRK.nil .i64 3 27 wc.heap.size w6) (later_alloc w6 (.cells #[.int .i64 0, (.slice none 0 0)] 24))
      have hbG : HB (w6.alloc (.cells #[.int .i64 0, (.slice none 0 0)] 24)) w6.heap.size 0 (.slice none 0 0) := box_new _ _ _
      have HG := Lib.hid (And.intro hIG (And.intro hIb (And.intro hOG hbG)))
      have HOF := Lib.hid hof

      clear hI6 b6 hIG hIb hOG hbG hof 
      go_upto_region 9 with fail
      obtain ⟨W6, hW6⟩ : ∃ W, w6.alloc (.cells #[.int .i64 0, (.slice none 0 0)] 24) = W := ⟨_, rfl⟩
      rw [hW6] at HG
      try rw [hW6]
      obtain ⟨G, hG⟩ : ∃ G, w6.heap.size = G := ⟨_, rfl⟩
      rw [hG] at HG ⊢
      clear hW6 hG
      have hRw := Rows20_any (.slice al nl cl) L W6 HG.out.1.rl (by have := H3.out.2.2.2.2.2.1; omega) (fun e he => Nat.le_trans (H3.out.2.2.2.2.2.2 e he) (by decide))
      have HRw := Lib.hid hRw
      clear hRw
      go_wp2_with fail
      refine HRw.out.mono ?_
      rintro e w7 ⟨nv, pn, rfl, hOn, hpn, b7⟩
      obtain ⟨an, cn, rfl⟩ := owns_shape2 hOn.own
      have b7' := later_trans b7 (later_alloc w7 (.cells #[.int .i64 M, .slice an pn.length cn] 24))
      have hI7 := HG.out.1.later b7'
      have hbN : HB (w7.alloc (.cells #[.int .i64 M, .slice an pn.length cn] 24)) w7.heap.size M (.slice an pn.length cn) := box_new _ _ _
      have hRn := hOn.slR
      rw [hpn] at hRn
      have H7 := Lib.hid (And.intro hI7 (And.intro (later_trans HG.out.2.1 b7') (And.intro (HG.out.2.2.1.later b7') (And.intro (kept b7' HG.out.2.2.2) (And.intro hbN (And.intro (hRn.later (later_alloc w7 (.cells #[.int .i64 M, .slice an pn.length cn] 24))) hpn))))))
      have HGN := Lib.hid (And.intro (Nat.lt_of_lt_of_le (lt_of_block HG.out.2.2.2) b7.size) (Nat.le_trans HG.out.2.1.size b7.size))
      clear hI7 b7 b7' hbN hOn hpn hRn
      go_upto_region 10 with fail
      obtain ⟨W7, hW7⟩ : ∃ W, w7.alloc (.cells #[.int .i64 M, .slice an pn.length cn] 24) = W := ⟨_, rfl⟩
      rw [hW7] at H7
      try rw [hW7]
      obtain ⟨N, hN⟩ : ∃ N, w7.heap.size = N := ⟨_, rfl⟩
      rw [hN] at H7 HGN ⊢
      obtain ⟨ln, hln⟩ : ∃ k, pn.length = k := ⟨_, rfl⟩
      rw [hln] at H7
      try rw [hln]
      clear hW7 hN
      have hRi := Right20_any M (.slice an ln cn) (foldL L) W7 H7.out.2.2.2.2.2.1
      rw [hypB_fold, HOF.out] at hRi
      have HRi2 := Lib.hid (And.intro hRi hln)
      clear hRi hln
      obtain ⟨n0, n1, nf0, nf1, lN⟩ := two_of H7.out.2.2.2.2.1
      go_wp2_with fail
      refine HRi2.out.1.mono ?_
      rintro e w8 ⟨rfl, b8⟩
      have H8 := Lib.hid (And.intro (H7.out.1.later b8) (And.intro (later_trans H7.out.2.1 b8) (And.intro (H7.out.2.2.1.later b8) (And.intro (kept b8 H7.out.2.2.2.1) (And.intro (kept b8 H7.out.2.2.2.2.1) (H7.out.2.2.2.2.2.1.later b8))))))
      clear n0 n1 nf0 nf1 lN b8
      obtain ⟨n0, n1, nf0, nf1, lN⟩ := two_of H8.out.2.2.2.2.1
      obtain ⟨g0, g1, -, -, lG⟩ := two_of H8.out.2.2.2.1
      obtain ⟨W9, hW9⟩ : ∃ W, (w8.setCell ⟨N, 0, none⟩ (.int .i64 0)).setCell ⟨N, 1, none⟩ (.slice none 0 0) = W := ⟨_, rfl⟩
      have hbl : Below wc.heap.size wc W9 := by rw [← hW9]; exact below_set (below_set H8.out.2.1 HGN.out.2) HGN.out.2
      have hI9 := H5.out.later hbl
      have hG9 : HB W9 G 0 (.slice none 0 0) := by rw [← hW9]; exact box_other (box_other H8.out.2.2.2.1 (Nat.ne_of_lt HGN.out.1) _) (Nat.ne_of_lt HGN.out.1) _
      have hN9 : HB W9 N 0 (.slice none 0 0) := by rw [← hW9]; simpa [HB] using box_set (i := 1) (box_set (i := 0) H8.out.2.2.2.2.1 (.int .i64 0)) (.slice none 0 0)
      have hSa := same_any (.slice none 0 0) (.slice none 0 0) [] W9 (SlRK.nil .i64 W9) (SlRK.nil .i64 W9)
      have H9a := Lib.hid (And.intro hI9 (And.intro hbl (And.intro hG9 hSa)))
      go_upto_region 12 with fail
      try rw [hW9]
      clear hW9 hbl hI9 hSa n0 n1 nf0 nf1 lN g0 g1 lG
      obtain ⟨n0, n1, -, -, lN⟩ := two_of hN9
      obtain ⟨g0, g1, -, -, lG⟩ := two_of hG9
      clear hG9 hN9
      go_wp2_with fail
      refine H9a.out.2.2.2.mono ?_
      rintro e w9 ⟨rfl, b9⟩
      have H9 := Lib.hid (And.intro (H9a.out.1.later b9) (And.intro (later_trans H9a.out.2.1 b9) (And.intro (SpI.of (OwnRK.nil .i64 3 27 wc.heap.size w9)) (kept b9 H9a.out.2.2.1))))
      clear n0 n1 lN b9 g0 g1 lG
      obtain ⟨g0, g1, -, -, lG⟩ := two_of H9.out.2.2.2
      go_wp2_with fail
      go_loopw [75] (fun k wr => ∃ i : Nat, i ≤ 0 ∧ k = .int .i64 i ∧ SpI wc.heap.size 0 (.slice none 0 0) [] wr ∧ Below wc.heap.size wc wr) (fun k _ => 0 - (intOf k).toNat)
      case atStart => exact ⟨0, Nat.zero_le _, rfl, H9.out.2.2.1, H9.out.2.1⟩
      case round =>
        obtain ⟨i, hi, rfl, hsp, hb⟩ := hrel
        clear g0 g1 lG
        by_cases hlt : i < 0
        · exact absurd hlt (Nat.not_lt_zero _)
        · obtain rfl : i = 0 := by omega
          have hIE := H5.out.later hb
          obtain ⟨wR, hwR⟩ : ∃ x, wr = x := ⟨_, rfl⟩
          rw [hwR] at hIE
          have hC1 : ∀ W, Below wR.heap.size wR W → Calls Tryd.prog 16 #[.slice ar rs.length cr, .int .i64 42] W fun e w' => ∃ a c, e = .returned (.slice a nl c) ∧ SlRK .i64 w' (.slice a nl c) L ∧ Below W.heap.size W w' := fun W hW => by
            refine (rows_any 42 (by decide) _ rs W (hIE.rr.later hW)).mono ?_
            rintro e w' ⟨v', p', rfl, hO', hp', hb'⟩
            have hR' := hO'.slR
            rw [hp', H3.out.2.2.1] at hR'
            obtain ⟨a, c, rfl, -⟩ := hR'.open
            rw [H3.out.2.1] at hR' ⊢
            exact ⟨a, c, rfl, hR', hb'⟩
          have hC2 : ∀ W, Below wR.heap.size wR W → Calls Tryd.prog 9 #[hypV m (.slice ae ls.length ce)] W fun e w' => ∃ a c, e = .returned (.agg #[.int .i64 m, .slice a n c]) ∧ SlRK .i64 w' (.slice a n c) E ∧ Below W.heap.size W w' := fun W hW => by
            refine (own_any m _ ls W (hIE.rx.later hW)).mono ?_
            rintro e w' ⟨v', p', rfl, hO', hp', hb'⟩
            have hR' := hO'.slR
            rw [hp', H3.out.2.2.2.2.1] at hR'
            obtain ⟨a, c, rfl, -⟩ := hR'.open
            rw [H3.out.2.2.2.1] at hR' ⊢
            exact ⟨a, c, rfl, hR', hb'⟩
          have hS1 : ∀ W v, Below wR.heap.size wR W → SlRK .i64 W v L → Calls Tryd.prog 20 #[.slice al nl cl, v] W fun e w' => e = .returned (.bool true) ∧ Below W.heap.size W w' := fun W v hW hv => same_any _ v L W (hIE.rl.later hW) hv
          have hS2 : ∀ W v, Below wR.heap.size wR W → SlRK .i64 W v E → Calls Tryd.prog 20 #[.slice ah n ch, v] W fun e w' => e = .returned (.bool true) ∧ Below W.heap.size W w' := fun W v hW hv => same_any _ v E W (hIE.ry.later hW) hv
          obtain ⟨x0, x1, -, -, lX⟩ := two_of hIE.bx
          obtain ⟨y0, y1, -, -, lY⟩ := two_of hIE.by'
          have HK : Hid (∀ W, Below wR.heap.size wR W → W.cell? ⟨X, 0, none⟩ = some (.int .i64 m) ∧ W.cell? ⟨X, 1, none⟩ = some (.slice ae ls.length ce) ∧ W.cell? ⟨Y, 0, none⟩ = some (.int .i64 m) ∧ W.cell? ⟨Y, 1, none⟩ = some (.slice ah n ch)) := Lib.hid (fun W hb => ⟨cell_next hb x0, cell_next hb x1, cell_next hb y0, cell_next hb y1⟩)
          have HC := Lib.hid (And.intro hC1 (And.intro hC2 (And.intro hS1 hS2)))
          have HI := Lib.hid hIE
          clear hC1 hC2 hS1 hS2 hIE hsp hb
          rw [hwR]
          clear hwR
          have hfd : ∀ a c W, (Instr.field 24 (.agg #[.int .i64 m, .slice a n c]) 1).run Tryd.prog W = .ok (.slice a n c) W := fun _ _ _ => by kernel_rfl
          go_upto_region 23 with fail
          go_cut [6] (fun s6 wx => s6 = .bool true ∧ Below wR.heap.size wR wx)
          case first =>
            go_region_held3 (fun W => W.cell? ⟨X, 0, none⟩ = some (.int .i64 m) ∧ W.cell? ⟨X, 1, none⟩ = some (.slice ae ls.length ce) ∧ W.cell? ⟨Y, 0, none⟩ = some (.int .i64 m) ∧ W.cell? ⟨Y, 1, none⟩ = some (.slice ah n ch))
              (first | exact HK.out _ (later_refl _) | exact HK.out _ (later_drew _) | exact HK.out _ hbT | exact HK.out _ hbO | exact HK.out _ hbS | exact HK.out _ hbP | assumption)
              (first
                | (go_at_call 16; refine (HC.out.1 _ (by first | exact hbT | exact hbO | exact hbS | exact hbP | exact later_drew _ | exact later_refl _)).mono ?_; rintro e wP ⟨pa, pc, rfl, hpR, hP1⟩; have hbP : Below wR.heap.size wR wP := later_trans (by first | exact hbT | exact hbO | exact hbS | exact hbP | exact later_drew _ | exact later_refl _) hP1)
                | (go_at_call 9; refine (HC.out.2.1 _ (by first | exact hbT | exact hbO | exact hbS | exact hbP | exact later_drew _ | exact later_refl _)).mono ?_; rintro e wO ⟨oa, oc, rfl, hoR, hO1⟩; have hbO : Below wR.heap.size wR wO := later_trans (by first | exact hbT | exact hbO | exact hbS | exact hbP | exact later_drew _ | exact later_refl _) hO1)
                | (go_at_call 20; have hguard := hoR; refine (HC.out.2.2.2 _ _ (by first | exact hbT | exact hbO | exact hbS | exact hbP | exact later_drew _ | exact later_refl _) hoR).mono ?_; rintro e wT ⟨rfl, hT1⟩; have hbT : Below wR.heap.size wR wT := later_trans (by first | exact hbT | exact hbO | exact hbS | exact hbP | exact later_drew _ | exact later_refl _) hT1)
                | (go_at_call 20; refine (HC.out.2.2.1 _ _ (by first | exact hbT | exact hbO | exact hbS | exact hbP | exact later_drew _ | exact later_refl _) hpR).mono ?_; rintro e wS ⟨rfl, hS1⟩; have hbS : Below wR.heap.size wR wS := later_trans (by first | exact hbT | exact hbO | exact hbS | exact hbP | exact later_drew _ | exact later_refl _) hS1))
            all_goals (go_wp2_with fail)
            all_goals go_meet
            all_goals exact ⟨rfl, hbT⟩
          case rest =>
            obtain ⟨rfl, hcb⟩ := hcut
            have HE := Lib.hid (later_trans HI.out.bel hcb)
            clear hcb
            go_wp2_with fail
            go_ret
            exact ⟨rfl, HE.out⟩

    | true =>
      rw [hof] at hg
      simp only [if_true] at hg ⊢
      obtain ⟨rfl, pg, hOg, hpg⟩ := hg
      obtain ⟨ag, cg, rfl⟩ := owns_shape2 hOg.own
      have hIG := hI6.later (later_alloc w6 (.cells #[.int .i64 m', (.slice ag pg.length cg)] 24))
      have hIb := later_trans b6 (later_alloc w6 (.cells #[.int .i64 m', (.slice ag pg.length cg)] 24))
      have hOG := OwnRK.later hOg (later_alloc w6 (.cells #[.int .i64 m', (.slice ag pg.length cg)] 24))
      have hbG : HB (w6.alloc (.cells #[.int .i64 m', (.slice ag pg.length cg)] 24)) w6.heap.size m' (.slice ag pg.length cg) := box_new _ _ _
      have HG := Lib.hid (And.intro hIG (And.intro hIb (And.intro hOG hbG)))
      have HOF := Lib.hid hof
      have HPG := Lib.hid hpg
      clear hI6 b6 hIG hIb hOG hbG hof hOg hpg
      go_upto_region 9 with fail
      obtain ⟨W6, hW6⟩ : ∃ W, w6.alloc (.cells #[.int .i64 m', (.slice ag pg.length cg)] 24) = W := ⟨_, rfl⟩
      rw [hW6] at HG
      try rw [hW6]
      obtain ⟨G, hG⟩ : ∃ G, w6.heap.size = G := ⟨_, rfl⟩
      rw [hG] at HG ⊢
      clear hW6 hG
      have hRw := Rows20_any (.slice al nl cl) L W6 HG.out.1.rl (by have := H3.out.2.2.2.2.2.1; omega) (fun e he => Nat.le_trans (H3.out.2.2.2.2.2.2 e he) (by decide))
      have HRw := Lib.hid hRw
      clear hRw
      go_wp2_with fail
      refine HRw.out.mono ?_
      rintro e w7 ⟨nv, pn, rfl, hOn, hpn, b7⟩
      obtain ⟨an, cn, rfl⟩ := owns_shape2 hOn.own
      have b7' := later_trans b7 (later_alloc w7 (.cells #[.int .i64 m', .slice an pn.length cn] 24))
      have hI7 := HG.out.1.later b7'
      have hbN : HB (w7.alloc (.cells #[.int .i64 m', .slice an pn.length cn] 24)) w7.heap.size m' (.slice an pn.length cn) := box_new _ _ _
      have hRn := hOn.slR
      rw [hpn] at hRn
      have H7 := Lib.hid (And.intro hI7 (And.intro (later_trans HG.out.2.1 b7') (And.intro (HG.out.2.2.1.later b7') (And.intro (kept b7' HG.out.2.2.2) (And.intro hbN (And.intro (hRn.later (later_alloc w7 (.cells #[.int .i64 m', .slice an pn.length cn] 24))) hpn))))))
      have HGN := Lib.hid (And.intro (Nat.lt_of_lt_of_le (lt_of_block HG.out.2.2.2) b7.size) (Nat.le_trans HG.out.2.1.size b7.size))
      clear hI7 b7 b7' hbN hOn hpn hRn
      go_upto_region 10 with fail
      obtain ⟨W7, hW7⟩ : ∃ W, w7.alloc (.cells #[.int .i64 m', .slice an pn.length cn] 24) = W := ⟨_, rfl⟩
      rw [hW7] at H7
      try rw [hW7]
      obtain ⟨N, hN⟩ : ∃ N, w7.heap.size = N := ⟨_, rfl⟩
      rw [hN] at H7 HGN ⊢
      obtain ⟨ln, hln⟩ : ∃ k, pn.length = k := ⟨_, rfl⟩
      rw [hln] at H7
      try rw [hln]
      clear hW7 hN
      have hRi := Right20_any m' (.slice an ln cn) (foldL L) W7 H7.out.2.2.2.2.2.1
      rw [hypB_fold, HOF.out] at hRi
      have HRi2 := Lib.hid (And.intro hRi hln)
      clear hRi hln
      obtain ⟨n0, n1, nf0, nf1, lN⟩ := two_of H7.out.2.2.2.2.1
      go_wp2_with fail
      refine HRi2.out.1.mono ?_
      rintro e w8 ⟨rfl, b8⟩
      have H8 := Lib.hid (And.intro (H7.out.1.later b8) (And.intro (later_trans H7.out.2.1 b8) (And.intro (H7.out.2.2.1.later b8) (And.intro (kept b8 H7.out.2.2.2.1) (And.intro (kept b8 H7.out.2.2.2.2.1) (H7.out.2.2.2.2.2.1.later b8))))))
      clear n0 n1 nf0 nf1 lN b8
      obtain ⟨n0, n1, nf0, nf1, lN⟩ := two_of H8.out.2.2.2.2.1
      obtain ⟨g0, g1, -, -, lG⟩ := two_of H8.out.2.2.2.1
      have heq : pg.map Prod.snd = foldL L := by rw [HPG.out, fold_edges HOF.out]
      have hRG := H8.out.2.2.1.slR
      rw [heq] at hRG
      have hSa := same_any (.slice ag pg.length cg) (.slice an ln cn) (foldL L) w8 hRG H8.out.2.2.2.2.2
      have HSa := Lib.hid hSa
      have HEQ := Lib.hid heq
      have hpn40 : pg.length ≤ 40 := by
        have := (ofB_yes HOF.out).2.2.1
        have h2 := congrArg List.length heq
        rw [List.length_map, foldL_len] at h2
        omega
      clear hSa hRG heq
      go_wp2_with fail
      refine HSa.out.mono ?_
      rintro e w9 ⟨rfl, b9⟩
      have H9 := Lib.hid (And.intro (H8.out.1.later b9) (And.intro (later_trans H8.out.2.1 b9) (And.intro (SpI.of (H8.out.2.2.1.later b9)) (kept b9 H8.out.2.2.2.1))))
      clear n0 n1 nf0 nf1 lN b9 g0 g1 lG
      obtain ⟨g0, g1, -, -, lG⟩ := two_of H9.out.2.2.2
      go_wp2_with fail
      go_loopw [75] (fun k wr => ∃ i : Nat, i ≤ pg.length ∧ k = .int .i64 i ∧ SpI wc.heap.size pg.length (.slice ag pg.length cg) (pg.map Prod.fst) wr ∧ Below wc.heap.size wc wr) (fun k _ => pg.length - (intOf k).toNat)
      case atStart => exact ⟨0, Nat.zero_le _, rfl, H9.out.2.2.1, H9.out.2.1⟩
      case round =>
        obtain ⟨i, hi, rfl, hsp, hb⟩ := hrel
        clear g0 g1 lG
        by_cases hlt : i < pg.length
        · obtain ⟨g, cg', u, e1, hu, hcu, lg⟩ := hsp.head hlt
          injection e1 with e1a e1b e1c
          subst e1a e1c
          obtain ⟨au, qu, cu, rfl, hq, -, -⟩ := hsp.row hu
          have HU := Lib.hid (And.intro hu (And.intro hsp hb))
          clear hsp hb e1b
          go_wp2_with fail
          go_loopw [81] (fun k wr2 => ∃ j : Nat, j ≤ qu ∧ k = .int .i64 j ∧ SpI wc.heap.size pg.length (.slice (some ⟨g, 0, none⟩) pg.length cg) (pg.map Prod.fst) wr2 ∧ Below wc.heap.size wc wr2) (fun k _ => qu - (intOf k).toNat)
          case atStart => exact ⟨0, Nat.zero_le _, rfl, HU.out.2.1, HU.out.2.2⟩
          case round =>
            obtain ⟨j, hj, rfl, hsp, hb⟩ := hrel
            clear hcu lg
            by_cases hjt : j < qu
            · obtain ⟨a8, q8, c8, e8, -, ⟨cs, ho⟩, hc8⟩ := hsp.row HU.out.1
              injection e8 with e8a e8b e8c
              subst e8a e8b e8c
              obtain ⟨gu, rfl, hbu, lu, hcj⟩ := hc8 (by omega)
              obtain ⟨x, hx, hfx⟩ := hcj j hjt
              have HS := Lib.hid (And.intro hsp (And.intro hb (And.intro ho hbu)))
              clear hsp hb ho hc8 hcj hbu
              go_wp2_with fail
              go_roundw
              case rel => exact ⟨j + 1, by omega, by go_num, HS.out.1.set HS.out.2.2.1 _, below_set HS.out.2.1 HS.out.2.2.2⟩
              case measure => simp [intOf]; omega
            · obtain rfl : j = qu := by omega
              have HS := Lib.hid (And.intro hsp hb)
              clear hsp hb
              go_wp2_with fail
              go_roundw
              case rel => exact ⟨i + 1, by omega, by go_num, HS.out.1, HS.out.2⟩
              case measure => simp [intOf]; omega
        · obtain rfl : i = pg.length := by omega
          have hIE := H5.out.later hb
          obtain ⟨wR, hwR⟩ : ∃ x, wr = x := ⟨_, rfl⟩
          rw [hwR] at hIE
          have hC1 : ∀ W, Below wR.heap.size wR W → Calls Tryd.prog 16 #[.slice ar rs.length cr, .int .i64 42] W fun e w' => ∃ a c, e = .returned (.slice a nl c) ∧ SlRK .i64 w' (.slice a nl c) L ∧ Below W.heap.size W w' := fun W hW => by
            refine (rows_any 42 (by decide) _ rs W (hIE.rr.later hW)).mono ?_
            rintro e w' ⟨v', p', rfl, hO', hp', hb'⟩
            have hR' := hO'.slR
            rw [hp', H3.out.2.2.1] at hR'
            obtain ⟨a, c, rfl, -⟩ := hR'.open
            rw [H3.out.2.1] at hR' ⊢
            exact ⟨a, c, rfl, hR', hb'⟩
          have hC2 : ∀ W, Below wR.heap.size wR W → Calls Tryd.prog 9 #[hypV m (.slice ae ls.length ce)] W fun e w' => ∃ a c, e = .returned (.agg #[.int .i64 m, .slice a n c]) ∧ SlRK .i64 w' (.slice a n c) E ∧ Below W.heap.size W w' := fun W hW => by
            refine (own_any m _ ls W (hIE.rx.later hW)).mono ?_
            rintro e w' ⟨v', p', rfl, hO', hp', hb'⟩
            have hR' := hO'.slR
            rw [hp', H3.out.2.2.2.2.1] at hR'
            obtain ⟨a, c, rfl, -⟩ := hR'.open
            rw [H3.out.2.2.2.1] at hR' ⊢
            exact ⟨a, c, rfl, hR', hb'⟩
          have hS1 : ∀ W v, Below wR.heap.size wR W → SlRK .i64 W v L → Calls Tryd.prog 20 #[.slice al nl cl, v] W fun e w' => e = .returned (.bool true) ∧ Below W.heap.size W w' := fun W v hW hv => same_any _ v L W (hIE.rl.later hW) hv
          have hS2 : ∀ W v, Below wR.heap.size wR W → SlRK .i64 W v E → Calls Tryd.prog 20 #[.slice ah n ch, v] W fun e w' => e = .returned (.bool true) ∧ Below W.heap.size W w' := fun W v hW hv => same_any _ v E W (hIE.ry.later hW) hv
          obtain ⟨x0, x1, -, -, lX⟩ := two_of hIE.bx
          obtain ⟨y0, y1, -, -, lY⟩ := two_of hIE.by'
          have HK : Hid (∀ W, Below wR.heap.size wR W → W.cell? ⟨X, 0, none⟩ = some (.int .i64 m) ∧ W.cell? ⟨X, 1, none⟩ = some (.slice ae ls.length ce) ∧ W.cell? ⟨Y, 0, none⟩ = some (.int .i64 m) ∧ W.cell? ⟨Y, 1, none⟩ = some (.slice ah n ch)) := Lib.hid (fun W hb => ⟨cell_next hb x0, cell_next hb x1, cell_next hb y0, cell_next hb y1⟩)
          have HC := Lib.hid (And.intro hC1 (And.intro hC2 (And.intro hS1 hS2)))
          have HI := Lib.hid hIE
          clear hC1 hC2 hS1 hS2 hIE hsp hb
          rw [hwR]
          clear hwR
          have hfd : ∀ a c W, (Instr.field 24 (.agg #[.int .i64 m, .slice a n c]) 1).run Tryd.prog W = .ok (.slice a n c) W := fun _ _ _ => by kernel_rfl
          go_upto_region 23 with fail
          go_cut [6] (fun s6 wx => s6 = .bool true ∧ Below wR.heap.size wR wx)
          case first =>
            go_region_held3 (fun W => W.cell? ⟨X, 0, none⟩ = some (.int .i64 m) ∧ W.cell? ⟨X, 1, none⟩ = some (.slice ae ls.length ce) ∧ W.cell? ⟨Y, 0, none⟩ = some (.int .i64 m) ∧ W.cell? ⟨Y, 1, none⟩ = some (.slice ah n ch))
              (first | exact HK.out _ (later_refl _) | exact HK.out _ (later_drew _) | exact HK.out _ hbT | exact HK.out _ hbO | exact HK.out _ hbS | exact HK.out _ hbP | assumption)
              (first
                | (go_at_call 16; refine (HC.out.1 _ (by first | exact hbT | exact hbO | exact hbS | exact hbP | exact later_drew _ | exact later_refl _)).mono ?_; rintro e wP ⟨pa, pc, rfl, hpR, hP1⟩; have hbP : Below wR.heap.size wR wP := later_trans (by first | exact hbT | exact hbO | exact hbS | exact hbP | exact later_drew _ | exact later_refl _) hP1)
                | (go_at_call 9; refine (HC.out.2.1 _ (by first | exact hbT | exact hbO | exact hbS | exact hbP | exact later_drew _ | exact later_refl _)).mono ?_; rintro e wO ⟨oa, oc, rfl, hoR, hO1⟩; have hbO : Below wR.heap.size wR wO := later_trans (by first | exact hbT | exact hbO | exact hbS | exact hbP | exact later_drew _ | exact later_refl _) hO1)
                | (go_at_call 20; have hguard := hoR; refine (HC.out.2.2.2 _ _ (by first | exact hbT | exact hbO | exact hbS | exact hbP | exact later_drew _ | exact later_refl _) hoR).mono ?_; rintro e wT ⟨rfl, hT1⟩; have hbT : Below wR.heap.size wR wT := later_trans (by first | exact hbT | exact hbO | exact hbS | exact hbP | exact later_drew _ | exact later_refl _) hT1)
                | (go_at_call 20; refine (HC.out.2.2.1 _ _ (by first | exact hbT | exact hbO | exact hbS | exact hbP | exact later_drew _ | exact later_refl _) hpR).mono ?_; rintro e wS ⟨rfl, hS1⟩; have hbS : Below wR.heap.size wR wS := later_trans (by first | exact hbT | exact hbO | exact hbS | exact hbP | exact later_drew _ | exact later_refl _) hS1))
            all_goals (go_wp2_with fail)
            all_goals go_meet
            all_goals exact ⟨rfl, hbT⟩
          case rest =>
            obtain ⟨rfl, hcb⟩ := hcut
            have HE := Lib.hid (later_trans HI.out.bel hcb)
            clear hcb
            go_wp2_with fail
            go_ret
            exact ⟨rfl, HE.out⟩

end Go.Proofs.YtplidcbfbonjlaaDoor
