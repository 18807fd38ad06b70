/-
  HyperParts, walked.
-/
import Derived.Deep.DeepCutAuto
import Derived.Deep.QuietTactic
import Derived.Test.YtplidcbfbonjlaaDoorHzOne
import Derived.Test.YtplidcbfbonjlaaDoorHzIs
import Derived.Test.YtplidcbfbonjlaaDoorHzSo
import Derived.Test.YtplidcbfbonjlaaDoorHzParts
namespace Go.Proofs.YtplidcbfbonjlaaDoor
open Go.RowKit Go.Shelf Go.Lib
set_option linter.unusedVariables false
set_option linter.unusedSimpArgs false

theorem hyp_inside {m : Int} {ls : List (List Int)} (h : hypB m ls = true) (p : List Int) : hypB m (insideL ls p) = true := by
  obtain ⟨h1, h2, h3, -⟩ := hypB_yes h
  have hl : (insideL ls p).length ≤ ls.length := by unfold insideL; exact List.length_filter_le _ _
  unfold hypB
  rw [Bool.and_eq_true]
  refine ⟨?_, allR_yes fun j hj => ?_⟩
  · unfold sizesB
    simp only [Bool.and_eq_true, decide_eq_true_eq]
    exact ⟨⟨h1, h2⟩, by omega⟩
  · have hm := (insideL_mem.1 (rowN_mem hj)).1
    obtain ⟨i, hi, e⟩ := List.getElem_of_mem hm
    show edgeB m (rowN (insideL ls p) j) = true
    rw [← e, ← rowN_at hi]
    exact hypB_edge h hi
set_option maxRecDepth 100000 in
set_option maxHeartbeats 8000000 in
theorem hyperParts_any (m : Int) (ev : Value) (ls : List (List Int)) (w : World) (h : SlRK .i64 w ev ls) (hT : TabW w) :
    Calls Tryd.prog 7 #[hypV m ev] w fun e w' => e = .returned (.bool true) ∧ Below w.heap.size w w' := by
  have H := Lib.hid (And.intro h hT)
  obtain ⟨ae, ce, rfl, -⟩ := h.open
  clear h hT
  go_enter Tryd.func7, Tryd.ntmps7
  have H0 := Lib.hid (And.intro (box_new w #[.int .i64 m, .slice ae ls.length ce] 24) (later_alloc w (.cells #[.int .i64 m, .slice ae ls.length ce] 24)))
  go_wp2_with fail
  refine (wakes_any _ (H.out.2.later H0.out.2)).mono ?_
  rintro e w1 ⟨rfl, hb1⟩
  have H1 := Lib.hid (And.intro (kept hb1 H0.out.1) (later_trans H0.out.2 hb1))
  obtain ⟨c0, c1, f0, f1, lN⟩ := two_of H1.out.1
  clear hb1
  go_wp2_with fail
  refine (own_any m _ ls _ (H.out.1.later H1.out.2)).mono ?_
  rintro e w2 ⟨hv, ps, rfl, hO, hps, hb2⟩
  obtain ⟨ah, ch, rfl⟩ := owns_shape2 hO.own
  have hR := hO.slR
  rw [hps] at hR
  have hpl : ps.length = (ownL ls).length := by rw [← hps, List.length_map]
  obtain ⟨E, hE⟩ : ∃ E, ownL ls = E := ⟨_, rfl⟩
  rw [hE] at hR hpl
  obtain ⟨n, hn⟩ : ∃ n, E.length = n := ⟨_, rfl⟩
  rw [hn] at hpl
  rw [hpl] at hR ⊢
  have hb2' := later_trans hb2 (later_alloc w2 (.cells #[.int .i64 m, .slice ah n ch] 24))
  have hI2 : HyI w w2.heap.size m (.slice ah n ch) E (w2.alloc (.cells #[.int .i64 m, .slice ah n ch] 24)) := ⟨later_trans H1.out.2 hb2', box_new _ _ _, hR.later (later_alloc _ _), by have := hb2.size; omega, H.out.2.later (later_trans H1.out.2 hb2')⟩
  clear hO hps hpl hb2 hb2' hR c0 c1 f0 f1 lN hE
  go_upto_region 4 with fail
  obtain ⟨W2, hw2⟩ : ∃ W, w2.alloc (.cells #[.int .i64 m, .slice ah n ch] 24) = W := ⟨_, rfl⟩
  rw [hw2] at hI2
  try rw [hw2]
  obtain ⟨Y, hY⟩ : ∃ Y, w2.heap.size = Y := ⟨_, rfl⟩
  rw [hY] at hI2 ⊢
  have H2 := Lib.hid (And.intro hI2 hn)
  obtain ⟨c0, c1, -, -, lY⟩ := two_of hI2.box
  clear hI2 hw2 hY hn
  cases hy : hypB m E with
  | false =>
    have hPa := PartsNo_any m (.slice ah n ch) E W2 H2.out.1.row hy
    have HPa := Lib.hid (And.intro hPa hy)
    clear hPa hy
    go_wp2_with fail
    refine HPa.out.1.mono ?_
    rintro e w3 ⟨rfl, b3⟩
    have hI3 := H2.out.1.later b3
    have hC3 := hyperCheck_any m (.slice ah n ch) E w3 hI3.row
    rw [HPa.out.2] at hC3
    simp only [Bool.false_eq_true, if_false] at hC3
    clear c0 c1 lY
    obtain ⟨c0, c1, -, -, lY⟩ := two_of hI3.box
    have H3 := Lib.hid (And.intro hI3 hC3)
    clear hI3 hC3 b3
    go_wp2_with fail
    refine H3.out.2.mono ?_
    rintro e w4 ⟨rfl, b4⟩
    have hI4 := H3.out.1.later b4
    have hAc := AcyclicB_any m (.slice ah n ch) E w4 hI4.row hI4.tab
    have hac : acB m E = false := by
      cases q : acB m E with
      | false => rfl
      | true => have := (acB_iff.1 q).1; rw [HPa.out.2] at this; cases this
    rw [hac] at hAc
    clear c0 c1 lY
    obtain ⟨c0, c1, -, -, lY⟩ := two_of hI4.box
    have H4 := Lib.hid (And.intro hI4 hAc)
    clear hI4 hAc b4 hac
    go_wp2_with fail
    refine H4.out.2.mono ?_
    rintro e w5 ⟨rfl, b5⟩
    have HE := Lib.hid (later_trans H4.out.1.bel b5)
    clear b5
    go_wp2_with fail
    go_ret
    exact ⟨rfl, HE.out⟩
  | true =>
    have hPa := Parts_any m (.slice ah n ch) E W2 H2.out.1.row H2.out.1.tab hy
    have hPl := partsTo_len E m.toNat
    have hy4 := hypB_yes hy
    have hn40 : n ≤ 40 := by have := H2.out.2; omega
    have hok := fun (i : Nat) (hi : i < (partsTo E m.toNat).length) => part_ok hy hi
    have hflen : (partsTo E m.toNat).flatten.length ≤ 32 := by
      have h1 := parts_sorted hy (ys := (partsTo E m.toNat).flatten.mergeSort fun x y => decide (x ≤ y)) (List.mergeSort_perm _ _) (sortedL_pw _)
      have h2 := congrArg List.length h1
      rw [List.length_mergeSort, upL_len] at h2
      omega
    obtain ⟨parts, hparts⟩ : ∃ q, partsTo E m.toNat = q := ⟨_, rfl⟩
    obtain ⟨np, hnp⟩ : ∃ q, parts.length = q := ⟨_, rfl⟩
    rw [hparts] at hPa hPl hok hflen
    rw [hnp] at hPl hok
    have hnp32 : np ≤ 32 := by omega
    have HPa := Lib.hid (And.intro hPa hy)
    have HP := Lib.hid (And.intro hparts (And.intro hnp (And.intro hok (And.intro hflen hy4))))
    clear hPa hy hPl hy4 hok hflen hparts hnp
    go_wp2_with fail
    refine HPa.out.1.mono ?_
    rintro e w3 ⟨pv, rfl, hpv, b3⟩
    obtain ⟨pa, pc, rfl, hpx⟩ := hpv.open
    rw [HP.out.2.1] at hpv hpx ⊢
    have hI3 := H2.out.1.later b3
    have hC3 := hyperCheck_any m (.slice ah n ch) E w3 hI3.row
    rw [HPa.out.2] at hC3
    simp only [if_true] at hC3
    clear c0 c1 lY
    obtain ⟨c0, c1, -, -, lY⟩ := two_of hI3.box
    have H3 := Lib.hid (And.intro hI3 (And.intro hC3 hpv))
    clear hI3 hC3 b3 hpv hpx
    go_wp2_with fail
    refine H3.out.2.1.mono ?_
    rintro e w4 ⟨rfl, b4⟩
    have hI4 := H3.out.1.later b4
    have H4 := Lib.hid (And.intro hI4 (H3.out.2.2.later b4))
    clear hI4 b4 c0 c1 lY
    go_wp2_with fail
    go_loopw [36, 5, 6] (fun c v b wr => ∃ (i : Nat) (q : Bool) (xs : List Int), i ≤ np ∧ c = .int .i64 i ∧ b = .bool q ∧ xs = (parts.take i).flatten ∧ wr.ownsRow w4.heap.size 3 1 v xs.length (xs.map (.int .i64)) ∧ (q = true ↔ ∀ j, j < i → acyc ((insideL E (rowN parts j)).map setL)) ∧ Below w4.heap.size w4 wr) (fun c _ _ _ => np - (intOf c).toNat)
    case atStart => exact ⟨0, true, [], Nat.zero_le _, rfl, rfl, rfl, World.ownsRow_nil _ _ _ _, ⟨fun _ j hj => by omega, fun _ => rfl⟩, later_refl _⟩
    case round =>
      obtain ⟨i, q, xs, hi, rfl, rfl, hxs, hO, hq, hb⟩ := hrel
      have hxl : xs.length ≤ 32 := by
        rw [hxs]
        have h1 : parts.flatten = (parts.take i).flatten ++ (parts.drop i).flatten := by rw [← List.flatten_append, List.take_append_drop]
        have := congrArg List.length h1
        rw [List.length_append] at this
        have := HP.out.2.2.2.1
        omega
      obtain ⟨av, cv, rfl⟩ := owns_shape2 (n := xs.length) (by simpa using hO)
      have hIr := H4.out.1.later hb
      have hPr := H4.out.2.later hb
      by_cases hin : i < np
      · have hiI : (i : Int) < np := by omega
        obtain ⟨_, _, e1, _, _, _, f4⟩ := H4.out.2.open
        obtain ⟨bp, op, e2, _, fc⟩ := f4 (by have := HP.out.2.1; omega)
        injection e1 with e1a e1b e1c
        subst e1a e1c
        subst e2
        obtain ⟨r1, g1, s1⟩ := fc i (by have := HP.out.2.1; omega)
        obtain ⟨a1, d1, rfl, -⟩ := s1.open
        replace g1 := cell_next hb g1
        have HBb := Lib.hid hb
        obtain ⟨h1, h2, h3⟩ := HP.out.2.2.1 i hin
        obtain ⟨lp, hlp⟩ : ∃ lp, (rowN parts i).length = lp := ⟨_, rfl⟩
        rw [hlp] at g1 h1
        have hIs : ∀ W k, W = wr.drewN k → Calls Tryd.prog 26 #[.slice a1 lp d1] W fun e w' => e = .returned (.bool true) ∧ ∃ m, w' = W.drewN m := fun W k hW => by
          have := isSorted_any (.slice a1 (rowN parts i).length d1) (rowN parts i) W (s1.later (later_trans hb (by rw [hW]; exact later_drewN _ _))) h2
          rwa [hlp] at this
        have HIs := Lib.hid (And.intro hIs (And.intro s1 (And.intro hlp (And.intro hIr (And.intro hPr (And.intro hO (And.intro hq (And.intro hb hxs))))))))
        have HF := Lib.hid fc
        have H33 := Lib.hid h3
        clear hIs hIr hPr hq hb hxs hO f4 e1b fc h2 h3
        obtain ⟨_, _, e1, _, _, _, f4⟩ := s1.open
        obtain ⟨b1, o1, e2, _, fc1⟩ := f4 (by omega)
        injection e1 with e1a e1b e1c
        subst e1a e1c
        subst e2
        have y0 := fc1 0 (by omega)
        rw [← getD_at (show 0 < (rowN parts i).length by omega), Nat.add_zero] at y0
        obtain ⟨z0, hz0⟩ : ∃ z, (rowN parts i).getD 0 0 = z := ⟨_, rfl⟩
        rw [hz0] at y0
        replace y0 := cell_next HBb.out y0
        have HZ0 := Lib.hid hz0
        clear f4 fc1 e1b hz0 s1
        -- [R
        go_upto_region 12 with fail
        go_cut [65] (fun s65 wx => s65 = .bool false ∧ ∃ k, wx = wr.drewN k)
        case first =>
          have hlp0 : ((lp : Int) == 0) = false := by rw [beq_eq_false_iff_ne]; omega
          cases i with
          | zero =>
            go_quiet (first | (go_at_call 26; refine Calls.quiet_of (HIs.out.1 _ _ rfl)))
            go_wp2_with fail
            go_meet
            exact ⟨rfl, _, rfl⟩
          | succ i =>
            obtain ⟨r2, g2, s2⟩ := HF.out i (by have := HP.out.2.1; omega)
            obtain ⟨a2, d2, rfl, _, _, _, f4⟩ := s2.open
            have hp2 := (HP.out.2.2.1 i (by omega)).1
            obtain ⟨b2, o2, rfl, _, fc2⟩ := f4 hp2
            have y2 := fc2 0 hp2
            rw [← getD_at hp2, Nat.add_zero] at y2
            have h3 := H33.out (by omega)
            rw [HZ0.out, Nat.add_sub_cancel] at h3
            obtain ⟨z2, hz2⟩ : ∃ z, (rowN parts i).getD 0 0 = z := ⟨_, rfl⟩
            rw [hz2] at y2 h3
            replace y2 := cell_next HBb.out y2
            replace g2 := cell_next HBb.out g2
            obtain ⟨l2, hl2⟩ : ∃ l, (rowN parts i).length = l := ⟨_, rfl⟩
            rw [hl2] at g2 hp2
            have hw1 : IntKind.i64.wrap (((i + 1 : Nat) : Int) - 1) = (i : Int) := by simp [IntKind.wrap, IntKind.bits, IntKind.signed]; omega
            have hge : ¬ z2 ≥ z0 := by omega
            have hge2 : ¬ z0 ≤ z2 := by omega
            have hi0 : (0 : Int) < ((i + 1 : Nat) : Int) := by omega
            clear f4 fc2 s2 hz2 hl2 h3
            go_quiet (first | (go_at_call 26; refine Calls.quiet_of (HIs.out.1 _ _ rfl)))
            go_wp2_with fail
            go_meet
            exact ⟨rfl, _, rfl⟩
        case rest =>
          obtain ⟨rfl, k0, hk0⟩ := hcut
          have hb2 : Below wr.heap.size wr wc := by rw [hk0]; exact later_drewN _ _
          have hO2 := owns_later HIs.out.2.2.2.2.2.1 hb2
          have hIc := HIs.out.2.2.2.1.later hb2
          have hsp : SlI .i64 wc (.slice (some ⟨b1, o1, none⟩) lp d1) (rowN parts i) := by
            have := HIs.out.2.1.later (later_trans HBb.out hb2)
            rwa [HIs.out.2.2.1] at this
          have hplen := HIs.out.2.2.1
          have hcell := hsp.1.cells
          have hone := ints_oneCell .i64 (rowN parts i)
          have hml : ((rowN parts i).map (Value.int .i64)).length = lp * 1 := by rw [List.length_map, hplen, Nat.mul_one]
          have hlp32 : lp ≤ 64 := by
            have h1 : rowN parts i = partL E ((leastL E m.toNat).getD i 0) := by
              have hi2 : i < (leastL E m.toNat).length := by
                have := HP.out.2.1
                have h3 : parts.length = (leastL E m.toNat).length := by rw [← HP.out.1, parts_least, List.length_map]
                omega
              rw [rowN_at (by have := HP.out.2.1; omega)]
              simp only [← HP.out.1, parts_least, List.getElem_map]
              congr 1
              rw [List.getD_eq_getElem?_getD, List.getElem?_eq_getElem hi2]; rfl
            rw [← hplen, h1]
            exact partL_len _ _
          obtain ⟨j0, hj, jz0, jz1, jz2⟩ := info_parts info_int
          have hbw4 := later_trans HBb.out hb2
          have hbw := hbw4.size
          obtain ⟨c0, c1, -, -, lY⟩ := two_of hIc.box
          have HC := Lib.hid (And.intro hplen hbw4)
          clear hIc hsp hplen hb2 hk0 y0 g1 hbw4
          go_upto_region 15 with (at_builtin; refine wpList_append_own _ rfl (.tmp 66) (.tmp 67) 27 rfl w4.heap.size 3 j0 _ 1 8 Tryd.underlying27 hj jz0 jz1 jz2 rfl (by decide) _ _ _ rfl hO2 ⟨b1, o1, none⟩ lp d1 ((rowN parts i).map (Value.int .i64)) rfl hml hcell hone (by unfold maxLen; omega) (by omega) (by omega) ?_; intro v6 w6 hown6 hgrow6 _)
          have hb6 : Below w4.heap.size w4 w6 := HC.out.2.grown hgrow6 hbw (fun k e => owns_above hO2 k e)
          have hnl : xs.length + lp = (xs ++ rowN parts i).length := by rw [List.length_append, HC.out.1]
          have hown7 : w6.ownsRow w4.heap.size 3 1 v6 (xs ++ rowN parts i).length ((xs ++ rowN parts i).map (.int .i64)) := by
            rw [List.map_append, ← hnl]; exact hown6
          obtain ⟨a6, c6, rfl⟩ := owns_shape2 (n := (xs ++ rowN parts i).length) (by simpa using hown7)
          obtain ⟨ys, hys⟩ : ∃ ys, xs ++ rowN parts i = ys := ⟨_, rfl⟩
          rw [hys] at hown7 hnl ⊢
          have hI6 := H4.out.1.later hb6
          have H6 := Lib.hid (And.intro hI6 (And.intro hb6 (And.intro hown7 hys)))
          clear c0 c1 lY
          obtain ⟨c0, c1, -, -, lY⟩ := two_of hI6.box
          clear hb6 hown6 hown7 hgrow6 hI6 hO2 hcell hone hml hbw hnl hys
          go_upto_region 16 with fail
          have hO0 := OneI.start w6 m (rowN parts i)
          obtain ⟨W7, hW7⟩ : ∃ W, w6.alloc (.cells #[.int .i64 m, .slice none 0 0] 24) = W := ⟨_, rfl⟩
          rw [hW7] at hO0 ⊢
          have hI7 := H6.out.1.later hO0.bel
          clear hW7 c0 c1 lY
          obtain ⟨c0, c1, -, -, lY⟩ := two_of hI7.box
          have H7 := Lib.hid (And.intro hI7 hO0)
          clear hI7 hO0
          obtain ⟨k0, hk, kz0, kz1, kz2⟩ := info_parts info_rowI
          go_wp2_with fail
          go_loopw [75] (fun c wx => ∃ (k : Nat) (hv' : Value) (vs : List Value), k ≤ n ∧ c = .int .i64 k ∧ OneI w6 m (E.take k) (rowN parts i) hv' vs wx) (fun c _ => n - (intOf c).toNat)
          case atStart => exact ⟨0, _, _, Nat.zero_le _, rfl, by rw [List.take_zero]; exact H7.out.2⟩
          case round =>
            obtain ⟨k, hv', vs, hkn, rfl, hOn⟩ := hrel
            have hIx := H6.out.1.later hOn.bel
            have hvl : vs.length ≤ 40 := by
              have h1 := hOn.len
              have h2 : (insideL (E.take k) (rowN parts i)).length ≤ (E.take k).length := by unfold insideL; exact List.length_filter_le _ _
              rw [List.length_take] at h2
              omega
            have HOn := Lib.hid hOn
            have HIx := Lib.hid hIx
            clear c0 c1 lY
            obtain ⟨c0, c1, -, -, lY⟩ := two_of hIx.box
            obtain ⟨z0, z1, -, gz1, lZ⟩ := two_of hOn.box
            obtain ⟨av', cv', rfl⟩ := owns_shape2 (n := vs.length) (by simpa using hOn.own)
            clear hOn hIx
            by_cases hk1 : k < n
            · have hkI : (k : Int) < n := by omega
              have hkE : k < E.length := by have := H2.out.2; omega
              obtain ⟨_, _, e1, _, _, _, f4⟩ := H6.out.1.row.open
              obtain ⟨be, oe, e2, _, fc⟩ := f4 (by omega)
              injection e1 with e1a e1b e1c
              subst e1a e1c
              subst e2
              obtain ⟨rk, ck, sk⟩ := fc k hkE
              obtain ⟨ae, de, rfl, -⟩ := sk.open
              obtain ⟨le, hle⟩ : ∃ le, (rowN E k).length = le := ⟨_, rfl⟩
              rw [hle] at ck sk
              replace ck := cell_next HOn.out.bel ck
              have HSk := Lib.hid (And.intro sk hle)
              have hle9 : le ≤ 9223372036854775807 := by
                obtain ⟨_, _, e3, h5, h6, _⟩ := sk.open
                have := HSk.out.2
                omega
              clear f4 fc e1b sk hle
              have hPp : SlI .i64 wr (.slice (some ⟨b1, o1, none⟩) lp d1) (rowN parts i) := by
                have := HIs.out.2.1.later (later_trans H6.out.2.1 HOn.out.bel)
                rwa [HIs.out.2.2.1] at this
              have HPp := Lib.hid hPp
              have hpc := part_count HPa.out.2 (p := rowN parts i) (e := rowN E k) (by rw [HP.out.1]; exact rowN_mem (by have := HP.out.2.1; omega)) (rowN_mem hkE)
              have HPC := Lib.hid hpc
              clear hPp hpc
              go_wp2_with fail
              go_loop [81, 12] (fun c x => ∃ t s : Nat, t ≤ le ∧ c = .int .i64 t ∧ x = .int .i64 s ∧ ((rowN E k).take t).countP (fun x => decide (x ∈ rowN parts i)) = s) (fun c _ => le - (intOf c).toNat)
              case atStart => exact ⟨0, 0, Nat.zero_le _, rfl, rfl, by rw [List.take_zero]; rfl⟩
              case round =>
                obtain ⟨t, cn, htl, rfl, rfl, hcn⟩ := hrel
                have hcl : cn ≤ t := by
                  rw [← hcn]
                  have h1 := List.countP_le_length (p := fun x => decide (x ∈ rowN parts i)) (l := (rowN E k).take t)
                  rw [List.length_take] at h1
                  omega
                have HCN := Lib.hid hcn
                clear hcn
                by_cases ht : t < le
                · have htI : (t : Int) < le := by omega
                  obtain ⟨_, _, e1, _, _, _, f4⟩ := HSk.out.1.open
                  obtain ⟨bk, ok, e2, _, fc⟩ := f4 (by have := HSk.out.2; omega)
                  injection e1 with e1a e1b e1c
                  subst e1a e1c
                  subst e2
                  have htE : t < (rowN E k).length := by have := HSk.out.2; omega
                  have ct := fc t htE
                  rw [← getD_at htE] at ct
                  replace ct := cell_next HOn.out.bel ct
                  have hsn := count_snoc (p := rowN parts i) htE
                  obtain ⟨x, hx⟩ : ∃ x, (rowN E k).getD t 0 = x := ⟨_, rfl⟩
                  rw [hx] at ct hsn
                  have hCo := Contains_any _ _ x wr HPp.out
                  obtain ⟨qc, hqc⟩ : ∃ q : Bool, decide (x ∈ rowN parts i) = q := ⟨_, rfl⟩
                  rw [hqc] at hCo
                  have hnx : ((rowN E k).take (t + 1)).countP (fun x => decide (x ∈ rowN parts i)) = cn + (if qc then 1 else 0) := by
                    rw [hsn, HCN.out, ← hqc]
                    by_cases q : x ∈ rowN parts i
                    · simp [q]
                    · simp [q]
                  have HX := Lib.hid (And.intro hCo hnx)
                  clear f4 fc e1b hx hsn hCo hqc hnx htE
                  go_wp2_with fail
                  refine HX.out.1.mono ?_
                  rintro e w9 ⟨rfl, h9⟩
                  rw [h9]
                  clear h9 w9
                  cases qc with
                  | true =>
                    go_wp2_with fail
                    go_round
                    case rel => exact ⟨t + 1, cn + 1, ht, by go_num, by go_num, by simpa using HX.out.2⟩
                    case measure => simp [intOf]; omega
                  | false =>
                    go_wp2_with fail
                    go_round
                    case rel => exact ⟨t + 1, cn, ht, by go_num, rfl, by simpa using HX.out.2⟩
                    case measure => simp [intOf]; omega
                · obtain rfl : t = le := by omega
                  have hall : (rowN E k).take t = rowN E k := List.take_of_length_le (Nat.le_of_eq HSk.out.2)
                  have hc2 := HCN.out
                  rw [hall] at hc2
                  have hpc := HPC.out
                  rw [hc2, HSk.out.2] at hpc
                  have HC2 := Lib.hid hc2
                  clear hall hc2
                  by_cases hz : cn = 0
                  · subst hz
                    have hnx := HOn.out.skip HC2.out
                    rw [← take_snoc hkE] at hnx
                    have HNX := Lib.hid hnx
                    clear hnx hpc
                    go_wp2_with fail
                    go_roundw
                    case rel => exact ⟨k + 1, _, vs, hk1, by go_num, HNX.out⟩
                    case measure => simp [intOf]; omega
                  · obtain rfl : cn = t := by omega
                    have hz0 : ¬ (cn : Int) = 0 := by omega
                    have hzp : (0 : Int) < cn := by omega
                    clear hpc
                    have hoA := HOn.out.own.alloc (.cells #[.slice ae cn de] 27)
                    have hbA := kept (later_alloc wr (.cells #[.slice ae cn de] 27)) HOn.out.box
                    go_wp2_with (at_builtin; refine wpList_append_own _ rfl (.tmp 102) (.tmp 104) 22 rfl (w6.heap.size + 1) 27 k0 _ 1 24 Tryd.underlying22 hk kz0 kz1 kz2 rfl (by decide) _ _ _ rfl hoA ⟨wr.heap.size, 0, none⟩ 1 1 [.slice ae cn de] rfl rfl (cells_new _ _ _) (by simp [Value.oneCell']) (by unfold maxLen; omega) (by omega) (by simp; omega) ?_; intro v8 w8 hown8 hgrow8 _; obtain ⟨g8, cap8, rfl⟩ := ownsRow_succ hown8; have mX := box_grown hoA hgrow8 hbA (by decide); obtain ⟨y0, y1, fy0, fy1, lYX⟩ := two_of mX)
                    have hnx := HOn.out.next (e := rowN E k) (by rw [HC2.out]; exact hz) HSk.out.1 hown8 hgrow8
                    rw [← take_snoc hkE] at hnx
                    have HNX := Lib.hid hnx
                    clear hnx hown8 hgrow8 mX hoA hbA
                    go_roundw
                    case rel => exact ⟨k + 1, _, _, hk1, by go_num, HNX.out⟩
                    case measure => simp [intOf]; omega
            · obtain rfl : k = n := by omega
              have hOne := HOn.out
              rw [List.take_of_length_le (Nat.le_of_eq H2.out.2)] at hOne
              have hAc := AcyclicB_any m (.slice av' vs.length cv') (insideL E (rowN parts i)) wr hOne.slR HIx.out.tab
              have hyI := hyp_inside HPa.out.2 (rowN parts i)
              obtain ⟨qa, hqa⟩ : ∃ b, acB m (insideL E (rowN parts i)) = b := ⟨_, rfl⟩
              rw [hqa] at hAc
              have hqq : qa = true ↔ acyc ((insideL E (rowN parts i)).map setL) := by
                rw [← hqa, acB_iff, leftNil_iff]
                exact ⟨fun h => h.2, fun h => ⟨hyI, h⟩⟩
              have hys : ys = (parts.take (i + 1)).flatten := by
                rw [← H6.out.2.2.2, HIs.out.2.2.2.2.2.2.2.2, take_snoc (by have := HP.out.2.1; omega), List.flatten_append]
                simp
              have hrel : ∀ W, Below w6.heap.size w6 W → W.ownsRow w4.heap.size 3 1 (.slice a6 ys.length c6) ys.length (ys.map (.int .i64)) ∧ Below w4.heap.size w4 W := fun W hW => ⟨owns_later H6.out.2.2.1 hW, later_trans H6.out.2.1 hW⟩
              have hnew : ∀ b : Bool, (b = true ↔ (q = true ∧ qa = true)) → (b = true ↔ ∀ j, j < i + 1 → acyc ((insideL E (rowN parts j)).map setL)) := fun b hb => by
                rw [hb, HIs.out.2.2.2.2.2.2.1, hqq]
                constructor
                · rintro ⟨h1, h2⟩ j hj
                  by_cases e : j = i
                  · subst e; exact h2
                  · exact h1 j (by omega)
                · intro h1
                  exact ⟨fun j hj => h1 j (by omega), h1 i (by omega)⟩
              have HR := Lib.hid (And.intro hAc (And.intro hys (And.intro hrel (And.intro hnew hOne.bel))))
              clear hOne hAc hyI hqa hqq hys hrel hnew
              cases q with
              | true =>
                go_wp2_with fail
                refine HR.out.1.mono ?_
                rintro e w9 ⟨rfl, b9⟩
                have HB9 := Lib.hid (later_trans HR.out.2.2.2.2 b9)
                clear b9
                go_wp2_with fail
                go_roundw
                case rel => exact ⟨i + 1, qa, ys, hin, by go_num, rfl, HR.out.2.1, (HR.out.2.2.1 _ HB9.out).1, HR.out.2.2.2.1 qa (by simp), (HR.out.2.2.1 _ HB9.out).2⟩
                case measure => simp [intOf]; omega
              | false =>
                go_wp2_with fail
                go_roundw
                case rel => exact ⟨i + 1, false, ys, hin, by go_num, rfl, HR.out.2.1, (HR.out.2.2.1 _ HR.out.2.2.2.2).1, HR.out.2.2.2.1 false (by simp), (HR.out.2.2.1 _ HR.out.2.2.2.2).2⟩
                case measure => simp [intOf]; omega
        -- R]
      · obtain rfl : i = np := by omega
        have hxf : xs = parts.flatten := by rw [hxs, List.take_of_length_le (Nat.le_of_eq HP.out.2.1)]
        obtain ⟨mm, hmm⟩ : ∃ mm : Nat, m = mm := ⟨m.toNat, (Int.toNat_of_nonneg HP.out.2.2.2.2.1).symm⟩
        have hsrt : sortedL xs = upL mm := by
          have := parts_sorted HPa.out.2 (ys := sortedL xs) (by rw [HP.out.1, ← hxf]; exact List.mergeSort_perm _ _) (sortedL_pw xs)
          rw [this, hmm]; rfl
        have hxm : xs.length = mm := by rw [← sortedL_len xs, hsrt, upL_len]
        have hSo := sortOwn_any (.slice av xs.length cv) xs w4.heap.size wr hO (by omega) hb.size
        rw [hsrt, upL_len] at hSo
        have hqa : q = acB m E := by
          rw [Bool.eq_iff_iff, hq, acB_iff, leftNil_iff, acyc_parts HPa.out.2, HP.out.1]
          constructor
          · intro h1
            refine ⟨HPa.out.2, fun p hp => ?_⟩
            obtain ⟨j, hj, e⟩ := List.getElem_of_mem hp
            have := h1 j (by have := HP.out.2.1; omega)
            rwa [rowN_at hj, e] at this
          · intro h1 j hj
            exact h1.2 _ (rowN_mem (by have := HP.out.2.1; omega))
        rw [hxm] at hSo ⊢
        have HS := Lib.hid (And.intro hSo (And.intro hb hqa))
        clear hSo hb hqa hxs hO hq hIr hPr hxf hsrt
        go_wp2_with fail
        refine HS.out.1.mono ?_
        rintro e w5 ⟨rfl, hO5, b5⟩
        have hI5 := H4.out.1.later (HS.out.2.1.trans b5)
        have hA5 : SlI .i64 w5 (.slice av mm cv) (upL mm) := by
          have h1 : w5.ownsRow w4.heap.size 3 1 (.slice av mm cv) mm ((upL mm).map (.int .i64)) := hO5
          exact SlI.of_owns h1 (fun x hx => by have := upL_mem.1 hx; have := HP.out.2.2.2.2.2.1; exact WalkArith.wf_i64 (by omega))
        have hAc := AcyclicB_any m (.slice ah n ch) E w5 hI5.row hI5.tab
        rw [← HS.out.2.2] at hAc
        have hmm32 : mm ≤ 32 := by have := HP.out.2.2.2.2.2.1; omega
        obtain ⟨c0, c1, -, -, lY⟩ := two_of hI5.box
        have H5 := Lib.hid (And.intro hI5 (And.intro hA5 hAc))
        clear hI5 hA5 hAc hO5 b5
        go_wp2_with fail
        go_loop [118] (fun c => ∃ v : Nat, v ≤ mm ∧ c = .int .i64 v) (fun c => mm - (intOf c).toNat)
        case atStart => exact ⟨0, Nat.zero_le _, rfl⟩
        case round =>
          obtain ⟨v, hv, rfl⟩ := hrel
          by_cases hvm : v < mm
          · have hvI : (v : Int) < mm := by omega
            obtain ⟨_, _, e1, _, _, _, f4⟩ := H5.out.2.1.open
            obtain ⟨ba, oa, e2, _, fc⟩ := f4 (by rw [upL_len]; omega)
            injection e1 with e1a e1b e1c
            subst e1a e1c
            subst e2
            have cv := fc v (by rw [upL_len]; exact hvm)
            rw [← getD_at (show v < (upL mm).length by rw [upL_len]; exact hvm), upL_at hvm] at cv
            clear f4 fc e1b
            go_wp2_with fail
            go_round
            case rel => exact ⟨v + 1, hvm, by go_num⟩
            case measure => simp [intOf]; omega
          · obtain rfl : v = mm := by omega
            subst hmm
            go_wp2_with fail
            refine H5.out.2.2.mono ?_
            rintro e w9 ⟨rfl, b9⟩
            have HE := Lib.hid (later_trans H5.out.1.bel b9)
            clear b9
            cases q with
            | true =>
              go_wp2_with fail
              go_ret
              exact ⟨rfl, HE.out⟩
            | false =>
              go_wp2_with fail
              go_ret
              exact ⟨rfl, HE.out⟩
end Go.Proofs.YtplidcbfbonjlaaDoor
