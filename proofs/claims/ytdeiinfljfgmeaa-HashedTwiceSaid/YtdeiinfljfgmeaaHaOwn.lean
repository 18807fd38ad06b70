/-
  The law's own: a relation that can be gone through, in memory of its own.
-/
import Derived.Test.YtdeiinfljfgmeaaHaAll
namespace Go.Proofs.Ytdeiinfljfgmeaa
open Go.RowKit
set_option linter.unusedVariables false
set_option linter.unusedSimpArgs false

def cutL (R : Rl) : Rl := ⟨R.vars.take 8, (R.rows.take 20).map fun r => r.take 8⟩
set_option maxRecDepth 100000 in
set_option maxHeartbeats 4000000 in
theorem ownR_any (vv rv : Value) (R : Rl) (w : World) (h : RlR w vv rv R) :
    Calls Try.prog 11 #[relV vv rv] w fun e w' => ∃ v1 v2, e = .returned (relV v1 v2) ∧ OwnRl w.heap.size w' v1 v2 (cutL R) ∧ Below w.heap.size w w' := by
  obtain ⟨i0, hi, hz0, hz1, hz2⟩ := info_parts info_rowU
  obtain ⟨W0, hW0⟩ : ∃ W, W = (w.alloc (.cells #[vv, rv] 25)).alloc (.cells #[.slice none 0 0, .slice none 0 0] 25) := ⟨_, rfl⟩
  have s0 : W0.heap.size = w.heap.size + 1 + 1 := by rw [hW0, World.size_alloc, World.size_alloc]
  have b0 : Below w.heap.size w W0 := by rw [hW0]; exact later_trans (later_alloc _ _) (later_alloc _ _)
  have bA : RB W0 w.heap.size vv rv := by rw [hW0]; exact box_alloc (box_new _ _ _) _
  have bX : RB W0 (w.heap.size + 1) (.slice none 0 0) (.slice none 0 0) := by
    rw [hW0]
    have h := box_new (w.alloc (.cells #[vv, rv] 25)) #[.slice none 0 0, .slice none 0 0] 25
    rw [World.size_alloc] at h
    exact h
  obtain ⟨x0, x1, lA⟩ := two_of2 bA
  have H := Lib.hid h
  obtain ⟨av, cv, rfl, v1, v2, -⟩ := h.vars.open
  obtain ⟨ar, cr, rfl, r1, r2, -⟩ := h.rows.open
  have HA := Lib.hid bA
  obtain ⟨vs, ls⟩ := R
  simp only at v1 v2 r1 r2 H HA x0 x1 bA ⊢
  obtain ⟨mv, hmv⟩ : ∃ x, min vs.length 8 = x := ⟨_, rfl⟩
  have hmi : min (vs.length : Int) 8 = (mv : Int) := by omega
  have hvt : vs.take mv = vs.take 8 := by rw [← hmv, Nat.min_comm, ← List.take_take, List.take_of_length_le (l := vs) (Nat.le_refl _)]
  have hmc : mv ≤ cv := by omega
  have hm8 : mv ≤ 8 := by omega
  have hvl : (vs.take mv).length = mv := by rw [List.length_take]; omega
  have hvsm : vs.length ≤ 9223372036854775807 := by omega
  have HC1 := Lib.hid (cloneI_any (.slice av mv cv) (vs.take mv) W0 ((SlI.cut2 (k := .i64) h.vars (show mv ≤ vs.length by omega)).later b0) (by rw [hvl]; omega))
  have H0 := Lib.hid (And.intro bX (And.intro b0 (And.intro s0 (And.intro hvt hvl))))
  have hrsm : ls.length ≤ 9223372036854775807 := by omega
  clear bA bX b0 s0 h hvt hvl hmv
  go_enter Try.func11, Try.ntmps11
  go_wp2_with fail
  rw [← hW0]
  clear hW0 hmi
  refine HC1.out.mono ?_
  rintro e W1 ⟨v1', rfl, hO1, b1⟩
  rw [H0.out.2.2.2.2] at hO1
  obtain ⟨a1, c1, rfl⟩ := owns_shape2 hO1
  have s1 := b1.size
  have bw1 := later_trans H0.out.2.1 b1
  have hA1 : RB W1 w.heap.size (.slice av vs.length cv) (.slice ar ls.length cr) := kept b1 HA.out
  have hX1 := kept b1 H0.out.1
  have H1 := Lib.hid (And.intro hO1 (And.intro bw1 (And.intro hA1 hX1)))
  have hst : OfW W1 (.slice a1 mv c1) [] (W1.alloc (.cells #[.slice a1 mv c1, .slice none 0 0] 25)) :=
    ⟨later_alloc _ _, _, [], box_new _ _ _, ⟨World.ownsRow_nil _ _ _ _, fun p hp => by cases hp⟩, rfl⟩
  have HST := Lib.hid hst
  obtain ⟨y0, y1, lA1⟩ := two_of2 hA1
  clear hst hO1 bw1 hA1 hX1 b1 HC1 x0 x1
  go_wp2_with fail
  go_loopw [18] (fun k wr => ∃ i : Nat, i ≤ ls.length ∧ k = .int .i64 i ∧ OfW W1 (.slice a1 mv c1) (((ls.take i).take 20).map fun r => r.take 8) wr) (fun k _ => ls.length - (intOf k).toNat)
  case atStart => exact ⟨0, Nat.zero_le _, rfl, by simpa using HST.out⟩
  case round =>
    obtain ⟨i, hi', rfl, hO⟩ := hrel
    obtain ⟨v, ps, hX, hown, hps⟩ := hO.out
    obtain ⟨av7, cv7, rfl⟩ := owns_shape2 hown.own
    have hpl : ps.length ≤ 20 := by
      have := congrArg List.length hps
      rw [List.length_map, List.length_map, List.length_take] at this
      omega
    have hbr : Below w.heap.size w wr := later_trans H1.out.2.1 hO.bel
    by_cases hlt : i < ls.length
    · obtain ⟨_, _, e1, _, _, _, f4⟩ := (H.out.rows.later hbr).open
      obtain ⟨b, o, e2, hb, fc⟩ := f4 (by show 0 < ls.length; omega)
      injection e1 with e1a e1b e1c
      subst e1a
      subst e2
      obtain ⟨rv', cr', hrv⟩ := fc i (by show i < ls.length; exact hlt)
      change SlI .u64 wr rv' (rowN ls i) at hrv
      obtain ⟨ax, cx, rfl, k1, k2, -⟩ := hrv.open
      by_cases h20 : i < 20
      · have hlx : (ls.take (i + 1)).take 20 = (ls.take i).take 20 ++ [rowN ls i] := by
          rw [List.take_take, List.take_take, Nat.min_eq_right (by omega), Nat.min_eq_right (by omega), List.take_succ_eq_append_getElem hlt, rowN_at hlt]
        obtain ⟨xs, hxs⟩ : ∃ xs, rowN ls i = xs := ⟨_, rfl⟩
        rw [hxs] at hrv k1 hlx cr'
        obtain ⟨q, hq⟩ : ∃ q, min xs.length 8 = q := ⟨_, rfl⟩
        have hmi : min (xs.length : Int) 8 = (q : Int) := by omega
        have hqc : q ≤ cx := by omega
        have hq8 : q ≤ 8 := by omega
        have hlm : (xs.take q).length = q := by rw [List.length_take]; omega
        have hqt : xs.take q = xs.take 8 := by rw [← hq, Nat.min_comm, ← List.take_take, List.take_of_length_le (l := xs) (Nat.le_refl _)]
        have hxsm : xs.length ≤ 9223372036854775807 := by omega
        have hC2 : ∀ W, Below wr.heap.size wr W → Calls Try.prog 35 #[.slice ax q cx] W fun e w' => ∃ v', e = .returned v' ∧ w'.ownsRow wr.heap.size 38 1 v' q ((xs.take q).map (Value.int .u64)) ∧ Below W.heap.size W w' := fun W hb =>
          (clone_any _ (xs.take q) W (SlI.later (hrv.cut2 (show q ≤ xs.length by omega)) hb) (by omega)).mono (by rintro e w' ⟨v', rfl, ho, hb'⟩; rw [hlm] at ho; exact ⟨v', rfl, owns_down ho hb.size, hb'⟩)
        have HC2 := Lib.hid hC2
        have HO2 := Lib.hid (And.intro hO (And.intro hX (And.intro hown hps)))
        have HRW := Lib.hid (And.intro hlm (And.intro hqt (And.intro (show ∀ x ∈ xs.take q, (Lit.int .u64 x).wf = true from fun x hx => hrv.2 x (List.mem_of_mem_take hx)) hlx)))
        have hzO := hO.bel.size
        obtain ⟨z0, z1, lZ⟩ := two_of2 hX
        have fZ := box_frozen (i := 1) hX
        clear hO hown hps hX fc f4 hrv hC2 hxs hlm hqt hlx e1b e1c hbr hq k1 k2
        go_wp2_with fail
        go_region_law (first
          | (refine step_append_lies _ rfl (.tmp 26) (.tmp 33) 23 rfl (W1.heap.size + 1) 26 i0 _ 1 24 Try.underlying23 hi hz0 hz1 hz2 rfl (by decide) (.slice av7 ps.length cv7) ps.length _ rfl HR3.out ⟨wC.heap.size, 0, none⟩ 1 1 [.slice avc q cvc] rfl rfl (cells_new _ _ _) (by simp [Value.oneCell']) (by omega) (by unfold maxLen; omega) (by omega) (by simp; omega) _ rfl ?_; intro g6 cap6 w6 hown6 hgrow6 hat6 hlt6; have mX := box_grown HR3.out hgrow6 (kept (later_trans hbC (later_alloc wC (.cells #[.slice avc q cvc] 26))) HO2.out.2.1) (by decide); obtain ⟨y0, y1, lY⟩ := two_of2 mX; have fY := box_frozen (i := 1) mX)
          | (go_simp; refine (HC2.out _ (later_drew _)).mono ?_; rintro e wC ⟨vc, rfl, hoC, hbC1⟩; obtain ⟨avc, cvc, rfl⟩ := owns_shape2 hoC; have hbC : Below wr.heap.size wr wC := later_trans (later_drew _) hbC1; have mX0 := kept hbC HO2.out.2.1; obtain ⟨x0, x1, lX⟩ := two_of2 mX0; have fX := box_frozen (i := 1) mX0; have HR3 := Lib.hid (owns_later HO2.out.2.2.1.own (later_trans hbC (later_alloc wC (.cells #[.slice avc q cvc] 26)))); have hzw := hbC.size))
        all_goals go_wp2
        all_goals go_roundw
        all_goals first
          | (simp [intOf]; omega)
          | (refine ⟨i + 1, by omega, by go_num, ?_⟩
             have hn := OfW.next HO2.out.1 HO2.out.2.1 HO2.out.2.2.1 HO2.out.2.2.2 hbC hoC HRW.out.1 HRW.out.2.2.1 hown6 hgrow6
             rw [HRW.out.2.2.2, List.map_append, List.map_singleton, ← HRW.out.2.1]
             exact hn)
      · have hlx : (ls.take (i + 1)).take 20 = (ls.take i).take 20 := by rw [List.take_take, List.take_take, Nat.min_eq_left (by omega), Nat.min_eq_left (by omega)]
        have HS := Lib.hid (And.intro hO hlx)
        obtain ⟨n, hn⟩ : ∃ n, (rowN ls i).length = n := ⟨_, rfl⟩
        rw [hn] at cr'
        clear hO hlx hown hps hX fc f4 hrv e1b e1c hbr k1
        go_wp2_with fail
        go_roundw
        case rel => exact ⟨i + 1, by omega, by go_num, by rw [HS.out.2]; exact HS.out.1⟩
        case measure => simp [intOf]; omega
    · obtain rfl : i = ls.length := by omega
      have hps' : ps.map Prod.snd = (ls.take 20).map fun r => r.take 8 := by rw [hps, List.take_length]
      have hbx := kept hO.bel H1.out.2.2.2
      have lX' := lt_of_block hX
      obtain ⟨y0, y1, lY⟩ := two_of2 hX
      obtain ⟨x0, x1, lX⟩ := two_of2 hbx
      have fX0 := box_frozen (i := 0) hbx
      have fX1 := box_frozen (i := 1) hbx
      have hb3 := box_set (i := 1) (box_set (i := 0) hbx (.slice a1 mv c1)) (.slice av7 ps.length cv7)
      have d0 := box_cell (i := 0) hb3
      have d1 := box_cell (i := 1) hb3
      simp at d0 d1
      have hoV := owns_later H1.out.1 hO.bel
      have hRl : OwnRl w.heap.size wr (.slice a1 mv c1) (.slice av7 ps.length cv7) (cutL ⟨vs, ls⟩) := by
        refine ⟨?_, fun x hx => H.out.vars.2 x (List.mem_of_mem_take hx), ps, ⟨owns_down hown.own (by have := H0.out.2.2.1; omega), fun p hp => ⟨owns_down (hown.rows p hp).1 (by have := H0.out.2.2.1; omega), (hown.rows p hp).2⟩⟩, hps'⟩
        have h9 := owns_down hoV (show w.heap.size ≤ W0.heap.size by have := H0.out.2.2.1; omega)
        show World.ownsRow _ _ _ _ _ (vs.take 8).length ((vs.take 8).map _)
        rw [← H0.out.2.2.2.1, H0.out.2.2.2.2]
        exact h9
      have hR3 := OwnRl.set (i := 1) (OwnRl.set (i := 0) hRl hbx (.slice a1 mv c1)) (box_set (i := 0) hbx _) (.slice av7 ps.length cv7)
      have hB' := below_set (i := 1) (u := .slice av7 ps.length cv7) (below_set (i := 0) (u := .slice a1 mv c1) hbr (show w.heap.size ≤ w.heap.size + 1 by omega)) (show w.heap.size ≤ w.heap.size + 1 by omega)
      have HD := Lib.hid (And.intro hR3 hB')
      clear hb3 hoV hRl hR3 hB' hO hown hps hX hps' hbx hbr
      go_wp2_with fail
      refine bodyPost_ret (v := relV (.slice a1 mv c1) (.slice av7 ps.length cv7)) (by simp [results, Try.results11, go_sem, d0, d1]) rfl ?_
      exact ⟨_, _, rfl, HD.out.1, HD.out.2⟩
end Go.Proofs.Ytdeiinfljfgmeaa
