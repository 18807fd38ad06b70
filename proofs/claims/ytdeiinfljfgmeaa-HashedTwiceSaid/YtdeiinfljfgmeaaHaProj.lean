/-
  hashed.Project, walked.
-/
import Derived.Test.YtdeiinfljfgmeaaHaPick
namespace Go.Proofs.Ytdeiinfljfgmeaa
open Go.RowKit
set_option linter.unusedVariables false
set_option linter.unusedSimpArgs false

/-- No variable is named twice. -/
def Once (o : List Int) : Prop := ∀ j, j < o.length → o.getD j 0 ∉ o.take j
def projL (R : Rl) (o : List Int) : Rl := ⟨o, ofL (R.rows.map fun r => cellsL r (placesL R.vars o))⟩
def hasL (vs o : List Int) : Bool := o.all fun x => decide (x ∈ vs)
theorem placesL_in {vs o : List Int} (h : hasL vs o = true) : ∀ x ∈ placesL vs o, 0 ≤ x ∧ x < vs.length := fun x hx => by
  unfold placesL at hx
  obtain ⟨y, hy, rfl⟩ := List.mem_map.1 hx
  have := of_decide_eq_true (List.all_eq_true.1 h y hy)
  obtain ⟨i, e, hi⟩ := idxI_lt this
  omega
/-- What the answer is. -/
structure ProjR (R : Rl) (o : List Int) (base : Nat) (w' : World) (v1 v2 : Value) (no : Int) : Prop where
  wrong : rightB R = false → no = 350 ∧ v1 = .slice none 0 0 ∧ v2 = .slice none 0 0
  twice : rightB R = true → ¬ Once o → no = 2 ∧ v1 = .slice none 0 0 ∧ v2 = .slice none 0 0
  none : rightB R = true → Once o → hasL R.vars o = false → no = 4 ∧ v1 = .slice none 0 0 ∧ v2 = .slice none 0 0
  ok : rightB R = true → Once o → hasL R.vars o = true → no = 0 ∧ OwnRl base w' v1 v2 (projL R o)
set_option maxRecDepth 100000 in
set_option maxHeartbeats 4000000 in
theorem Project_any (vv rv vd : Value) (R : Rl) (o : List Int) (w : World) (h : RlR w vv rv R) (ho : SlI .i64 w vd o) (hl : o.length ≤ 1048576) :
    Calls Try.prog 14 #[relV vv rv, vd] w fun e w' => Below w.heap.size w w' ∧ ∃ v1 v2 no, e = .returned (.tuple #[relV v1 v2, .int .i64 no]) ∧ ProjR R o w.heap.size w' v1 v2 no := by
  obtain ⟨i0, hi, hz0, hz1, hz2⟩ := info_parts info_rowU
  obtain ⟨W0, hW0⟩ : ∃ W, W = (w.alloc (.cells #[vv, rv] 25)).alloc (.cells #[.slice none 0 0, .slice none 0 0] 25) := ⟨_, rfl⟩
  have s0 : W0.heap.size = w.heap.size + 1 + 1 := by rw [hW0, World.size_alloc, World.size_alloc]
  have b0 : Below w.heap.size w W0 := by rw [hW0]; exact later_trans (later_alloc _ _) (later_alloc _ _)
  have bR : RB W0 w.heap.size vv rv := by rw [hW0]; exact box_alloc (box_new _ _ _) _
  have bX : RB W0 (w.heap.size + 1) (.slice none 0 0) (.slice none 0 0) := by
    rw [hW0]
    have h := box_new (w.alloc (.cells #[vv, rv] 25)) #[.slice none 0 0, .slice none 0 0] 25
    rw [World.size_alloc] at h
    exact h
  have HC1 := Lib.hid (Check_any vv rv R W0 (h.later b0))
  obtain ⟨c0, c1, -⟩ := two_of2 bR
  obtain ⟨av, cv, hvv, -⟩ := h.vars.open
  obtain ⟨ar, cr, hrv, -⟩ := h.rows.open
  obtain ⟨ad, cd, hvd, -⟩ := ho.open
  subst hvv
  subst hrv
  subst hvd
  have H0 := Lib.hid (And.intro h (And.intro bR (And.intro ho (And.intro bX b0))))
  obtain ⟨rb, hrb⟩ : ∃ b, rightB R = b := ⟨_, rfl⟩
  clear bR bX b0 h ho
  go_enter Try.func14, Try.ntmps14
  go_wp2_with fail
  rw [← hW0]
  clear hW0
  refine HC1.out.mono ?_
  rintro e W1 ⟨rfl, b1⟩
  rw [hrb]
  have HX1 := Lib.hid (And.intro (kept b1 H0.out.2.2.2.1) (And.intro (kept b1 H0.out.2.1) (later_trans H0.out.2.2.2.2 b1)))
  have s1 := b1.size
  clear c0 c1 b1
  cases rb with
  | false =>
    obtain ⟨x0, x1, lX⟩ := two_of2 HX1.out.1
    have fX0 := box_frozen (i := 0) HX1.out.1
    have fX1 := box_frozen (i := 1) HX1.out.1
    have hb3 := box_set (i := 1) (box_set (i := 0) HX1.out.1 (.slice none 0 0)) (.slice none 0 0)
    have d0 := box_cell (i := 0) hb3
    have d1 := box_cell (i := 1) hb3
    simp at d0 d1
    have hB' := below_set (i := 1) (u := .slice none 0 0) (below_set (i := 0) (u := .slice none 0 0) HX1.out.2.2 (show w.heap.size ≤ w.heap.size + 1 by omega)) (show w.heap.size ≤ w.heap.size + 1 by omega)
    have HB' := Lib.hid hB'
    clear hB' hb3
    go_wp2_with fail
    refine bodyPost_ret (v := .tuple #[relV (.slice none 0 0) (.slice none 0 0), .int .i64 350]) (by simp [results, Try.results14, go_sem, d0, d1]) rfl ?_
    exact ⟨HB'.out, _, _, 350, rfl, ⟨fun _ => ⟨rfl, rfl, rfl⟩, fun h => (by rw [hrb] at h; cases h), fun h => (by rw [hrb] at h; cases h), fun h => (by rw [hrb] at h; cases h)⟩⟩
  | true =>
    simp only [if_true]
    go_wp2_with fail
    go_loopw [22] (fun i wr => ∃ k : Nat, k ≤ o.length ∧ i = .int .i64 k ∧ (∀ j, j < k → o.getD j 0 ∉ o.take j) ∧ Below W1.heap.size W1 wr) (fun i _ => o.length - (intOf i).toNat)
    case atStart => exact ⟨0, Nat.zero_le _, rfl, fun j hj => by omega, Below.refl _ _⟩
    case round =>
      obtain ⟨k, hk, rfl, hn, hb⟩ := hrel
      by_cases hlt : k < o.length
      · obtain ⟨_, _, e1, k1, k2, _, g4⟩ := (SlI.later H0.out.2.2.1 (later_trans HX1.out.2.2 hb)).open
        obtain ⟨be, oe, e2, _, gc⟩ := g4 (by omega)
        have ce1 := gc k hlt
        simp only [Value.slice.injEq] at e1
        obtain ⟨rfl, -, rfl⟩ := e1
        subst e2
        rw [← getD_at hlt] at ce1
        obtain ⟨x, hx⟩ : ∃ x, o.getD k 0 = x := ⟨_, rfl⟩
        rw [hx] at ce1
        have hCt := Contains_any (.slice (some ⟨be, oe, none⟩) k cd) (o.take k) x wr ((SlI.later H0.out.2.2.1 (later_trans HX1.out.2.2 hb)).cut2 hk)
        have HCt := Lib.hid hCt
        have hkc : k ≤ cd := by omega
        have HO := Lib.hid (And.intro hn (And.intro hb (And.intro hlt hx)))
        clear hCt hn gc g4
        go_wp2_with fail
        refine HCt.out.mono ?_
        rintro e w2 ⟨rfl, h2⟩
        rw [h2]
        clear h2 w2
        by_cases hin : x ∈ o.take k
        · rw [decide_eq_true hin]
          have mX := kept hb HX1.out.1
          obtain ⟨x0, x1, lX⟩ := two_of2 mX
          have fX0 := box_frozen (i := 0) mX
          have fX1 := box_frozen (i := 1) mX
          have hb3 := box_set (i := 1) (box_set (i := 0) mX (.slice none 0 0)) (.slice none 0 0)
          have d0 := box_cell (i := 0) hb3
          have d1 := box_cell (i := 1) hb3
          simp at d0 d1
          have hB' := below_set (i := 1) (u := .slice none 0 0) (below_set (i := 0) (u := .slice none 0 0) (later_trans HX1.out.2.2 hb) (show w.heap.size ≤ w.heap.size + 1 by omega)) (show w.heap.size ≤ w.heap.size + 1 by omega)
          have hno : ¬ Once o := fun q => q k hlt (by rw [hx]; exact hin)
          have HB' := Lib.hid (And.intro hB' hno)
          clear hB' hb3 hno hin mX hx hb
          go_wp2_with fail
          refine bodyPost_ret (v := .tuple #[relV (.slice none 0 0) (.slice none 0 0), .int .i64 2]) (by simp [results, Try.results14, go_sem, d0, d1]) rfl ?_
          exact ⟨HB'.out.1, _, _, 2, rfl, ⟨fun h => (by rw [hrb] at h; cases h), fun _ _ => ⟨rfl, rfl, rfl⟩, fun _ h => absurd h HB'.out.2, fun _ h => absurd h HB'.out.2⟩⟩
        · rw [decide_eq_false hin]
          have HG : Hid (∀ j, j < k + 1 → o.getD j 0 ∉ o.take j) := Lib.hid (fun j hj => by
            by_cases q : j = k
            · subst q; rw [hx]; exact hin
            · exact HO.out.1 j (by omega))
          clear hin hx hb
          go_wp2_with fail
          go_roundw
          case rel => exact ⟨k + 1, by omega, by go_num, HG.out, HO.out.2.1⟩
          case measure => simp [intOf]; omega
      · obtain rfl : k = o.length := by omega
        have bw := later_trans HX1.out.2.2 hb
        have hP := places_any (.slice av R.vars.length cv) (.slice ar R.rows.length cr) (.slice ad o.length cd) R.vars o wr (SlI.later H0.out.1.vars bw) ⟨_, _, _, rfl⟩ (SlI.later H0.out.2.2.1 bw) (by omega)
        change Calls _ _ _ _ (fun e w' => ∃ v', e = .returned (.tuple #[v', .bool (hasL R.vars o)]) ∧ (hasL R.vars o = true → w'.ownsRow wr.heap.size 3 1 v' o.length ((placesL R.vars o).map (.int .i64))) ∧ (hasL R.vars o = false → v' = .slice none 0 0) ∧ Below wr.heap.size wr w') at hP
        obtain ⟨bo, hbo⟩ : ∃ b, hasL R.vars o = b := ⟨_, rfl⟩
        rw [hbo] at hP
        obtain ⟨c0w, c1w, -⟩ := two_of2 (kept hb HX1.out.2.1)
        have HP := Lib.hid hP
        have HO := Lib.hid (And.intro (show Once o from hn) (And.intro bw (kept hb HX1.out.1)))
        have swr := bw.size
        clear hP hn bw hb
        cases bo with
        | false =>
          go_wp2_with fail
          refine HP.out.mono ?_
          rintro e w3 ⟨vp, rfl, -, hvp, b3⟩
          obtain rfl := hvp trivial
          have mX := kept b3 HO.out.2.2
          obtain ⟨x0, x1, lX⟩ := two_of2 mX
          have fX0 := box_frozen (i := 0) mX
          have fX1 := box_frozen (i := 1) mX
          have hb3 := box_set (i := 1) (box_set (i := 0) mX (.slice none 0 0)) (.slice none 0 0)
          have d0 := box_cell (i := 0) hb3
          have d1 := box_cell (i := 1) hb3
          simp at d0 d1
          have hB' := below_set (i := 1) (u := .slice none 0 0) (below_set (i := 0) (u := .slice none 0 0) (later_trans HO.out.2.1 b3) (show w.heap.size ≤ w.heap.size + 1 by omega)) (show w.heap.size ≤ w.heap.size + 1 by omega)
          have HB' := Lib.hid hB'
          clear hB' hb3 mX b3
          go_wp2_with fail
          refine bodyPost_ret (v := .tuple #[relV (.slice none 0 0) (.slice none 0 0), .int .i64 4]) (by simp [results, Try.results14, go_sem, d0, d1]) rfl ?_
          exact ⟨HB'.out, _, _, 4, rfl, ⟨fun h => (by rw [hrb] at h; cases h), fun _ h => absurd HO.out.1 h, fun _ _ _ => ⟨rfl, rfl, rfl⟩, fun _ _ h => (by rw [hbo] at h; cases h)⟩⟩
        | true =>
          go_wp2_with fail
          refine HP.out.mono ?_
          rintro e w3 ⟨vp, rfl, hvp, -, b3⟩
          have hp := hvp trivial
          obtain ⟨ap, cp, rfl⟩ := owns_shape2 hp
          have c0x := cell_next b3 c0w
          have c1x := cell_next b3 c1w
          have hbw3 := later_trans HO.out.2.1 b3
          have HQ := Lib.hid (And.intro hp (And.intro hbw3 (kept b3 HO.out.2.2)))
          have s3 := b3.size
          obtain ⟨pl, hpl⟩ : ∃ pl, placesL R.vars o = pl := ⟨_, rfl⟩
          have hpll : pl.length = o.length := by rw [← hpl]; unfold placesL; rw [List.length_map]
          obtain ⟨hwd, hv64, hr20⟩ := rightB_at hrb
          have HPI := Lib.hid (placesL_in hbo)
          rw [hpl] at HQ HPI
          have HWD := Lib.hid hwd
          have HPL := Lib.hid (And.intro hpl hpll)
          have hpl20 : pl.length ≤ 1048576 := by omega
          clear hvp hp hbw3 b3 hwd hpl hpll
          go_wp2_with fail
          go_loopw [11, 46] (fun v i W => ∃ (k : Nat) (ps : List (Value × List Int)), k ≤ R.rows.length ∧ i = .int .i64 k ∧ OwnRK .u64 38 26 w3.heap.size W v ps ∧ ps.map Prod.snd = (R.rows.take k).map (fun r => cellsL r pl) ∧ Below w3.heap.size w3 W) (fun _ i _ => R.rows.length - (intOf i).toNat)
          case atStart => exact ⟨0, [], Nat.zero_le _, rfl, OwnRK.nil _ _ _ _ _, rfl, Below.refl _ _⟩
          case round =>
            obtain ⟨k, ps, hk, rfl, hown, hps, hb⟩ := hrel
            obtain ⟨v7, cv7, rfl⟩ := owns_shape2 hown.own
            have hpsl : ps.length = k := by
              have := congrArg List.length hps
              rw [List.length_map, List.length_map, List.length_take] at this
              omega
            subst hpsl
            by_cases hlt : ps.length < R.rows.length
            · have hRr : SlRK .u64 wr (.slice ar R.rows.length cr) R.rows := H0.out.1.rows.later (later_trans HQ.out.2.1 hb)
              obtain ⟨_, _, e1, _, _, _, f4⟩ := hRr.open
              obtain ⟨b, o', e2, hbb, fc⟩ := f4 (by omega)
              simp only [Value.slice.injEq] at e1
              obtain ⟨rfl, -, rfl⟩ := e1
              subst e2
              obtain ⟨rv', cr', hrv⟩ := fc ps.length hlt
              change SlI .u64 wr rv' (rowN R.rows ps.length) at hrv
              obtain ⟨row, hrow⟩ : ∃ row, rowN R.rows ps.length = row := ⟨_, rfl⟩
              have hrl : row.length = R.vars.length := by rw [← hrow]; exact HWD.out _ (rowN_mem hlt)
              rw [hrow] at hrv
              have hpin : ∀ x ∈ pl, 0 ≤ x ∧ x < row.length := fun x hx => by rw [hrl]; exact HPI.out x hx
              have hCl := cells_any rv' (.slice ap o.length cp) row pl wr hrv (by rw [← HPL.out.2]; exact SlI.of_owns (owns_later (by rw [HPL.out.2]; exact HQ.out.1) hb) (fun x hx => by
                have := HPI.out x hx
                have e1 : IntKind.i64.min = -9223372036854775808 := by decide
                have e2 : IntKind.i64.max = 9223372036854775807 := by decide
                simp [Lit.wf, e1, e2]
                omega)) (by omega) hpin
              have hwfc : ∀ x ∈ cellsL row pl, (Lit.int .u64 x).wf = true := fun x hx => by
                unfold cellsL at hx
                obtain ⟨y, hy, rfl⟩ := List.mem_map.1 hx
                have hy2 := hpin y hy
                have hy3 : y.toNat < row.length := by omega
                rw [getD_at hy3]
                exact hrv.2 _ (List.getElem_mem hy3)
              have hcl : (cellsL row pl).length = pl.length := by unfold cellsL; rw [List.length_map]
              obtain ⟨arr, crr, hrr, -⟩ := hrv.open
              subst hrr
              have HCl := Lib.hid hCl
              have HO3 := Lib.hid (And.intro hown (And.intro hps (And.intro hb (And.intro hrow (And.intro hwfc (And.intro hcl hrl))))))
              have hbz := hb.size
              clear hCl hRr f4 fc hrv hown hps hb hpin hwfc hcl hrow hrl
              go_wp2_with fail
              refine HCl.out.mono ?_
              rintro e wC ⟨vc, rfl, hoC, bC⟩
              obtain ⟨avc, cvc, rfl⟩ := owns_shape2 hoC
              have hownC := owns_later HO3.out.1.own bC
              have hcz := bC.size
              go_wp2_with (at_builtin; refine wpList_append_own _ rfl (.tmp 50) (.tmp 54) 23 rfl w3.heap.size 26 i0 _ 1 24 Try.underlying23 hi hz0 hz1 hz2 rfl (by decide) _ _ _ rfl (hownC.alloc _) ⟨wC.heap.size, 0, none⟩ 1 1 [.slice avc pl.length cvc] rfl rfl (cells_new _ _ _) (by simp [Value.oneCell']) (by unfold maxLen; omega) (by omega) (by simp; omega) ?_; intro v6 w6 hown6 hgrow6 _; obtain ⟨g6, cap6, rfl⟩ := ownsRow_succ hown6)
              have hn := OwnRK.next (xs := cellsL row pl) (by decide) HO3.out.1 bC (owns_down hoC hbz) HO3.out.2.2.2.2.2.1 HO3.out.2.2.2.2.1 hown6 hgrow6
              have hB6 : Below w3.heap.size w3 w6 := (later_trans (later_trans HO3.out.2.2.1 bC) (later_alloc wC _)).grown hgrow6 (by simp; omega) (fun k e => owns_above hownC k e)
              have HN := Lib.hid (And.intro hn hB6)
              clear hn hB6 hown6 hgrow6 hownC hoC bC
              go_roundw
              case rel =>
                refine ⟨ps.length + 1, _, by omega, by go_num, HN.out.1, ?_, HN.out.2⟩
                rw [List.map_append, HO3.out.2.1, List.take_succ_eq_append_getElem hlt, List.map_append, ← rowN_at hlt, HO3.out.2.2.2.1]
                rfl
              case measure => simp [intOf]; omega
            · have hltI : ¬ (ps.length : Int) < (R.rows.length : Int) := by omega
              have hrows : ps.map Prod.snd = R.rows.map fun r => cellsL r (placesL R.vars o) := by
                rw [hps, List.take_of_length_le (by omega), HPL.out.1]
              have hS := hown.slR
              rw [hrows] at hS
              have hbw := later_trans HQ.out.2.1 hb
              have hOf := of_any (.slice ad o.length cd) (.slice v7 ps.length cv7) o (R.rows.map fun r => cellsL r (placesL R.vars o)) wr (SlI.later H0.out.2.2.1 hbw) hS (fun r hr => by
                obtain ⟨q, -, rfl⟩ := List.mem_map.1 hr
                unfold cellsL placesL
                rw [List.length_map, List.length_map]) hl (by rw [List.length_map]; exact hr20)
              have HOf := Lib.hid hOf
              have HX := Lib.hid (And.intro hbw (kept hb HQ.out.2.2))
              have sb := hbw.size
              clear hOf hS hrows hown hps hb hbw
              go_wp2_with fail
              refine HOf.out.mono ?_
              rintro e wO ⟨v1, v2, rfl, hO, bO⟩
              obtain ⟨a1, c1, rfl⟩ := owns_shape2 hO.vars
              obtain ⟨qs, h1, h2⟩ := hO.rows
              obtain ⟨a2, c2, rfl⟩ := owns_shape2 h1.own
              have mX := kept bO HX.out.2
              obtain ⟨x0, x1, lX⟩ := two_of2 mX
              have fX0 := box_frozen (i := 0) mX
              have fX1 := box_frozen (i := 1) mX
              have hb3 := box_set (i := 1) (box_set (i := 0) mX (.slice a1 o.length c1)) (.slice a2 qs.length c2)
              have d0 := box_cell (i := 0) hb3
              have d1 := box_cell (i := 1) hb3
              simp at d0 d1
              have hB' := below_set (i := 1) (u := .slice a2 qs.length c2) (below_set (i := 0) (u := .slice a1 o.length c1) (later_trans HX.out.1 bO) (show w.heap.size ≤ w.heap.size + 1 by omega)) (show w.heap.size ≤ w.heap.size + 1 by omega)
              have hO' := ((hO.set mX (i := 0) (.slice a1 o.length c1)).set (box_set mX _) (i := 1) (.slice a2 qs.length c2)).down sb
              have HB' := Lib.hid (And.intro hB' hO')
              clear hB' hO' hb3 mX hO h1 h2 bO
              go_wp2_with fail
              refine bodyPost_ret (v := .tuple #[relV (.slice a1 o.length c1) (.slice a2 qs.length c2), .int .i64 0]) (by simp [results, Try.results14, go_sem, d0, d1]) rfl ?_
              exact ⟨HB'.out.1, _, _, 0, rfl, ⟨fun h => (by rw [hrb] at h; cases h), fun _ h => absurd HO.out.1 h, fun _ _ h => (by rw [hbo] at h; cases h), fun _ _ _ => ⟨rfl, HB'.out.2⟩⟩⟩
end Go.Proofs.Ytdeiinfljfgmeaa
