/-
  hashed.of, walked.
-/
import Derived.Deep.RegionHeld3
import Derived.Deep.RegionLaw
import Derived.Deep.DeepCutAuto
import Derived.Deep.AppendLies
import Derived.Test.YtdeiinfljfgmeaaHaOf
namespace Go.Proofs.Ytdeiinfljfgmeaa
open Go.RowKit
set_option linter.unusedVariables false
set_option linter.unusedSimpArgs false

abbrev cmpV (n : Nat) : Value := .func (.func 56) #[.agg #[.int .i64 (n : Int)]] #[]
def CB (W : World) (x n : Nat) : Prop := W.heap[x]? = some (.cells #[cmpV n] 81 (0, 0))
theorem ofClone {rv : Value} {rs : List (List Int)} {w : World} (hR : SlRK .u64 w rv rs) (hrl : rs.length ≤ 1048576) (W : World) (hb : Below w.heap.size w W) :
    Calls Try.prog 60 #[rv] W fun e w' => ∃ v' vs', e = .returned v' ∧ OldRows w W.heap.size w' v' vs' rs ∧ Below W.heap.size W w' := by
  obtain ⟨f, hC, hF⟩ := hR
  refine (cloneUv_any rv rs f W (hC.later hb) (fun r hr => SlI.later (hF r hr) hb) (by omega)).mono ?_
  rintro e w' ⟨v', rfl, ho, hb'⟩
  refine ⟨v', (List.range rs.length).map f, rfl, ⟨?_, by simp, fun r hr => ?_⟩, hb'⟩
  · rw [show ((List.range rs.length).map f).length = rs.length by simp]; exact ho
  · have e1 : ((List.range rs.length).map f).getD r undef = f r := by simp [List.getD, hr]
    rw [e1]; exact hF r hr
theorem ofComp {n : Nat} {w W : World} {base B : Nat} {v : Value} {ps : List (Value × List Int)} (hb : Below w.heap.size w W) (hbase : w.heap.size ≤ base) (hbw : base ≤ W.heap.size) (hO : OwnP w base W v ps) (hw : Wd n (ps.map Prod.snd)) (hl : ps.length ≤ 1048576) (hB : CB W B n) :
    Calls Try.prog 62 #[v, .func (.func 63) #[] #[.pointer (some ⟨B, 0, none⟩)]] W fun e w' => ∃ v', e = .returned v' ∧ OwnP w base w' v' (onceP ps ps.length) ∧ Below base W w' := by
  have hE : Enters 63 := enters_of Try.func63 (by kernel_rfl) rfl
  have hge : ∀ b, v.ownBlock = some b → base ≤ b := fun b e => owns_above hO.own b e
  have hne := own_ne hO.own hB (by decide)
  refine (compactF_any (w0 := w) (base := base) hE hO (by omega) hbw (caps := #[.pointer (some ⟨B, 0, none⟩)]) ?_).mono ?_
  · intro p hp q hq W' hW'
    have hb' : Below w.heap.size w W' := hb.trans ((hW'.below hge hbw).mono hbase)
    have hB' : CB W' B n := by
      unfold CB
      rw [hW'.block B (lt_of_block hB) (fun e => hne e.symm)]
      exact hB
    exact ofEq_any hB' (SlI.later (hO.rows p hp) hb') (SlI.later (hO.rows q hq) hb') (hw _ (List.mem_map_of_mem hp)) (hw _ (List.mem_map_of_mem hq))
  · rintro e w' ⟨v', rfl, h1, h2⟩
    exact ⟨v', rfl, h1, h2.below hge hbw⟩
set_option maxRecDepth 100000 in
set_option maxHeartbeats 4000000 in
theorem of_any (vv rv : Value) (vs : List Int) (rs : List (List Int)) (w : World) (hV : SlI .i64 w vv vs) (hR : SlRK .u64 w rv rs) (hw : Wd vs.length rs) (hvl : vs.length ≤ 1048576) (hrl : rs.length ≤ 1048576) :
    Calls Try.prog 40 #[vv, rv] w fun e w' => ∃ v1 v2, e = .returned (.tuple #[relV v1 v2, .int .i64 0]) ∧ OwnRl w.heap.size w' v1 v2 ⟨vs, ofL rs⟩ ∧ Below w.heap.size w w' := by
  obtain ⟨i0, hi, hz0, hz1, hz2⟩ := info_parts info_rowU
  have HC1 := Lib.hid (ofClone hR hrl)
  have HV := Lib.hid hV
  have HW := Lib.hid hw
  have hC4 : ∀ W, Below w.heap.size w W → Calls Try.prog 12 #[vv] W fun e w' => ∃ v', e = .returned v' ∧ w'.ownsRow W.heap.size 3 1 v' vs.length (vs.map (.int .i64)) ∧ Below W.heap.size W w' := fun W hb => cloneI_any vv vs W (hV.later hb) (by omega)
  have HC4 := Lib.hid hC4
  obtain ⟨av, cv, rfl, -⟩ := hV.open
  obtain ⟨ar, cr, rfl, -⟩ := hR.open
  clear hV hR hw hC4
  go_enter Try.func40, Try.ntmps40
  go_wp2_with fail
  obtain ⟨W1, hW1⟩ : ∃ W, W = w.alloc (.cells #[.slice none 0 0, .slice none 0 0] 25) := ⟨_, rfl⟩
  have s1 : W1.heap.size = w.heap.size + 1 := by rw [hW1, World.size_alloc]
  have b1 : Below w.heap.size w W1 := by rw [hW1]; exact later_alloc _ _
  have bX1 : RB W1 w.heap.size (.slice none 0 0) (.slice none 0 0) := by rw [hW1]; exact box_new _ _ _
  rw [← hW1]
  clear hW1
  refine (HC1.out W1 b1).mono ?_
  rintro e W2 ⟨v2, vs2, rfl, hO2, b2⟩
  rw [s1] at hO2
  have H2 := Lib.hid (And.intro hO2 (And.intro (kept b2 bX1) (later_trans b1 b2)))
  have s2 : w.heap.size + 1 ≤ W2.heap.size := by rw [← s1]; exact b2.size
  clear hO2 bX1 b1 b2 s1 W1
  go_wp2_with fail
  obtain ⟨W3, hW3⟩ : ∃ W, W = W2.alloc (.cells #[cmpV vs.length] 81) := ⟨_, rfl⟩
  have b3 : Below W2.heap.size W2 W3 := by rw [hW3]; exact later_alloc _ _
  have s3 : W3.heap.size = W2.heap.size + 1 := by rw [hW3, World.size_alloc]
  have hB3 : CB W3 W2.heap.size vs.length := by rw [hW3]; exact box_new _ _ _
  change Calls _ _ _ (W2.alloc (.cells #[cmpV vs.length] 81)) _
  rw [← hW3]
  clear hW3
  obtain ⟨hO2, hX2, hb2⟩ := H2.out
  have hO3 : OldRows w (w.heap.size + 1) W3 v2 vs2 rs := ⟨owns_later hO2.own b3, hO2.len, hO2.rows⟩
  refine (sortU_any vs.length hO3 (later_trans hb2 b3) (by omega) (by omega) HW.out (by omega)).mono ?_
  rintro e W4 ⟨rfl, vs4, ls4, hO4, hm4, hs4, hl4, hb4, hg4⟩
  obtain ⟨hP4, hps4⟩ := hO4.toP
  obtain ⟨ps, hpe⟩ : ∃ ps, ps = vs4.zip ls4 := ⟨_, rfl⟩
  rw [← hpe] at hP4 hps4
  have hB4 : CB W4 W2.heap.size vs.length := box_grown hO3.own hg4 hB3 (by decide)
  have hX4 : RB W4 w.heap.size (.slice none 0 0) (.slice none 0 0) := by
    unfold RB
    rw [hb4.block _ (by omega)]
    exact kept b3 hX2
  have hb4' : Below w.heap.size w W4 := (later_trans hb2 b3).trans (hb4.mono (by omega))
  have hw4 : Wd vs.length (ps.map Prod.snd) := by rw [hps4]; exact fun x hx => HW.out x ((hm4 x).1 hx)
  have hpl : ps.length ≤ 1048576 := by
    have := congrArg List.length hps4
    rw [List.length_map] at this
    omega
  have s4 := hb4.size
  have hC3 := ofComp hb4' (Nat.le_succ _) (by omega) hP4 hw4 hpl hB4
  have hon : (onceP ps ps.length).map Prod.snd = ofL rs := by
    rw [once_ofL hw4 (by rw [hps4]; exact hs4)]
    refine ofL_is HW.out (ofL_rise hw4) fun x => ?_
    rw [ofL_mem hw4, hps4, hm4]
  have hol : (onceP ps ps.length).length ≤ 1048576 := Nat.le_trans (onceP_len ps _) hpl
  obtain ⟨qs, hqs⟩ : ∃ qs, qs = onceP ps ps.length := ⟨_, rfl⟩
  rw [← hqs] at hC3 hon hol
  have c4 : W4.cell? ⟨W2.heap.size, 0, none⟩ = some (cmpV vs.length) := by simpa using box_cell (i := 0) hB4
  have HC3 := Lib.hid hC3
  have H4 := Lib.hid (And.intro hX4 (And.intro hb4' (And.intro hon (show w.heap.size + 1 ≤ W4.heap.size by omega))))
  clear hC3 hX4 hb4' hon hqs hpl hw4 hB4 hps4 hpe hP4 hO4 hm4 hs4 hl4 hb4 hg4 hO3 hO2 hX2 hb2 b3 s3 hB3 s2 H2 s4 HC1
  go_wp2_with fail
  refine HC3.out.mono ?_
  rintro e W5 ⟨v5, rfl, hP5, b5⟩
  obtain ⟨hX4, hb4, hon, hz4⟩ := H4.out
  obtain ⟨a5, c5, rfl⟩ := owns_shape2 hP5.own
  have hX5 : RB W5 w.heap.size (.slice none 0 0) (.slice none 0 0) := by
    unfold RB
    rw [b5.block _ (by omega)]
    exact hX4
  have hb5 : Below w.heap.size w W5 := hb4.trans (b5.mono (by omega))
  have s5 : w.heap.size < W5.heap.size := lt_of_block hX5
  have hnl : ¬ (1048576 : Int) < (qs.length : Int) := by omega
  have HC4' := Lib.hid (HC4.out W5 hb5)
  have H5 := Lib.hid (And.intro hX5 (And.intro hb5 (And.intro hP5 hon)))
  clear hX4 hb4 hon hz4 hX5 hb5 hP5 b5 H4 HC3 c4 HC4
  go_wp2_with fail
  refine HC4'.out.mono ?_
  rintro e W6 ⟨v6, rfl, hO6, b6⟩
  obtain ⟨hX5, hb5, hP5, hon⟩ := H5.out
  obtain ⟨a6, c6, rfl⟩ := owns_shape2 hO6
  have s6 := b6.size
  have hb6 : Below w.heap.size w W6 := later_trans hb5 b6
  have hwr : ∀ i, i < qs.length → (rowN (qs.map Prod.snd) i).length = vs.length := fun i hi => by
    have := ofL_wd HW.out
    rw [← hon] at this
    exact this _ (rowN_mem (by rw [List.length_map]; exact hi))
  have HWR := Lib.hid hwr
  have hP6 := hP5.later b6
  have H6 := Lib.hid (And.intro (kept b6 hX5) (And.intro hb6 (And.intro hP6 (And.intro hon hO6))))
  have hst : OfW W6 (.slice a6 vs.length c6) [] (W6.alloc (.cells #[.slice a6 vs.length c6, .slice none 0 0] 25)) :=
    ⟨later_alloc _ _, _, [], box_new _ _ _, ⟨World.ownsRow_nil _ _ _ _, fun p hp => by cases hp⟩, rfl⟩
  have HST := Lib.hid hst
  clear hst hwr hX5 hb5 hP5 hon hO6 hP6 hb6 b6 H5 HC4'
  go_wp2_with fail
  go_loopw [31] (fun k wr => ∃ i : Nat, i ≤ qs.length ∧ k = .int .i64 i ∧ OfW W6 (.slice a6 vs.length c6) ((qs.map Prod.snd).take i) wr) (fun k _ => qs.length - (intOf k).toNat)
  case atStart => exact ⟨0, Nat.zero_le _, rfl, by simpa using HST.out⟩
  case round =>
    obtain ⟨i, hi', rfl, hO⟩ := hrel
    obtain ⟨v, ps, hX, hown, hps⟩ := hO.out
    obtain ⟨av7, cv7, rfl⟩ := owns_shape2 hown.own
    have hpl : ps.length ≤ 1048576 := by
      have := congrArg List.length hps
      rw [List.length_map, List.length_take] at this
      omega
    have hbr : Below w.heap.size w wr := later_trans H6.out.2.1 hO.bel
    by_cases hlt : i < qs.length
    · have hRr : SlRK .u64 wr (.slice a5 qs.length c5) (qs.map Prod.snd) := (H6.out.2.2.1.later hO.bel).slR hbr
      obtain ⟨_, _, e1, _, _, _, f4⟩ := hRr.open
      obtain ⟨b, o, e2, hb, fc⟩ := f4 (by rw [List.length_map]; omega)
      injection e1 with e1a e1b e1c
      subst e1a
      subst e2
      obtain ⟨rv, cr', hrv⟩ := fc i (by rw [List.length_map]; exact hlt)
      change SlI .u64 wr rv (rowN (qs.map Prod.snd) i) at hrv
      obtain ⟨xs, hxs⟩ : ∃ xs, rowN (qs.map Prod.snd) i = xs := ⟨_, rfl⟩
      have hxl : xs.length = vs.length := by rw [← hxs]; exact HWR.out i hlt
      rw [hxs] at hrv
      have hC2 : ∀ W, Below wr.heap.size wr W → Calls Try.prog 35 #[rv] W fun e w' => ∃ v', e = .returned v' ∧ w'.ownsRow wr.heap.size 38 1 v' vs.length (xs.map (Value.int .u64)) ∧ Below W.heap.size W w' := fun W hb =>
        (clone_any _ xs W (SlI.later hrv hb) (by omega)).mono (by rintro e w' ⟨v', rfl, ho, hb'⟩; rw [hxl] at ho; exact ⟨v', rfl, owns_down ho hb.size, hb'⟩)
      have HC2 := Lib.hid hC2
      obtain ⟨ax, cx, rfl, -⟩ := hrv.open
      have HO2 := Lib.hid (And.intro hO (And.intro hX (And.intro hown hps)))
      have HRW := Lib.hid (And.intro hxs (And.intro hxl hrv.2))
      have hzO := hO.bel.size
      obtain ⟨z0, z1, lZ⟩ := two_of2 hX
      have fZ := box_frozen (i := 1) hX
      clear hO hown hps hX fc f4 hrv hC2 hxs hxl e1b e1c hRr hbr
      go_wp2_with fail
      go_region_law (first
        | (refine step_append_lies _ rfl (.tmp 36) (.tmp 39) 23 rfl (W6.heap.size + 1) 26 i0 _ 1 24 Try.underlying23 hi hz0 hz1 hz2 rfl (by decide) (.slice av7 ps.length cv7) ps.length _ rfl HR3.out ⟨wC.heap.size, 0, none⟩ 1 1 [.slice avc vs.length cvc] rfl rfl (cells_new _ _ _) (by simp [Value.oneCell']) (by omega) (by unfold maxLen; omega) (by omega) (by simp; omega) _ rfl ?_; intro g6 cap6 w6 hown6 hgrow6 hat6 hlt6; have mX := box_grown HR3.out hgrow6 (kept (later_trans hbC (later_alloc wC (.cells #[.slice avc vs.length cvc] 26))) HO2.out.2.1) (by decide); obtain ⟨y0, y1, lY⟩ := two_of2 mX; have fY := box_frozen (i := 1) mX)
        | (go_simp; refine (HC2.out _ (later_drew _)).mono ?_; rintro e wC ⟨vc, rfl, hoC, hbC1⟩; obtain ⟨avc, cvc, rfl⟩ := owns_shape2 hoC; have hbC : Below wr.heap.size wr wC := later_trans (later_drew _) hbC1; have mX0 := kept hbC HO2.out.2.1; obtain ⟨x0, x1, lX⟩ := two_of2 mX0; have fX := box_frozen (i := 1) mX0; have HR3 := Lib.hid (owns_later HO2.out.2.2.1.own (later_trans hbC (later_alloc wC (.cells #[.slice avc vs.length cvc] 26)))); have hzw := hbC.size))
      all_goals go_wp2
      all_goals go_roundw
      all_goals first
        | (simp [intOf]; omega)
        | (refine ⟨i + 1, by omega, by go_num, ?_⟩
           have hn := OfW.next HO2.out.1 HO2.out.2.1 HO2.out.2.2.1 HO2.out.2.2.2 hbC hoC HRW.out.2.1 HRW.out.2.2 hown6 hgrow6
           rw [← HRW.out.1, rowN_at (show i < (qs.map Prod.snd).length by rw [List.length_map]; omega)] at hn
           rw [List.take_add_one, List.getElem?_eq_getElem (show i < (qs.map Prod.snd).length by rw [List.length_map]; omega)]
           exact hn)
    · obtain rfl : i = qs.length := by omega
      have hXr : RB wr w.heap.size (.slice none 0 0) (.slice none 0 0) := kept hO.bel H6.out.1
      have hsz := hO.bel.size
      have hps' : ps.map Prod.snd = ofL rs := by
        rw [hps, List.take_of_length_le (by rw [List.length_map]; exact Nat.le_refl _), H6.out.2.2.2.1]
      obtain ⟨y0, y1, lY⟩ := two_of2 hX
      obtain ⟨x0, x1, lX⟩ := two_of2 hXr
      have fX0 := box_frozen (i := 0) hXr
      have fX1 := box_frozen (i := 1) hXr
      have hb3 := box_set (i := 1) (box_set (i := 0) hXr (.slice a6 vs.length c6)) (.slice av7 ps.length cv7)
      have hoV := owns_later H6.out.2.2.2.2 hO.bel
      have hV' := owns_down (own_set (own_set hoV hXr (by decide) (i := 0) (.slice a6 vs.length c6)) (box_set hXr _) (by decide) (i := 1) (.slice av7 ps.length cv7)) (show w.heap.size ≤ W5.heap.size by omega)
      have hRW : OwnRK .u64 38 26 w.heap.size ((wr.setCell ⟨w.heap.size, 0, none⟩ (.slice a6 vs.length c6)).setCell ⟨w.heap.size, 1, none⟩ (.slice av7 ps.length cv7)) (.slice av7 ps.length cv7) ps :=
        ⟨owns_down (own_set (own_set hown.own hXr (by decide) (i := 0) (.slice a6 vs.length c6)) (box_set hXr _) (by decide) (i := 1) (.slice av7 ps.length cv7)) (by omega), fun p hp =>
          ⟨owns_down (own_set (own_set (hown.rows p hp).1 hXr (by decide) (i := 0) (.slice a6 vs.length c6)) (box_set hXr _) (by decide) (i := 1) (.slice av7 ps.length cv7)) (by omega), (hown.rows p hp).2⟩⟩
      have hB' := below_set (i := 1) (u := .slice av7 ps.length cv7) (below_set (i := 0) (u := .slice a6 vs.length c6) hbr (Nat.le_refl _)) (Nat.le_refl _)
      have HD := Lib.hid (And.intro hb3 (And.intro hV' (And.intro hRW hB')))
      clear hb3 hV' hRW hB' hO hown hps hX hXr hoV hbr
      go_wp2_with fail
      obtain ⟨hb3, hV', hRW, hB'⟩ := HD.out
      have d0 := box_cell (i := 0) hb3
      have d1 := box_cell (i := 1) hb3
      simp at d0 d1
      refine bodyPost_ret (v := .tuple #[relV (.slice a6 vs.length c6) (.slice av7 ps.length cv7), .int .i64 0]) (by simp [results, Try.results40, go_sem, d0, d1]) rfl ?_
      exact ⟨_, _, rfl, ⟨hV', HV.out.2, ps, hRW, hps'⟩, hB'⟩
end Go.Proofs.Ytdeiinfljfgmeaa
