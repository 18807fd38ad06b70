/-
  The law PlanBounds, walked.
-/
import Derived.Test.YtdmfhlfhlflakaaDoorRb5
import Derived.Test.YtdmfhlfhlflakaaDoorPlOrdC
import Derived.Test.YtdmfhlfhlflakaaDoorPlCovs
import Derived.Test.YtdmfhlfhlflakaaDoorPlWakes
namespace Go.Proofs.YtdmfhlfhlflakaaDoor
open Go.RowKit Go.Shelf
set_option linter.unusedVariables false
set_option linter.unusedSimpArgs false

/-- What stands while the law goes on. -/
structure BdW (w : World) (m : Int) (ev sv ev2 sv2 : Value) (S2 : Shp) (Y : Nat) (W : World) : Prop where
  bel : Below w.heap.size w W
  b2 : SB W w.heap.size m ev sv
  b5 : SB W Y m ev2 sv2
  own : ShR W ev2 sv2 S2
  far : w.heap.size < Y ∧ Y < W.heap.size
theorem BdW.later {w W W' : World} {m : Int} {ev sv ev2 sv2 : Value} {S2 : Shp} {Y : Nat} (h : BdW w m ev sv ev2 sv2 S2 Y W) (hb : Below W.heap.size W W') : BdW w m ev sv ev2 sv2 S2 Y W' :=
  ⟨later_trans h.bel hb, kept hb h.b2, kept hb h.b5, h.own.later hb, h.far.1, Nat.lt_of_lt_of_le h.far.2 hb.size⟩
/-- The bound and the limit, as plan tells them and as the document does. -/
theorem bound_cases (S : Shp) (c : Cov) : ∃ (bh bl lh ll : Nat) (e f : Int), boundV S c = .tuple #[.agg #[.int .u64 (bh : Int), .int .u64 (bl : Int)], .int .i64 e] ∧ limitV S c = .tuple #[.agg #[.int .u64 (lh : Int), .int .u64 (ll : Int)], .int .i64 f] ∧
    ((shpB S = false ∧ e = 320 ∧ f = 320 ∧ bh = 0 ∧ bl = 0 ∧ lh = 0 ∧ ll = 0) ∨ (shpB S = true ∧ coversB S c = false ∧ e = 321 ∧ f = 321 ∧ bh = 0 ∧ bl = 0 ∧ lh = 0 ∧ ll = 0) ∨
     (shpB S = true ∧ coversB S c = true ∧ e = 110 ∧ f = 110 ∧ bh = 0 ∧ bl = 0 ∧ lh = 0 ∧ ll = 0 ∧ refBV S c = .tuple #[.agg #[.int .u64 0, .int .u64 0], .bool false]) ∨
     (shpB S = true ∧ coversB S c = true ∧ e = 0 ∧ f = 0 ∧ refBV S c = .tuple #[.agg #[.int .u64 (bh : Int), .int .u64 (bl : Int)], .bool true] ∧ refLV S c = .tuple #[.agg #[.int .u64 (lh : Int), .int .u64 (ll : Int)], .bool true]) ∨
     (shpB S = true ∧ coversB S c = true ∧ e = 0 ∧ f = 110 ∧ lh = 0 ∧ ll = 0 ∧ refBV S c = .tuple #[.agg #[.int .u64 (bh : Int), .int .u64 (bl : Int)], .bool true] ∧ refLV S c = .tuple #[.agg #[.int .u64 0, .int .u64 0], .bool false])) := by
  by_cases h1 : shpB S = true
  · by_cases h2 : coversB S c = true
    · by_cases h3 : needN S c < 340282366920938463463374607431768211456
      · have hE : boundE S c = 0 := by unfold boundE; rw [if_pos h1, if_pos h2, if_pos h3]
        obtain ⟨b1, b2, b3⟩ := boundN_lt hE
        obtain ⟨bh, bl, hbw, -⟩ := wv_open (boundN S c) b2
        have hB : boundV S c = .tuple #[.agg #[.int .u64 (bh : Int), .int .u64 (bl : Int)], .int .i64 0] := by unfold boundV; rw [hE, hbw]
        have hRB : refBV S c = .tuple #[.agg #[.int .u64 (bh : Int), .int .u64 (bl : Int)], .bool true] := by unfold refBV; rw [if_pos h3, ← b3, hbw]
        have hLN : prodTo (limL S c) 5 = refLN S c := by
          unfold limL refLN fourL
          rw [← b3]
          obtain ⟨x1, -⟩ : ∃ a, (max S.many 1).toNat = a := ⟨_, rfl⟩
          show 1 * 16 * _ * _ * _ * boundN S c = boundN S c * (1 * 16 * _ * _ * _)
          rw [Nat.mul_comm]
        have hL : limitV S c = wres (refLN S c) := by unfold limitV; rw [if_pos hE, hLN]
        have hRL : refLV S c = numV (refLN S c) := by unfold refLV; rw [if_pos h3]
        by_cases h4 : refLN S c < 340282366920938463463374607431768211456
        · obtain ⟨lh, ll, hlw, -⟩ := wv_open (refLN S c) h4
          refine ⟨bh, bl, lh, ll, 0, 0, hB, by rw [hL]; unfold wres; rw [if_pos h4, hlw], .inr (.inr (.inr (.inl ⟨h1, h2, rfl, rfl, hRB, ?_⟩)))⟩
          rw [hRL]; unfold numV; rw [if_pos h4, hlw]
        · refine ⟨bh, bl, 0, 0, 0, 110, hB, by rw [hL]; unfold wres; rw [if_neg h4]; rfl, .inr (.inr (.inr (.inr ⟨h1, h2, rfl, rfl, rfl, rfl, hRB, ?_⟩)))⟩
          rw [hRL]; unfold numV; rw [if_neg h4]
      · have hE : boundE S c = 110 := by unfold boundE; rw [if_pos h1, if_pos h2, if_neg h3]
        refine ⟨0, 0, 0, 0, 110, 110, ?_, ?_, .inr (.inr (.inl ⟨h1, h2, rfl, rfl, rfl, rfl, rfl, rfl, ?_⟩))⟩
        · unfold boundV boundN; rw [hE, if_neg (by decide)]; rfl
        · unfold limitV; rw [hE, if_neg (by decide)]; rfl
        · unfold refBV; rw [if_neg h3]
    · have hE : boundE S c = 321 := by unfold boundE; rw [if_pos h1, if_neg h2]
      refine ⟨0, 0, 0, 0, 321, 321, ?_, ?_, .inr (.inl ⟨h1, Bool.eq_false_iff.2 h2, rfl, rfl, rfl, rfl, rfl, rfl⟩)⟩
      · unfold boundV boundN; rw [hE, if_neg (by decide)]; rfl
      · unfold limitV; rw [hE, if_neg (by decide)]; rfl
  · have hE : boundE S c = 320 := by unfold boundE; rw [if_neg h1]
    refine ⟨0, 0, 0, 0, 320, 320, ?_, ?_, .inl ⟨Bool.eq_false_iff.2 h1, rfl, rfl, rfl, rfl, rfl, rfl⟩⟩
    · unfold boundV boundN; rw [hE, if_neg (by decide)]; rfl
    · unfold limitV; rw [hE, if_neg (by decide)]; rfl

theorem neq_wideB (h l h' l' : Int) (w : World) : (binOp .neq 35 (.agg #[.int .u64 h, .int .u64 l]) (.agg #[.int .u64 h', .int .u64 l'])).run Tryd.prog w = .ok (.bool (!(decide (h = h') && decide (l = l')))) w := by
  have u := Tryd.underlying33
  have hS : Tryd.prog.underlying 35 = some (.struct (Tryd.prog.fieldsOf 35)) := by kernel_rfl
  have hp : Tryd.prog.stoodInHeld 35 = false := by kernel_rfl
  rw [run_neq_struct, show (10000 : Nat) = 9999 + 1 from rfl, run_equalIn_agg w 9999 35 _ _ hS hp]
  simp only [Program.fieldsOf, Tryd.underlying35]
  go_simp
  by_cases ha : h = h' <;> by_cases hb : l = l' <;> simp [ha, hb]
theorem guardn_wideB (x y : Operand) (xs ys : Array Value) (w : World) : (eqGuard .neq 35 x y (.agg xs) (.agg ys)).run Tryd.prog w = .ok () w := run_eqGuard_agg w .neq 35 x y xs ys (by kernel_rfl)
/-- The four boxes. -/
structure FxW (w0 : World) (X10 X12 X14 X15 : Nat) (p q r s : Array Value) (W : World) : Prop where
  bel : Below w0.heap.size w0 W
  x10 : W.heap[X10]? = some (.cells p 35 (0, 0))
  x12 : W.heap[X12]? = some (.cells q 35 (0, 0))
  x14 : W.heap[X14]? = some (.cells r 35 (0, 0))
  x15 : W.heap[X15]? = some (.cells s 35 (0, 0))
  far : w0.heap.size ≤ X10 ∧ X10 < X12 ∧ X12 < X14 ∧ X14 < X15
theorem FxW.later {w0 W W' : World} {X10 X12 X14 X15 : Nat} {p q r s : Array Value} (h : FxW w0 X10 X12 X14 X15 p q r s W) (hb : Below W.heap.size W W') : FxW w0 X10 X12 X14 X15 p q r s W' :=
  ⟨later_trans h.bel hb, kept hb h.x10, kept hb h.x12, kept hb h.x14, kept hb h.x15, h.far⟩
theorem FxW.set14 {w0 W : World} {X10 X12 X14 X15 : Nat} {p q s : Array Value} {a b : Value} (h : FxW w0 X10 X12 X14 X15 p q #[a, b] s W) (u v : Value) : FxW w0 X10 X12 X14 X15 p q #[u, v] s ((W.setCell ⟨X14, 0, none⟩ u).setCell ⟨X14, 1, none⟩ v) := by
  have hf := h.far
  refine ⟨below_set (below_set h.bel (by omega)) (by omega), box_other (box_other h.x10 (by omega) _) (by omega) _, box_other (box_other h.x12 (by omega) _) (by omega) _, ?_, box_other (box_other h.x15 (by omega) _) (by omega) _, hf⟩
  have := box_set (i := 1) (box_set (i := 0) h.x14 u) v
  simpa using this
theorem FxW.set15 {w0 W : World} {X10 X12 X14 X15 : Nat} {p q r : Array Value} {a b : Value} (h : FxW w0 X10 X12 X14 X15 p q r #[a, b] W) (u v : Value) : FxW w0 X10 X12 X14 X15 p q r #[u, v] ((W.setCell ⟨X15, 0, none⟩ u).setCell ⟨X15, 1, none⟩ v) := by
  have hf := h.far
  refine ⟨below_set (below_set h.bel (by omega)) (by omega), box_other (box_other h.x10 (by omega) _) (by omega) _, box_other (box_other h.x12 (by omega) _) (by omega) _, box_other (box_other h.x14 (by omega) _) (by omega) _, ?_, hf⟩
  have := box_set (i := 1) (box_set (i := 0) h.x15 u) v
  simpa using this

set_option maxRecDepth 100000 in
set_option maxHeartbeats 8000000 in
theorem planBounds_any (S : Shp) (cs : List Cov) (ev sv cv : Value) (w : World) (h : ShR w ev sv S) (hc : SlCv w cv cs) (hO : One w) :
    Calls Tryd.prog 5 #[shpV S.many ev sv, cv] w fun e w' => e = .returned (.bool true) ∧ Below w.heap.size w w' := by
  obtain ⟨S2, hS2⟩ : ∃ S2, S2 = ownS S := ⟨_, rfl⟩
  have hm2 : S2.many = S.many := by rw [hS2]; rfl
  obtain ⟨m, ls, zs⟩ := S
  simp only at hm2 ⊢
  have H := Lib.hid (And.intro h (And.intro hc hO))
  have HM := Lib.hid (And.intro hm2 hS2)
  obtain ⟨ae, ce, rfl, -⟩ := h.edges.open
  obtain ⟨az, cz, rfl, -⟩ := h.sizes.open
  obtain ⟨ac, cc, rfl, hcl, -⟩ := id hc
  simp only at H ⊢
  clear h hc hO hm2 hS2
  go_enter Tryd.func5, Tryd.ntmps5
  have H0 := Lib.hid (And.intro (box_new w #[.int .i64 m, .slice ae ls.length ce, .slice az zs.length cz] 27) (later_alloc w (.cells #[.int .i64 m, .slice ae ls.length ce, .slice az zs.length cz] 27)))
  go_wp2_with fail
  refine (wakes_any _ (H.out.2.2.later H0.out.2)).mono ?_
  rintro e w1 ⟨rfl, hb1⟩
  have H1 := Lib.hid (And.intro (kept hb1 H0.out.1) (later_trans H0.out.2 hb1))
  obtain ⟨c0, c1, c2, f0, f1, f2, lN⟩ := three_of H1.out.1
  clear hb1
  go_wp2_with fail
  refine (own_any ⟨m, ls, zs⟩ _ _ _ (H.out.1.later H1.out.2)).mono ?_
  rintro e w2 ⟨ev2, sv2, rfl, hS2, hb2⟩
  rw [← HM.out.2] at hS2
  have hb2' := later_trans hb2 (later_alloc w2 (.cells #[.int .i64 m, ev2, sv2] 27))
  have hW2 : BdW w m (.slice ae ls.length ce) (.slice az zs.length cz) ev2 sv2 S2 w2.heap.size (w2.alloc (.cells #[.int .i64 m, ev2, sv2] 27)) :=
    ⟨later_trans H1.out.2 hb2', kept hb2' H1.out.1, box_new w2 _ _, (hS2.later (later_alloc w2 (.cells #[.int .i64 m, ev2, sv2] 27))).shR, Nat.lt_of_lt_of_le (lt_of_block H1.out.1) hb2.size, by simp⟩
  obtain ⟨p1, q1, rfl, -⟩ := hS2.shR.edges.open
  obtain ⟨p2, q2, rfl, -⟩ := hS2.shR.sizes.open
  clear hb2 hb2' hS2 c0 c1 c2 f0 f1 f2
  go_upto_region 4 with fail
  obtain ⟨W2, hw2⟩ : ∃ W, w2.alloc (.cells #[.int .i64 m, .slice p1 S2.edges.length q1, .slice p2 S2.sizes.length q2] 27) = W := ⟨_, rfl⟩
  rw [hw2] at hW2
  try rw [hw2]
  obtain ⟨Y, hY⟩ : ∃ Y, w2.heap.size = Y := ⟨_, rfl⟩
  rw [hY] at hW2 ⊢
  obtain ⟨c0, c1, c2, -, -, -, lY⟩ := three_of hW2.b5
  have hR := Right22_any S2 _ _ W2 hW2.own
  rw [HM.out.1] at hR
  obtain ⟨ok, hok⟩ : ∃ ok, shpB S2 = ok := ⟨_, rfl⟩
  rw [hok] at hR
  have HR := Lib.hid hR
  have HW2 := Lib.hid (And.intro hW2 hok)
  clear hR hW2 hok hw2 hY
  go_wp2_with fail
  refine HR.out.mono ?_
  rintro e w4 ⟨rfl, hb4⟩
  have H4 := Lib.hid (HW2.out.1.later hb4)
  clear hb4 c0 c1 c2
  go_wp2_with fail
  go_loopw [27] (fun i wr => ∃ k : Nat, k ≤ cs.length ∧ i = .int .i64 k ∧ Below w4.heap.size w4 wr) (fun i _ => cs.length - (intOf i).toNat)
  case atStart => exact ⟨0, Nat.zero_le _, rfl, later_refl _⟩
  case round =>
    obtain ⟨k, hk, rfl, hb⟩ := hrel
    have hW := H4.out.later hb
    by_cases hlt : k < cs.length
    · obtain ⟨_, _, e1, _, g4⟩ := H.out.2.1.later hW.bel
      obtain ⟨bc, oc, e2, gc⟩ := g4 (by omega)
      obtain ⟨wv, cv0, cv1, hws⟩ := gc k hlt
      injection e1 with e1a e1b e1c
      subst e1a e1c
      subst e2
      obtain ⟨c, hcn⟩ : ∃ c, covN cs k = c := ⟨_, rfl⟩
      rw [hcn] at cv1 hws
      obtain ⟨ws, o⟩ := c
      simp only at cv1 hws
      obtain ⟨aw, cw, rfl, g1, g2, -⟩ := hws.open
      have HK := Lib.hid (And.intro hW (And.intro hws (And.intro hb hlt)))
      clear hW hws hb gc g4 e1b hcn
      by_cases hk4 : k = 4
      · -- [P
        have hk4b : ((k : Int) == 4) = true := by rw [hk4]; rfl
        clear hk4
        go_upto_region 29 with fail
        obtain ⟨W3, hw3⟩ : ∃ W, wr.alloc (.cells #[.slice aw ws.length cw, .int .i64 o] 29) = W := ⟨_, rfl⟩
        have HTL := Lib.hid (HK.out.1.later (show Below wr.heap.size wr W3 by rw [← hw3]; exact later_alloc _ _))
        try rw [hw3]
        clear hw3 cv0 cv1
        obtain ⟨c0, c1, c2, -, -, -, lY⟩ := three_of HTL.out.b5
        obtain ⟨d0, d1, d2, -, -, -, lX⟩ := three_of HTL.out.b2
        have hOwn : ∀ W, Below W3.heap.size W3 W → Calls Tryd.prog 10 #[shpV m (.slice ae ls.length ce) (.slice az zs.length cz)] W fun e w' => ∃ ev' sv', e = .returned (shpV m ev' sv') ∧ ShR w' ev' sv' S2 ∧ Below W.heap.size W w' := fun W hb1 =>
          (own_any ⟨m, ls, zs⟩ _ _ W (H.out.1.later (later_trans HTL.out.bel hb1))).mono (by rintro e w' ⟨ev', sv', rfl, hS', hb'⟩; rw [← HM.out.2] at hS'; exact ⟨ev', sv', rfl, hS'.shR, hb'⟩)
        have hSame : ∀ W ev' sv', Below W3.heap.size W3 W → ShR W ev' sv' S2 → Calls Tryd.prog 27 #[shpV m (.slice p1 S2.edges.length q1) (.slice p2 S2.sizes.length q2), shpV m ev' sv'] W fun e w' => e = .returned (.bool true) ∧ Below W.heap.size W w' := fun W ev' sv' hb1 hS' => by
          have := same_any S2 _ _ ev' sv' W (HTL.out.own.later hb1) hS'
          rw [HM.out.1] at this
          exact this
        have HOS := Lib.hid (And.intro hOwn (And.intro hSame HTL.out.bel))
        have HKeep : Hid (∀ W, Below W3.heap.size W3 W → (W.cell? ⟨Y, 0, none⟩ = some (.int .i64 m) ∧ W.cell? ⟨Y, 1, none⟩ = some (.slice p1 S2.edges.length q1) ∧ W.cell? ⟨Y, 2, none⟩ = some (.slice p2 S2.sizes.length q2)) ∧ W.cell? ⟨w.heap.size, 0, none⟩ = some (.int .i64 m) ∧ W.cell? ⟨w.heap.size, 1, none⟩ = some (.slice ae ls.length ce) ∧ W.cell? ⟨w.heap.size, 2, none⟩ = some (.slice az zs.length cz)) := Lib.hid (fun W hb => ⟨⟨cell_next hb c0, cell_next hb c1, cell_next hb c2⟩, cell_next hb d0, cell_next hb d1, cell_next hb d2⟩)
        clear hOwn hSame
        go_cut [4] (fun s4 wx => s4 = .bool true ∧ Below W3.heap.size W3 wx)
        case first =>
          go_region_held3 (fun W => (W.cell? ⟨Y, 0, none⟩ = some (.int .i64 m) ∧ W.cell? ⟨Y, 1, none⟩ = some (.slice p1 S2.edges.length q1) ∧ W.cell? ⟨Y, 2, none⟩ = some (.slice p2 S2.sizes.length q2)) ∧ W.cell? ⟨w.heap.size, 0, none⟩ = some (.int .i64 m) ∧ W.cell? ⟨w.heap.size, 1, none⟩ = some (.slice ae ls.length ce) ∧ W.cell? ⟨w.heap.size, 2, none⟩ = some (.slice az zs.length cz))
            (first | exact HKeep.out _ (later_refl _) | exact HKeep.out _ (later_drew _) | exact HKeep.out _ hbQ | exact HKeep.out _ hbP | assumption)
            (first
              | (go_at_call 27; have hq := hbP; refine (HOS.out.2.1 _ _ _ hbP hS3).mono ?_; rintro e wQ ⟨rfl, hQ1⟩; have hbQ : Below W3.heap.size W3 wQ := (later_trans hbP hQ1))
              | (go_at_call 10; refine (HOS.out.1 _ (later_drew _)).mono ?_; rintro e wP ⟨ev3, sv3, rfl, hS3, hP1⟩; have hbP : Below W3.heap.size W3 wP := (later_trans (later_drew _) hP1)))
          all_goals (go_wp2_with fail)
          all_goals go_meet
          all_goals exact ⟨rfl, hbQ⟩
        case rest =>
          obtain ⟨rfl, hbx⟩ := hcut
          have HE := Lib.hid (later_trans HOS.out.2.2 hbx)
          clear hbx
          go_wp2_with fail
          go_ret
          exact ⟨rfl, HE.out⟩
        -- P]
      · have hk4b : ((k : Int) == 4) = false := by rw [beq_eq_false_iff_ne]; omega
        obtain ⟨mw, hmw⟩ : ∃ x, min ws.length 42 = x := ⟨_, rfl⟩
        have hmin : Value.int .i64 (if (42 : Int) < ws.length then (42 : Int) else (ws.length : Int)) = .int .i64 (mw : Int) := by rw [show (if (42 : Int) < ws.length then (42 : Int) else (ws.length : Int)) = (mw : Int) from by split <;> omega]
        have hmc : mw ≤ cw := by omega
        have hml : mw ≤ ws.length := by omega
        have hmw42 : mw ≤ 42 := by omega
        have hwsm : ws.length ≤ 9223372036854775807 := by omega
        have HLm := Lib.hid (show (ws.take mw).length = mw by rw [List.length_take]; omega)
        clear hmw
        go_upto_region 9 with fail
        obtain ⟨W3, hw3⟩ : ∃ W, wr.alloc (.cells #[.slice aw ws.length cw, .int .i64 o] 29) = W := ⟨_, rfl⟩
        have hx8 : CB W3 wr.heap.size (.slice aw ws.length cw) o := by rw [← hw3]; exact box_new wr _ _
        have hb3 : Below wr.heap.size wr W3 := by rw [← hw3]; exact later_alloc _ _
        have hs3 : wr.heap.size < W3.heap.size := lt_of_block hx8
        try rw [hw3]
        obtain ⟨X8, hX8⟩ : ∃ X, wr.heap.size = X := ⟨_, rfl⟩
        rw [hX8] at hx8
        try rw [hX8]
        obtain ⟨d0, d1, u0, u1, l8⟩ := two_of hx8
        have H3 := Lib.hid (And.intro hb3 (And.intro hx8 (And.intro hX8 hs3)))
        clear hw3 hx8 hb3 hX8 hs3 cv0 cv1
        go_cut [] (fun wx => ∃ v', CB wx X8 v' o ∧ SlI .i64 wx v' (ws.take mw) ∧ Below wr.heap.size wr wx)
        case first =>
          go_wp2_with fail
          refine (cloneI_any _ (ws.take mw) _ (SlI.cut2 (k := .i64) (SlI.later HK.out.2.1 H3.out.1) hml) (by simp; omega)).mono ?_
          rintro e w5 ⟨v5, rfl, ho5, hb5⟩
          obtain ⟨a5, q5, hv5⟩ := owns_shape2 ho5
          obtain ⟨d0, d1, u0, u1, l8⟩ := two_of (kept hb5 H3.out.2.1)
          have H5 := Lib.hid (And.intro ho5 hb5)
          rw [HLm.out] at hv5
          subst hv5
          clear ho5 hb5
          go_wp2_with fail
          go_meet
          refine ⟨.slice a5 mw q5, ?_, SlI.of_owns (owns_setB H5.out.1 (by have h1 := H3.out.2.2.1; have h2 := H3.out.2.2.2; omega) _) (fun x hx => HK.out.2.1.2 x (List.mem_of_mem_take hx)), below_set (later_trans H3.out.1 H5.out.2) (by have h1 := H3.out.2.2.1; omega)⟩
          have := box_set (i := 0) (kept H5.out.2 H3.out.2.1) (.slice a5 mw q5)
          simpa [CB] using this
        case rest =>
          obtain ⟨v5, hx8, hw5, hb5⟩ := hcut
          obtain ⟨c2', hc2⟩ : ∃ c2 : Cov, (⟨ws.take mw, o⟩ : Cov) = c2 := ⟨_, rfl⟩
          have hof : c2'.of = o := by rw [← hc2]
          have hws2 : SlI .i64 wc v5 c2'.ws := by rw [← hc2]; exact hw5
          have hln : c2'.ws.length = mw := by rw [← hc2]; exact HLm.out
          obtain ⟨a5, q5, rfl, -⟩ := hws2.open
          rw [hln] at hx8 hws2
          obtain ⟨bh, bl, lh, ll, e1, f1, hBv, hLv, hD⟩ := bound_cases S2 c2'
          have hW5 := HK.out.1.later hb5
          have hCv := fun W (hb : Below wc.heap.size wc W) => Covers_any S2 c2' _ _ _ W (hW5.later hb).own (SlI.later hws2 hb)
          have hBd := fun W (hb : Below wc.heap.size wc W) => Bound_any S2 c2' _ _ _ W (hW5.later hb).own (SlI.later hws2 hb) (H.out.2.2.later (hW5.later hb).bel)
          have hLm := fun W (hb : Below wc.heap.size wc W) => Limit_any S2 c2' _ _ _ W (hW5.later hb).own (SlI.later hws2 hb) (H.out.2.2.later (hW5.later hb).bel)
          have hRc := fun (g : shpB S2 = true) W (hb : Below wc.heap.size wc W) => Covers22_any S2 c2' _ _ _ W (hW5.later hb).own (SlI.later hws2 hb) g
          have hRb := fun (g : shpB S2 = true) (g2 : coversB S2 c2' = true) W (hb : Below wc.heap.size wc W) => Bound22_any S2 c2' _ _ _ W (hW5.later hb).own (SlI.later hws2 hb) g g2
          have hRl := fun (g : shpB S2 = true) (g2 : coversB S2 c2' = true) W (hb : Below wc.heap.size wc W) => Limit22_any S2 c2' _ _ _ W (hW5.later hb).own (SlI.later hws2 hb) g g2
          rw [HM.out.1, hof] at hCv hBd hLm hRc hRb hRl
          simp only [hBv] at hBd
          simp only [hLv] at hLm
          obtain ⟨iq, hiq⟩ : ∃ iq, (shpB S2 && coversB S2 c2') = iq := ⟨_, rfl⟩
          simp only [hiq] at hCv
          have H5 := Lib.hid (And.intro hW5 (And.intro hx8 (And.intro hb5 (And.intro hiq hD))))
          have HCv := Lib.hid (And.intro hCv (And.intro hBd hLm))
          have HRf := Lib.hid (And.intro hRc (And.intro hRb hRl))
          obtain ⟨c0, c1, c2, -, -, -, lY⟩ := three_of hW5.b5
          obtain ⟨d0, d1, u0, u1, l8⟩ := two_of hx8
          clear hx8 hw5 hb5 hc2 hof hws2 hln hBv hLv hD hW5 hCv hBd hLm hRc hRb hRl hiq hmin hmc hml hwsm
          go_upto_region 10 with fail
          go_cut [9] (fun s9 wx => s9 = .bool iq ∧ Below wc.heap.size wc wx)
          case first =>
            cases ok with
            | true =>
              have hsh := HW2.out.2
              obtain rfl : coversB S2 c2' = iq := by have h1 := H5.out.2.2.2.1; rw [hsh, Bool.true_and] at h1; exact h1
              have HC2 := Lib.hid (HRf.out.1 hsh wc (later_refl _))
              clear hsh
              obtain ⟨qq, hqq⟩ : ∃ qq, coversB S2 c2' = qq := ⟨_, rfl⟩
              have HQQ := Lib.hid hqq
              rw [hqq] at HC2
              clear hqq
              go_wp2_with fail
              refine HC2.out.mono ?_
              rintro e w6 ⟨rfl, hb6⟩
              have H6 := Lib.hid hb6
              clear hb6
              go_wp2_with fail
              go_meet
              exact ⟨by rw [HQQ.out], H6.out⟩
            | false =>
              obtain rfl : iq = false := by have h1 := H5.out.2.2.2.1; rw [HW2.out.2, Bool.false_and] at h1; exact h1.symm
              go_wp2_with fail
              go_meet
              exact ⟨rfl, later_refl _⟩
          case rest =>
            obtain ⟨rfl, hb6⟩ := hcut
            obtain ⟨WB, rfl⟩ : ∃ W : World, W = wc := ⟨wc, rfl⟩
            have H6 := Lib.hid (And.intro (H5.out.1.later hb6) (And.intro (kept hb6 H5.out.2.1) hb6))
            clear c0 c1 c2 lY d0 d1 u0 u1 l8 hb6
            obtain ⟨c0, c1, c2, -, -, -, lY⟩ := three_of H6.out.1.b5
            obtain ⟨d0, d1, u0, u1, l8⟩ := two_of H6.out.2.1
            go_wp2_with fail
            refine (HCv.out.2.1 _ H6.out.2.2).mono ?_
            rintro e w7 ⟨rfl, hb7⟩
            have hb7' := later_trans hb7 (later_alloc w7 (.cells #[.int .u64 (bh : Int), .int .u64 (bl : Int)] 35))
            have H7 := Lib.hid (And.intro (later_trans H6.out.2.2 hb7') (And.intro (box_new w7 #[.int .u64 (bh : Int), .int .u64 (bl : Int)] 35) (And.intro hb7' hb7.size)))
            clear c0 c1 c2 lY d0 d1 u0 u1 l8
            obtain ⟨c0, c1, c2, -, -, -, lY⟩ := three_of (H6.out.1.later hb7).b5
            obtain ⟨d0, d1, u0, u1, l8⟩ := two_of (kept hb7 H6.out.2.1)
            clear hb7 hb7'
            go_wp2_with fail
            refine (HCv.out.2.2 _ H7.out.1).mono ?_
            rintro e w8 ⟨rfl, hb8⟩
            have h8b := later_trans H7.out.2.2.1 hb8
            have hF : FxW WB w7.heap.size w8.heap.size (w8.heap.size + 1) (w8.heap.size + 1 + 1) #[.int .u64 (bh : Int), .int .u64 (bl : Int)] #[.int .u64 (lh : Int), .int .u64 (ll : Int)] #[.int .u64 0, .int .u64 0] #[.int .u64 0, .int .u64 0] (((w8.alloc (.cells #[.int .u64 (lh : Int), .int .u64 (ll : Int)] 35)).alloc (.cells #[.int .u64 0, .int .u64 0] 35)).alloc (.cells #[.int .u64 0, .int .u64 0] 35)) := by
              have hl3 : Below w8.heap.size w8 (((w8.alloc (.cells #[.int .u64 (lh : Int), .int .u64 (ll : Int)] 35)).alloc (.cells #[.int .u64 0, .int .u64 0] 35)).alloc (.cells #[.int .u64 0, .int .u64 0] 35)) := later_trans (later_alloc _ _) (later_trans (later_alloc _ _) (later_alloc _ _))
              refine ⟨later_trans h8b hl3, kept hl3 (kept hb8 H7.out.2.1), box_alloc (box_alloc (box_new w8 _ _) _) _, box_alloc ?_ _, ?_, ?_⟩
              · have h := box_new (w8.alloc (.cells #[.int .u64 (lh : Int), .int .u64 (ll : Int)] 35)) #[.int .u64 0, .int .u64 0] 35
                rw [World.size_alloc] at h; exact h
              · have h := box_new ((w8.alloc (.cells #[.int .u64 (lh : Int), .int .u64 (ll : Int)] 35)).alloc (.cells #[.int .u64 0, .int .u64 0] 35)) #[.int .u64 0, .int .u64 0] 35
                rw [World.size_alloc, World.size_alloc] at h; exact h
              · have h5 := lt_of_block (kept hb8 H7.out.2.1)
                have h6 := H7.out.2.2.2
                omega
            clear c0 c1 c2 lY d0 d1 u0 u1 l8
            obtain ⟨E1, hE1⟩ : ∃ E1 : Int, (if ok = true then 321 else 320) = E1 := ⟨_, rfl⟩
            go_upto_if 61 with fail
            obtain ⟨W9, hw9⟩ : ∃ W, ((w8.alloc (.cells #[.int .u64 (lh : Int), .int .u64 (ll : Int)] 35)).alloc (.cells #[.int .u64 0, .int .u64 0] 35)).alloc (.cells #[.int .u64 0, .int .u64 0] 35) = W := ⟨_, rfl⟩
            rw [hw9] at hF
            try rw [hw9]
            obtain ⟨X12, hX12⟩ : ∃ X, w8.heap.size = X := ⟨_, rfl⟩
            rw [hX12] at hF
            try rw [hX12]
            have H9 := Lib.hid (And.intro hF hE1)
            clear hw9 hF hE1 hX12 hb8 h8b
            go_cut [16, 17] (fun s16 s17 wx => s16 = .int .i64 E1 ∧ s17 = .int .i64 E1 ∧ wx = W9)
            case first =>
              cases ok with
              | true =>
                obtain rfl : E1 = 321 := H9.out.2.symm
                go_wp2_with fail
                go_meet
                exact ⟨rfl, rfl, rfl⟩
              | false =>
                obtain rfl : E1 = 320 := H9.out.2.symm
                go_wp2_with fail
                go_meet
                exact ⟨rfl, rfl, rfl⟩
            case rest =>
              obtain ⟨rfl, rfl, rfl⟩ := hcut
              have hbe := H9.out.1.bel
              have HW9 := Lib.hid (And.intro (H6.out.1.later hbe) (And.intro (kept hbe H6.out.2.1) (later_trans H6.out.2.2 hbe)))
              have hRb2 := HRf.out.2.1
              have hRl2 := HRf.out.2.2
              obtain ⟨c0, c1, c2, -, -, -, lY⟩ := three_of HW9.out.1.b5
              obtain ⟨d0, d1, -, -, l8⟩ := two_of HW9.out.2.1
              obtain ⟨r0, r1, rf0, rf1, lr⟩ := two_of H9.out.1.x14
              obtain ⟨t0, t1, tf0, tf1, lt⟩ := two_of H9.out.1.x15
              have HRB := Lib.hid (And.intro hRb2 hRl2)
              clear hbe hRb2 hRl2
              go_upto_if 62 with fail
              go_cut [16, 17] (fun s16 s17 wx => s16 = .int .i64 e1 ∧ s17 = .int .i64 f1 ∧ FxW WB w7.heap.size X12 (X12 + 1) (X12 + 1 + 1) #[.int .u64 (bh : Int), .int .u64 (bl : Int)] #[.int .u64 (lh : Int), .int .u64 (ll : Int)] #[.int .u64 (bh : Int), .int .u64 (bl : Int)] #[.int .u64 (lh : Int), .int .u64 (ll : Int)] wx)
              case first =>
                rcases H5.out.2.2.2.2 with ⟨h1, rfl, rfl, rfl, rfl, rfl, rfl⟩ | ⟨h1, h2, rfl, rfl, rfl, rfl, rfl, rfl⟩ | ⟨h1, h2, rfl, rfl, rfl, rfl, rfl, rfl, hrb⟩ | ⟨h1, h2, rfl, rfl, hrb, hrl⟩ | ⟨h1, h2, rfl, rfl, rfl, rfl, hrb, hrl⟩
                · obtain rfl : iq = false := by have g := H5.out.2.2.2.1; rw [h1, Bool.false_and] at g; exact g.symm
                  have hE : E1 = 320 := by rw [← H9.out.2, if_neg (by rw [← HW2.out.2, h1]; decide)]
                  subst hE
                  clear h1
                  go_wp2_with fail
                  go_meet
                  exact ⟨rfl, rfl, H9.out.1⟩
                · obtain rfl : iq = false := by have g := H5.out.2.2.2.1; rw [h1, h2, Bool.and_false] at g; exact g.symm
                  have hE : E1 = 321 := by rw [← H9.out.2, if_pos (by rw [← HW2.out.2, h1])]
                  subst hE
                  clear h1 h2
                  go_wp2_with fail
                  go_meet
                  exact ⟨rfl, rfl, H9.out.1⟩
                · obtain rfl : iq = true := by have g := H5.out.2.2.2.1; rw [h1, h2, Bool.and_true] at g; exact g.symm
                  have hB2 := HRB.out.1 h1 h2 wc HW9.out.2.2
                  rw [hrb] at hB2
                  have HB2 := Lib.hid hB2
                  clear h1 h2 hrb hB2
                  go_wp2_with fail
                  refine HB2.out.mono ?_
                  rintro e w10 ⟨rfl, hb10⟩
                  have hF10 := H9.out.1.later hb10
                  obtain ⟨r0, r1, rf0, rf1, lr⟩ := two_of hF10.x14
                  have H10 := Lib.hid hF10
                  clear hb10 hF10 t0 t1 tf0 tf1 lt c0 c1 c2 d0 d1
                  go_wp2_with fail
                  go_meet
                  exact ⟨rfl, rfl, H10.out.set14 _ _⟩
                · obtain rfl : iq = true := by have g := H5.out.2.2.2.1; rw [h1, h2, Bool.and_true] at g; exact g.symm
                  have hB2 := HRB.out.1 h1 h2 wc HW9.out.2.2
                  rw [hrb] at hB2
                  have hL2 := HRB.out.2 h1 h2
                  simp only [hrl] at hL2
                  have HB2 := Lib.hid (And.intro hB2 hL2)
                  clear h1 h2 hrb hrl hB2 hL2
                  go_wp2_with fail
                  refine HB2.out.1.mono ?_
                  rintro e w10 ⟨rfl, hb10⟩
                  have hF10 := H9.out.1.later hb10
                  obtain ⟨r0, r1, rf0, rf1, lr⟩ := two_of hF10.x14
                  have hF11 := hF10.set14 (.int .u64 (bh : Int)) (.int .u64 (bl : Int))
                  have hW11 := H6.out.1.later hF11.bel
                  have h8 := kept hF11.bel H6.out.2.1
                  have H10 := Lib.hid (And.intro hF11 (later_trans H6.out.2.2 hF11.bel))
                  clear t0 t1 tf0 tf1 lt c0 c1 c2 d0 d1
                  obtain ⟨c0, c1, c2, -, -, -, lY⟩ := three_of hW11.b5
                  obtain ⟨d0, d1, -, -, l8⟩ := two_of h8
                  clear hb10 hF10 hF11 hW11 h8
                  go_wp2_with fail
                  refine (HB2.out.2 _ H10.out.2).mono ?_
                  rintro e w12 ⟨rfl, hb12⟩
                  have hF12 := H10.out.1.later hb12
                  obtain ⟨t0, t1, tf0, tf1, lt⟩ := two_of hF12.x15
                  have H12 := Lib.hid hF12
                  clear hb12 hF12 c0 c1 c2 d0 d1 r0 r1 rf0 rf1 lr
                  go_wp2_with fail
                  go_meet
                  exact ⟨rfl, rfl, H12.out.set15 _ _⟩
                · obtain rfl : iq = true := by have g := H5.out.2.2.2.1; rw [h1, h2, Bool.and_true] at g; exact g.symm
                  have hB2 := HRB.out.1 h1 h2 wc HW9.out.2.2
                  rw [hrb] at hB2
                  have hL2 := HRB.out.2 h1 h2
                  simp only [hrl] at hL2
                  have HB2 := Lib.hid (And.intro hB2 hL2)
                  clear h1 h2 hrb hrl hB2 hL2
                  go_wp2_with fail
                  refine HB2.out.1.mono ?_
                  rintro e w10 ⟨rfl, hb10⟩
                  have hF10 := H9.out.1.later hb10
                  obtain ⟨r0, r1, rf0, rf1, lr⟩ := two_of hF10.x14
                  have hF11 := hF10.set14 (.int .u64 (bh : Int)) (.int .u64 (bl : Int))
                  have hW11 := H6.out.1.later hF11.bel
                  have h8 := kept hF11.bel H6.out.2.1
                  have H10 := Lib.hid (And.intro hF11 (later_trans H6.out.2.2 hF11.bel))
                  clear t0 t1 tf0 tf1 lt c0 c1 c2 d0 d1
                  obtain ⟨c0, c1, c2, -, -, -, lY⟩ := three_of hW11.b5
                  obtain ⟨d0, d1, -, -, l8⟩ := two_of h8
                  clear hb10 hF10 hF11 hW11 h8
                  go_wp2_with fail
                  refine (HB2.out.2 _ H10.out.2).mono ?_
                  rintro e w12 ⟨rfl, hb12⟩
                  have hF12 := H10.out.1.later hb12
                  obtain ⟨t0, t1, tf0, tf1, lt⟩ := two_of hF12.x15
                  have H12 := Lib.hid hF12
                  clear hb12 hF12 c0 c1 c2 d0 d1 r0 r1 rf0 rf1 lr
                  go_wp2_with fail
                  go_meet
                  exact ⟨rfl, rfl, (H12.out.set15 _ _).set15 _ _⟩
              case rest =>
                obtain ⟨rfl, rfl, hF⟩ := hcut
                have hW11 := H6.out.1.later hF.bel
                have h8 := kept hF.bel H6.out.2.1
                have HC := Lib.hid (HCv.out.1 wc (later_trans H6.out.2.2 hF.bel))
                clear c0 c1 c2 lY d0 d1 l8 r0 r1 rf0 rf1 lr t0 t1 tf0 tf1 lt
                obtain ⟨c0, c1, c2, -, -, -, lY⟩ := three_of hW11.b5
                obtain ⟨d0, d1, -, -, l8⟩ := two_of h8
                have HF := Lib.hid (And.intro hF (later_trans HK.out.2.2.1 (later_trans H5.out.2.2.1 (later_trans H6.out.2.2 hF.bel))))
                clear hF hW11 h8
                have hiqq : (iq != iq) = false := by simp
                have hee : (e1 != e1) = false := by simp
                have hff : (f1 != f1) = false := by simp
                have hne := neq_wideB
                have hgn := guardn_wideB
                go_wp2_with fail
                refine HC.out.mono ?_
                rintro e w13 ⟨rfl, hb13⟩
                have hF13 := HF.out.1.later hb13
                obtain ⟨a0, a1, -, -, la⟩ := two_of hF13.x10
                obtain ⟨b0, b1, -, -, lb⟩ := two_of hF13.x12
                obtain ⟨r0, r1, -, -, lr⟩ := two_of hF13.x14
                obtain ⟨t0, t1, -, -, lt⟩ := two_of hF13.x15
                have H13 := Lib.hid (later_trans HF.out.2 hb13)
                clear hb13 hF13 c0 c1 c2 d0 d1
                go_wp2_with fail
                go_roundw
                case rel => first | exact ⟨k + 1, by have := HK.out.2.2.2; omega, by go_num, H13.out⟩ | ((repeat apply Exists.intro); refine ⟨?_, rfl⟩; exact ⟨k + 1, by have := HK.out.2.2.2; omega, by go_num, H13.out⟩)
                case measure => simp [intOf]; have := HK.out.2.2.2; omega
    · -- [Q
      have HTL := Lib.hid hW
      clear hW hb
      go_upto_region 29 with fail
      obtain ⟨c0, c1, c2, -, -, -, lY⟩ := three_of HTL.out.b5
      obtain ⟨d0, d1, d2, -, -, -, lX⟩ := three_of HTL.out.b2
      have hOwn : ∀ W, Below wr.heap.size wr W → Calls Tryd.prog 10 #[shpV m (.slice ae ls.length ce) (.slice az zs.length cz)] W fun e w' => ∃ ev' sv', e = .returned (shpV m ev' sv') ∧ ShR w' ev' sv' S2 ∧ Below W.heap.size W w' := fun W hb1 =>
        (own_any ⟨m, ls, zs⟩ _ _ W (H.out.1.later (later_trans HTL.out.bel hb1))).mono (by rintro e w' ⟨ev', sv', rfl, hS', hb'⟩; rw [← HM.out.2] at hS'; exact ⟨ev', sv', rfl, hS'.shR, hb'⟩)
      have hSame : ∀ W ev' sv', Below wr.heap.size wr W → ShR W ev' sv' S2 → Calls Tryd.prog 27 #[shpV m (.slice p1 S2.edges.length q1) (.slice p2 S2.sizes.length q2), shpV m ev' sv'] W fun e w' => e = .returned (.bool true) ∧ Below W.heap.size W w' := fun W ev' sv' hb1 hS' => by
        have := same_any S2 _ _ ev' sv' W (HTL.out.own.later hb1) hS'
        rw [HM.out.1] at this
        exact this
      have HOS := Lib.hid (And.intro hOwn (And.intro hSame HTL.out.bel))
      have HKeep : Hid (∀ W, Below wr.heap.size wr W → (W.cell? ⟨Y, 0, none⟩ = some (.int .i64 m) ∧ W.cell? ⟨Y, 1, none⟩ = some (.slice p1 S2.edges.length q1) ∧ W.cell? ⟨Y, 2, none⟩ = some (.slice p2 S2.sizes.length q2)) ∧ W.cell? ⟨w.heap.size, 0, none⟩ = some (.int .i64 m) ∧ W.cell? ⟨w.heap.size, 1, none⟩ = some (.slice ae ls.length ce) ∧ W.cell? ⟨w.heap.size, 2, none⟩ = some (.slice az zs.length cz)) := Lib.hid (fun W hb => ⟨⟨cell_next hb c0, cell_next hb c1, cell_next hb c2⟩, cell_next hb d0, cell_next hb d1, cell_next hb d2⟩)
      clear hOwn hSame
      go_cut [4] (fun s4 wx => s4 = .bool true ∧ Below wr.heap.size wr wx)
      case first =>
        go_region_held3 (fun W => (W.cell? ⟨Y, 0, none⟩ = some (.int .i64 m) ∧ W.cell? ⟨Y, 1, none⟩ = some (.slice p1 S2.edges.length q1) ∧ W.cell? ⟨Y, 2, none⟩ = some (.slice p2 S2.sizes.length q2)) ∧ W.cell? ⟨w.heap.size, 0, none⟩ = some (.int .i64 m) ∧ W.cell? ⟨w.heap.size, 1, none⟩ = some (.slice ae ls.length ce) ∧ W.cell? ⟨w.heap.size, 2, none⟩ = some (.slice az zs.length cz))
          (first | exact HKeep.out _ (later_refl _) | exact HKeep.out _ (later_drew _) | exact HKeep.out _ hbQ | exact HKeep.out _ hbP | assumption)
          (first
            | (go_at_call 27; have hq := hbP; refine (HOS.out.2.1 _ _ _ hbP hS3).mono ?_; rintro e wQ ⟨rfl, hQ1⟩; have hbQ : Below wr.heap.size wr wQ := (later_trans hbP hQ1))
            | (go_at_call 10; refine (HOS.out.1 _ (later_drew _)).mono ?_; rintro e wP ⟨ev3, sv3, rfl, hS3, hP1⟩; have hbP : Below wr.heap.size wr wP := (later_trans (later_drew _) hP1)))
        all_goals (go_wp2_with fail)
        all_goals go_meet
        all_goals exact ⟨rfl, hbQ⟩
      case rest =>
        obtain ⟨rfl, hbx⟩ := hcut
        have HE := Lib.hid (later_trans HOS.out.2.2 hbx)
        clear hbx
        go_wp2_with fail
        go_ret
        exact ⟨rfl, HE.out⟩
      -- Q]
end Go.Proofs.YtdmfhlfhlflakaaDoor
