/-
  The law PlanCosts, walked.
-/
import Derived.Test.YtdmfhlfhlflakaaDoorCos
import Derived.Test.YtdmfhlfhlflakaaDoorPlFew
import Derived.Test.YtdmfhlfhlflakaaDoorPlWakes
namespace Go.Proofs.YtdmfhlfhlflakaaDoor
open Go.RowKit Go.Shelf
set_option linter.unusedVariables false
set_option linter.unusedSimpArgs false

theorem neq_wideS (h l h' l' : Int) (w : World) : (binOp .neq 35 (.agg #[.int .u64 h, .int .u64 l]) (.agg #[.int .u64 h', .int .u64 l'])).run Tryd.prog w = .ok (.bool (!(decide (h = h') && decide (l = l')))) w := by
  have u := Tryd.underlying33
  have hS : Tryd.prog.underlying 35 = some (.struct (Tryd.prog.fieldsOf 35)) := by kernel_rfl
  have hp : Tryd.prog.stoodInHeld 35 = false := by kernel_rfl
  rw [run_neq_struct, show (10000 : Nat) = 9999 + 1 from rfl, run_equalIn_agg w 9999 35 _ _ hS hp]
  simp only [Program.fieldsOf, Tryd.underlying35]
  go_simp
  by_cases ha : h = h' <;> by_cases hb : l = l' <;> simp [ha, hb]
theorem guardn_wideS (x y : Operand) (xs ys : Array Value) (w : World) : (eqGuard .neq 35 x y (.agg xs) (.agg ys)).run Tryd.prog w = .ok () w := run_eqGuard_agg w .neq 35 x y xs ys (by kernel_rfl)
/-- What stands while the law goes on. -/
structure CqW (w : World) (m : Int) (ev sv ev2 sv2 : Value) (S2 : Shp) (Y : Nat) (W : World) : Prop where
  bel : Below w.heap.size w W
  b2 : SB W w.heap.size m ev sv
  b5 : SB W Y m ev2 sv2
  own : ShR W ev2 sv2 S2
theorem CqW.later {w W W' : World} {m : Int} {ev sv ev2 sv2 : Value} {S2 : Shp} {Y : Nat} (h : CqW w m ev sv ev2 sv2 S2 Y W) (hb : Below W.heap.size W W') : CqW w m ev sv ev2 sv2 S2 Y W' :=
  ⟨later_trans h.bel hb, kept hb h.b2, kept hb h.b5, h.own.later hb⟩
/-- The cost, as plan tells it and as the document does. -/
theorem cost_cases (S : Shp) (o : List Int) : ∃ (nh nl : Nat) (e : Int), costV S o = .tuple #[.agg #[.int .u64 (nh : Int), .int .u64 (nl : Int)], .int .i64 e] ∧
    ((shpB S = false ∧ e = 320 ∧ nh = 0 ∧ nl = 0) ∨ (shpB S = true ∧ ordersB S.many o = false ∧ e = 2 ∧ nh = 0 ∧ nl = 0) ∨
     (shpB S = true ∧ ordersB S.many o = true ∧ e = 0 ∧ numV (cS S o o.length) = .tuple #[.agg #[.int .u64 (nh : Int), .int .u64 (nl : Int)], .bool true]) ∨
     (shpB S = true ∧ ordersB S.many o = true ∧ e = 110 ∧ nh = 0 ∧ nl = 0 ∧ numV (cS S o o.length) = .tuple #[.agg #[.int .u64 0, .int .u64 0], .bool false])) := by
  unfold costV
  cases h1 : shpB S with
  | false => exact ⟨0, 0, 320, by rw [if_neg (by decide)]; rfl, .inl ⟨rfl, rfl, rfl, rfl⟩⟩
  | true =>
    rw [if_pos rfl]
    cases h2 : ordersB S.many o with
    | false => exact ⟨0, 0, 2, by rw [if_neg (by decide)]; rfl, .inr (.inl ⟨rfl, rfl, rfl, rfl, rfl⟩)⟩
    | true =>
      rw [if_pos rfl]
      by_cases h3 : cS S o o.length < 340282366920938463463374607431768211456
      · obtain ⟨nh, nl, hw, -⟩ := wv_open (cS S o o.length) h3
        exact ⟨nh, nl, 0, by unfold wres; rw [if_pos h3, hw], .inr (.inr (.inl ⟨rfl, rfl, rfl, by unfold numV; rw [if_pos h3, hw]⟩))⟩
      · exact ⟨0, 0, 110, by unfold wres; rw [if_neg h3]; rfl, .inr (.inr (.inr ⟨rfl, rfl, rfl, rfl, rfl, by unfold numV; rw [if_neg h3]⟩))⟩
/-- The two boxes. -/
structure GxW (w0 : World) (X Z : Nat) (p q : Array Value) (W : World) : Prop where
  bel : Below w0.heap.size w0 W
  x : W.heap[X]? = some (.cells p 35 (0, 0))
  z : W.heap[Z]? = some (.cells q 35 (0, 0))
  far : w0.heap.size ≤ X ∧ X < Z
theorem GxW.later {w0 W W' : World} {X Z : Nat} {p q : Array Value} (h : GxW w0 X Z p q W) (hb : Below W.heap.size W W') : GxW w0 X Z p q W' :=
  ⟨later_trans h.bel hb, kept hb h.x, kept hb h.z, h.far⟩
theorem GxW.set {w0 W : World} {X Z : Nat} {p : Array Value} {a b : Value} (h : GxW w0 X Z p #[a, b] W) (u v : Value) : GxW w0 X Z p #[u, v] ((W.setCell ⟨Z, 0, none⟩ u).setCell ⟨Z, 1, none⟩ v) := by
  have hf := h.far
  refine ⟨below_set (below_set h.bel (by omega)) (by omega), box_other (box_other h.x (by omega) _) (by omega) _, ?_, hf⟩
  have := box_set (i := 1) (box_set (i := 0) h.z u) v
  simpa using this
/-- Are the first k all orders? -/
def allTo (m : Int) (l : List (List Int)) (k : Nat) : Bool := (List.range k).all fun j => ordersB m (rowN l j)
theorem allTo_succ (m : Int) (l : List (List Int)) (k : Nat) : allTo m l (k + 1) = (allTo m l k && ordersB m (rowN l k)) := by
  unfold allTo
  rw [List.range_succ, List.all_append]
  simp
theorem allTo_bad (m : Int) (l : List (List Int)) : badOs m l = !allTo m l l.length := by
  unfold badOs allTo
  cases h : (List.range l.length).all fun j => ordersB m (rowN l j) with
  | true =>
    refine List.any_eq_false.2 fun o ho => ?_
    obtain ⟨j, hj, rfl⟩ := List.getElem_of_mem ho
    have := List.all_eq_true.1 h j (List.mem_range.2 hj)
    rw [rowN_at hj] at this
    rw [this]; decide
  | false =>
    obtain ⟨j, hj, hf⟩ := List.all_eq_false.1 h
    have hj := List.mem_range.1 hj
    refine List.any_eq_true.2 ⟨l[j], List.getElem_mem hj, ?_⟩
    rw [rowN_at hj] at hf
    cases hq : ordersB m l[j] with
    | true => rw [hq] at hf; exact absurd rfl hf
    | false => rfl

set_option maxRecDepth 100000 in
set_option maxHeartbeats 8000000 in
theorem planCosts_any (S : Shp) (os : List (List Int)) (ev sv hv : Value) (w : World) (h : ShR w ev sv S) (hh : SlRK .i64 w hv os) (hO : One w) :
    Calls Tryd.prog 7 #[shpV S.many ev sv, hv] w fun e w' => e = .returned (.bool true) ∧ Below w.heap.size w w' := by
  obtain ⟨S2, hS2⟩ : ∃ S2, S2 = ownS S := ⟨_, rfl⟩
  have hm2 : S2.many = S.many := by rw [hS2]; rfl
  obtain ⟨m, ls, zs⟩ := S
  simp only at hm2 ⊢
  have H := Lib.hid (And.intro h (And.intro hh hO))
  have HM := Lib.hid (And.intro hm2 hS2)
  obtain ⟨ae, ce, rfl, -⟩ := h.edges.open
  obtain ⟨az, cz, rfl, -⟩ := h.sizes.open
  obtain ⟨ah, ch, rfl, -⟩ := hh.open
  simp only at H ⊢
  clear h hh hO hm2 hS2
  go_enter Tryd.func7, Tryd.ntmps7
  have H0 := Lib.hid (And.intro (box_new w #[.int .i64 m, .slice ae ls.length ce, .slice az zs.length cz] 27) (later_alloc w (.cells #[.int .i64 m, .slice ae ls.length ce, .slice az zs.length cz] 27)))
  go_wp2_with fail
  refine (wakes_any _ (H.out.2.2.later H0.out.2)).mono ?_
  rintro e w1 ⟨rfl, hb1⟩
  have H1 := Lib.hid (And.intro (kept hb1 H0.out.1) (later_trans H0.out.2 hb1))
  obtain ⟨c0, c1, c2, f0, f1, f2, lN⟩ := three_of H1.out.1
  clear hb1
  go_wp2_with fail
  refine (own_any ⟨m, ls, zs⟩ _ _ _ (H.out.1.later H1.out.2)).mono ?_
  rintro e w2 ⟨ev2, sv2, rfl, hS2, hb2⟩
  rw [← HM.out.2] at hS2
  have hl2 := later_trans H1.out.2 hb2
  have HFw := Lib.hid (few_any _ os w2 (H.out.2.1.later hl2))
  have H2 := Lib.hid (And.intro hS2 (And.intro hl2 (kept hb2 H1.out.1)))
  obtain ⟨p1, q1, rfl, -⟩ := hS2.shR.edges.open
  obtain ⟨p2, q2, rfl, -⟩ := hS2.shR.sizes.open
  clear hb2 hS2 hl2 c0 c1 c2 f0 f1 f2
  go_wp2_with fail
  refine HFw.out.mono ?_
  rintro e w3 ⟨fv, ps, rfl, hOw, hps, hb3⟩
  have hsl := hOw.slR
  rw [hps] at hsl
  have hb3' := later_trans hb3 (later_alloc w3 (.cells #[.int .i64 m, .slice p1 S2.edges.length q1, .slice p2 S2.sizes.length q2] 27))
  have hW2 : CqW w m (.slice ae ls.length ce) (.slice az zs.length cz) (.slice p1 S2.edges.length q1) (.slice p2 S2.sizes.length q2) S2 w3.heap.size (w3.alloc (.cells #[.int .i64 m, .slice p1 S2.edges.length q1, .slice p2 S2.sizes.length q2] 27)) :=
    ⟨later_trans H2.out.2.1 hb3', kept hb3' H2.out.2.2, box_new w3 _ _, (H2.out.1.shR).later hb3'⟩
  obtain ⟨l, hl⟩ : ∃ l, fewL os = l := ⟨_, rfl⟩
  rw [hl] at hsl
  have hll : l.length ≤ 5 := by
    rw [← hl]; unfold fewL; rw [List.length_map, List.length_take]; omega
  obtain ⟨al, cl, rfl, -⟩ := hsl.open
  have hsl2 := hsl.later (later_alloc w3 (.cells #[.int .i64 m, .slice p1 S2.edges.length q1, .slice p2 S2.sizes.length q2] 27))
  have HSl := Lib.hid hsl2
  clear hOw hps hb3 hb3' hsl hsl2 hl
  go_upto_region 4 with fail
  obtain ⟨W2, hw2⟩ : ∃ W, w3.alloc (.cells #[.int .i64 m, .slice p1 S2.edges.length q1, .slice p2 S2.sizes.length q2] 27) = W := ⟨_, rfl⟩
  rw [hw2] at hW2 HSl
  try rw [hw2]
  obtain ⟨Y, hY⟩ : ∃ Y, w3.heap.size = Y := ⟨_, rfl⟩
  rw [hY] at hW2 ⊢
  obtain ⟨c0, c1, c2, -, -, -, lY⟩ := three_of hW2.b5
  have hR := Right22_any S2 _ _ W2 hW2.own
  rw [HM.out.1] at hR
  obtain ⟨ok, hok⟩ : ∃ ok, shpB S2 = ok := ⟨_, rfl⟩
  rw [hok] at hR
  have HR := Lib.hid hR
  have HW2 := Lib.hid (And.intro hW2 hok)
  clear hR hW2 hok hw2 hY
  go_wp2_with fail
  refine HR.out.mono ?_
  rintro e w4 ⟨rfl, hb4⟩
  have H4 := Lib.hid (And.intro (HW2.out.1.later hb4) (HSl.out.later hb4))
  clear hb4 c0 c1 c2
  obtain ⟨a0, ha0⟩ : ∃ a0, (ok && decide (0 < l.length)) = a0 := ⟨_, rfl⟩
  have HA0 := Lib.hid ha0
  go_upto_region 5 with fail
  go_cut [8] (fun s8 wx => s8 = .bool a0 ∧ wx = w4)
  case first =>
    cases ok with
    | true =>
      by_cases h0 : 0 < l.length
      · have h0i : (0 : Int) < l.length := by omega
        have h0d : decide ((0 : Int) < l.length) = true := decide_eq_true h0i
        obtain rfl : a0 = true := by rw [← ha0, decide_eq_true h0]; rfl
        clear ha0
        go_wp2_with fail
        go_meet
        exact ⟨rfl, rfl⟩
      · have h0i : ¬ (0 : Int) < l.length := by omega
        have h0d : decide ((0 : Int) < l.length) = false := decide_eq_false h0i
        obtain rfl : a0 = false := by rw [← ha0, decide_eq_false h0]; rfl
        clear ha0
        go_wp2_with fail
        go_meet
        exact ⟨rfl, rfl⟩
    | false =>
      obtain rfl : a0 = false := by rw [← ha0]; rfl
      clear ha0
      go_wp2_with fail
      go_meet
      exact ⟨rfl, rfl⟩
  case rest =>
    obtain ⟨rfl, rfl⟩ := hcut
    clear ha0
    go_wp2_with fail
    go_loopw [8, 36] (fun a i wr => ∃ k : Nat, k ≤ l.length ∧ i = .int .i64 k ∧ a = .bool (a0 && allTo S2.many l k) ∧ Below wc.heap.size wc wr) (fun _ i _ => l.length - (intOf i).toNat)
    case atStart => exact ⟨0, Nat.zero_le _, rfl, by show _ = Value.bool (a0 && true); rw [Bool.and_true], later_refl _⟩
    case round =>
      obtain ⟨k, hk, rfl, rfl, hb⟩ := hrel
      have hW := H4.out.1.later hb
      by_cases hlt : k < l.length
      · -- [A
        obtain ⟨_, _, e1, _, _, _, f4⟩ := (H4.out.2.later hb).open
        obtain ⟨b, of', e2, hbw, fc⟩ := f4 (by omega)
        injection e1 with e1a e1b e1c
        subst e1a e1c
        subst e2
        obtain ⟨rv, c9, hrv⟩ := fc k hlt
        have hst := allTo_succ S2.many l k
        obtain ⟨o, ho⟩ : ∃ o, rowN l k = o := ⟨_, rfl⟩
        rw [ho] at hrv hst
        obtain ⟨nh, nl, e1, hcv, hD⟩ := cost_cases S2 o
        have hCo := Cost_any S2 _ _ rv o wr hW.own hrv
        rw [HM.out.1, hcv] at hCo
        have hOr := fun W (hb : Below wr.heap.size wr W) => Orders22_any S2.many (.slice p1 S2.edges.length q1) (.slice p2 S2.sizes.length q2) rv o W ⟨_, _, _, rfl⟩ ⟨_, _, _, rfl⟩ (hrv.later hb)
        have hRc := fun (h1 : shpB S2 = true) (h2 : ordersB S2.many o = true) W (hb : Below wr.heap.size wr W) => Cost22_any S2 _ _ rv o W (hW.own.later hb) (hrv.later hb) h1 (by have g1 := ordersB_len h2; have g2 := (shpB_yes h1).2.1; omega)
        obtain ⟨aN, haN⟩ : ∃ aN, (a0 && allTo S2.many l (k + 1)) = aN := ⟨_, rfl⟩
        obtain ⟨aK, haK⟩ : ∃ aK, (a0 && allTo S2.many l k) = aK := ⟨_, rfl⟩
        rw [hst, ← Bool.and_assoc, haK] at haN
        rw [haK]
        have haS : (a0 && allTo S2.many l (k + 1)) = aN := by rw [hst, ← Bool.and_assoc, haK]; exact haN
        have hak0 : ok = false → aK = false := fun g => by rw [← haK, ← HA0.out, g]; rfl
        rw [HM.out.1] at hOr hRc haN hD
        obtain ⟨ar, cr, rfl, -⟩ := hrv.open
        obtain ⟨c0, c1, c2, -, -, -, lY⟩ := three_of hW.b5
        have HC := Lib.hid (And.intro hCo (And.intro hOr hRc))
        have HK := Lib.hid (And.intro hW (And.intro hb (And.intro hlt (And.intro haS hD))))
        have HN := Lib.hid (And.intro haN hak0)
        clear hW hb hst hCo hOr hRc haN haS hak0 haK hcv hD hrv fc f4 e1b ho
        go_wp2_with fail
        refine HC.out.1.mono ?_
        rintro e w7 ⟨rfl, hb7⟩
        have hG : GxW wr w7.heap.size (w7.heap.size + 1) #[.int .u64 (nh : Int), .int .u64 (nl : Int)] #[.int .u64 0, .int .u64 0] ((w7.alloc (.cells #[.int .u64 (nh : Int), .int .u64 (nl : Int)] 35)).alloc (.cells #[.int .u64 0, .int .u64 0] 35)) := by
          refine ⟨later_trans hb7 (later_trans (later_alloc _ _) (later_alloc _ _)), box_alloc (box_new w7 _ _) _, ?_, hb7.size, by omega⟩
          have hh := box_new (w7.alloc (.cells #[.int .u64 (nh : Int), .int .u64 (nl : Int)] 35)) #[.int .u64 0, .int .u64 0] 35
          rw [World.size_alloc] at hh; exact hh
        clear hb7 c0 c1 c2
        go_upto_region 11 with fail
        obtain ⟨W9, hw9⟩ : ∃ W, (w7.alloc (.cells #[.int .u64 (nh : Int), .int .u64 (nl : Int)] 35)).alloc (.cells #[.int .u64 0, .int .u64 0] 35) = W := ⟨_, rfl⟩
        rw [hw9] at hG
        try rw [hw9]
        obtain ⟨X, hX⟩ : ∃ X, w7.heap.size = X := ⟨_, rfl⟩
        rw [hX] at hG
        try rw [hX]
        obtain ⟨c0, c1, c2, -, -, -, lY⟩ := three_of (HK.out.1.later hG.bel).b5
        obtain ⟨n0, n1, -, -, ln⟩ := two_of hG.x
        obtain ⟨r0, r1, rf0, rf1, lr⟩ := two_of hG.z
        have HG := Lib.hid hG
        clear hw9 hX hG
        have hne := neq_wideS
        have hgn := guardn_wideS
        rcases HK.out.2.2.2.2 with ⟨h1, rfl, rfl, rfl⟩ | ⟨h1, h2, rfl, rfl, rfl⟩ | ⟨h1, h2, rfl, hnv⟩ | ⟨h1, h2, rfl, rfl, rfl, hnv⟩
        · obtain rfl : ok = false := by rw [← HW2.out.2, h1]
          obtain rfl : aK = false := HN.out.2 rfl
          have HA := Lib.hid (show (a0 && allTo S2.many l (k + 1)) = false by rw [HK.out.2.2.2.1, ← HN.out.1]; rfl)
          clear h1
          go_wp2_with fail
          go_roundw
          case rel => first | exact ⟨k + 1, HK.out.2.2.1, by go_num, by rw [HA.out], later_trans HK.out.2.1 HG.out.bel⟩ | ((repeat apply Exists.intro); refine ⟨?_, rfl⟩; exact ⟨k + 1, HK.out.2.2.1, by go_num, by rw [HA.out], later_trans HK.out.2.1 HG.out.bel⟩)
          case measure => simp [intOf]; have := HK.out.2.2.1; omega
        · obtain rfl : ok = true := by rw [← HW2.out.2, h1]
          have HA := Lib.hid (show (a0 && allTo S2.many l (k + 1)) = false by rw [HK.out.2.2.2.1, ← HN.out.1, h2, Bool.and_false])
          have hO2 := HC.out.2.1 W9 HG.out.bel
          rw [h2] at hO2
          have HO2 := Lib.hid hO2
          clear h1 h2 hO2
          go_wp2_with fail
          refine HO2.out.mono ?_
          rintro e w10 ⟨rfl, hb10⟩
          have hG2 := HG.out.later hb10
          obtain ⟨n0, n1, -, -, ln⟩ := two_of hG2.x
          obtain ⟨r0, r1, rf0, rf1, lr⟩ := two_of hG2.z
          have HG2 := Lib.hid hG2.bel
          clear hb10 hG2 c0 c1 c2
          go_wp2_with fail
          go_roundw
          case rel => first | exact ⟨k + 1, HK.out.2.2.1, by go_num, by rw [HA.out], later_trans HK.out.2.1 HG2.out⟩ | ((repeat apply Exists.intro); refine ⟨?_, rfl⟩; exact ⟨k + 1, HK.out.2.2.1, by go_num, by rw [HA.out], later_trans HK.out.2.1 HG2.out⟩)
          case measure => simp [intOf]; have := HK.out.2.2.1; omega
        · obtain rfl : ok = true := by rw [← HW2.out.2, h1]
          have HA := Lib.hid (show (a0 && allTo S2.many l (k + 1)) = aK by rw [HK.out.2.2.2.1, ← HN.out.1, h2, Bool.and_true])
          have hO2 := HC.out.2.1 W9 HG.out.bel
          rw [h2] at hO2
          have hR2 := HC.out.2.2 h1 h2
          simp only [hnv] at hR2
          have HO2 := Lib.hid (And.intro hO2 hR2)
          clear h1 h2 hO2 hR2 hnv
          go_wp2_with fail
          refine HO2.out.1.mono ?_
          rintro e w10 ⟨rfl, hb10⟩
          have hG2 := HG.out.later hb10
          have HG2 := Lib.hid hG2
          clear c0 c1 c2 n0 n1 r0 r1 rf0 rf1 lr
          obtain ⟨c0, c1, c2, -, -, -, lY⟩ := three_of (HK.out.1.later hG2.bel).b5
          clear hb10 hG2
          go_wp2_with fail
          refine (HO2.out.2 _ HG2.out.bel).mono ?_
          rintro e w11 ⟨rfl, hb11⟩
          have hG3 := HG2.out.later hb11
          obtain ⟨n0, n1, -, -, ln⟩ := two_of hG3.x
          obtain ⟨r0, r1, rf0, rf1, lr⟩ := two_of hG3.z
          have hfX := hG3.far.2
          have hXZ : X ≠ X + 1 := by omega
          have hG4 := hG3.set (.int .u64 (nh : Int)) (.int .u64 (nl : Int))
          have HG4 := Lib.hid hG4.bel
          clear hb11 hG3 c0 c1 c2 hG4
          go_wp2_with fail
          go_roundw
          case rel => first | exact ⟨k + 1, HK.out.2.2.1, by go_num, by rw [HA.out], later_trans HK.out.2.1 HG4.out⟩ | ((repeat apply Exists.intro); refine ⟨?_, rfl⟩; exact ⟨k + 1, HK.out.2.2.1, by go_num, by rw [HA.out], later_trans HK.out.2.1 HG4.out⟩)
          case measure => simp [intOf]; have := HK.out.2.2.1; omega
        · obtain rfl : ok = true := by rw [← HW2.out.2, h1]
          have HA := Lib.hid (show (a0 && allTo S2.many l (k + 1)) = aK by rw [HK.out.2.2.2.1, ← HN.out.1, h2, Bool.and_true])
          have hO2 := HC.out.2.1 W9 HG.out.bel
          rw [h2] at hO2
          have hR2 := HC.out.2.2 h1 h2
          simp only [hnv] at hR2
          have HO2 := Lib.hid (And.intro hO2 hR2)
          clear h1 h2 hO2 hR2 hnv
          go_wp2_with fail
          refine HO2.out.1.mono ?_
          rintro e w10 ⟨rfl, hb10⟩
          have hG2 := HG.out.later hb10
          have HG2 := Lib.hid hG2
          clear c0 c1 c2 n0 n1 r0 r1 rf0 rf1 lr
          obtain ⟨c0, c1, c2, -, -, -, lY⟩ := three_of (HK.out.1.later hG2.bel).b5
          clear hb10 hG2
          go_wp2_with fail
          refine (HO2.out.2 _ HG2.out.bel).mono ?_
          rintro e w11 ⟨rfl, hb11⟩
          have hG3 := HG2.out.later hb11
          obtain ⟨n0, n1, -, -, ln⟩ := two_of hG3.x
          obtain ⟨r0, r1, rf0, rf1, lr⟩ := two_of hG3.z
          have hXZ : X ≠ X + 1 := by omega
          have hG4 := hG3.set (.int .u64 0) (.int .u64 0)
          clear hb11 hG3 c0 c1 c2
          go_upto_region 17 with fail
          obtain ⟨W11, hw11⟩ : ∃ W, (w11.setCell ⟨X + 1, 0, none⟩ (.int .u64 0)).setCell ⟨X + 1, 1, none⟩ (.int .u64 0) = W := ⟨_, rfl⟩
          rw [hw11] at hG4
          try rw [hw11]
          clear hw11 n0 n1 r0 r1 rf0 rf1 lr ln
          obtain ⟨n0, n1, -, -, ln⟩ := two_of hG4.x
          obtain ⟨r0, r1, rf0, rf1, lr⟩ := two_of hG4.z
          have hG5 := hG4.set (.int .u64 0) (.int .u64 0)
          have HG4 := Lib.hid hG5.bel
          clear hG4 hG5
          go_wp2_with fail
          go_roundw
          case rel => first | exact ⟨k + 1, HK.out.2.2.1, by go_num, by rw [HA.out], later_trans HK.out.2.1 HG4.out⟩ | ((repeat apply Exists.intro); refine ⟨?_, rfl⟩; exact ⟨k + 1, HK.out.2.2.1, by go_num, by rw [HA.out], later_trans HK.out.2.1 HG4.out⟩)
          case measure => simp [intOf]; have := HK.out.2.2.1; omega
        -- A]
      · obtain rfl : k = l.length := by omega
        -- [E
        have hBe := Best_any S2 _ _ (.slice al l.length cl) l wr hW.own (H4.out.2.later hb)
        rw [HM.out.1] at hBe
        have hRb := fun (g1 : shpB S2 = true) (g2 : badOs S2.many l = false) W (hb1 : Below wr.heap.size wr W) => bestR_any S2 _ _ (.slice al l.length cl) l W (hW.own.later hb1) ((H4.out.2.later hb).later hb1) g1 g2
        rw [HM.out.1] at hRb
        have hbd := allTo_bad S2.many l
        obtain ⟨aN, haN⟩ : ∃ aN, (a0 && allTo S2.many l l.length) = aN := ⟨_, rfl⟩
        rw [haN]
        have hD : (ok = false ∧ bestX S2 l = 0 ∧ bestE S2 l = 320 ∧ aN = false) ∨ (ok = true ∧ bestX S2 l = 0 ∧ bestE S2 l = 2 ∧ aN = false) ∨ (ok = true ∧ badOs S2.many l = false ∧ bestX S2 l = bestI S2 l ∧ bestE S2 l = 0 ∧ aN = true) := by
          unfold bestX bestE
          rw [HW2.out.2]
          rw [← HA0.out] at haN
          cases ok with
          | false => exact .inl ⟨rfl, if_neg (by decide), if_neg (by decide), haN.symm⟩
          | true =>
            rw [if_pos rfl, if_pos rfl]
            by_cases h0 : l.length = 0
            · refine .inr (.inl ⟨rfl, if_pos h0, if_pos h0, ?_⟩)
              rw [← haN, decide_eq_false (by omega)]; rfl
            · rw [if_neg h0, if_neg h0]
              rw [decide_eq_true (show 0 < l.length by omega), Bool.and_true, Bool.true_and] at haN
              rw [haN] at hbd
              rw [hbd]
              cases aN with
              | true => exact .inr (.inr ⟨rfl, rfl, if_neg (by decide), if_neg (by decide), rfl⟩)
              | false => exact .inr (.inl ⟨rfl, if_pos rfl, if_pos rfl, rfl⟩)
        obtain ⟨bx, hbx⟩ : ∃ bx, bestX S2 l = bx := ⟨_, rfl⟩
        obtain ⟨be, hbe⟩ : ∃ be, bestE S2 l = be := ⟨_, rfl⟩
        rw [hbx, hbe] at hBe hD
        obtain ⟨c0, c1, c2, -, -, -, lY⟩ := three_of hW.b5
        have HB := Lib.hid (And.intro hBe (And.intro hRb hD))
        have HTL := Lib.hid hW
        clear hBe hRb hD hbd haN hbx hbe hW hb
        go_wp2_with fail
        refine HB.out.1.mono ?_
        rintro e w7 ⟨rfl, hb7⟩
        have HB7 := Lib.hid hb7
        clear c0 c1 c2 lY
        obtain ⟨c0, c1, c2, -, -, -, lY⟩ := three_of (HTL.out.later hb7).b5
        clear hb7
        rcases HB.out.2.2 with ⟨rfl, rfl, rfl, rfl⟩ | ⟨rfl, rfl, rfl, rfl⟩ | ⟨rfl, hbd, hbx, rfl, rfl⟩
        · have HT := Lib.hid (HTL.out.later HB7.out)
          obtain ⟨d0, d1, d2, -, -, -, lX⟩ := three_of HT.out.b2
          have hOwn : ∀ W, Below w7.heap.size w7 W → Calls Tryd.prog 10 #[shpV m (.slice ae ls.length ce) (.slice az zs.length cz)] W fun e w' => ∃ ev' sv', e = .returned (shpV m ev' sv') ∧ ShR w' ev' sv' S2 ∧ Below W.heap.size W w' := fun W hb1 =>
            (own_any ⟨m, ls, zs⟩ _ _ W (H.out.1.later (later_trans HT.out.bel hb1))).mono (by rintro e w' ⟨ev', sv', rfl, hS', hb'⟩; rw [← HM.out.2] at hS'; exact ⟨ev', sv', rfl, hS'.shR, hb'⟩)
          have hSame : ∀ W ev' sv', Below w7.heap.size w7 W → ShR W ev' sv' S2 → Calls Tryd.prog 27 #[shpV m (.slice p1 S2.edges.length q1) (.slice p2 S2.sizes.length q2), shpV m ev' sv'] W fun e w' => e = .returned (.bool true) ∧ Below W.heap.size W w' := fun W ev' sv' hb1 hS' => by
            have := same_any S2 _ _ ev' sv' W (HT.out.own.later hb1) hS'
            rw [HM.out.1] at this
            exact this
          have HOS := Lib.hid (And.intro hOwn (And.intro hSame HT.out.bel))
          have HKeep : Hid (∀ W, Below w7.heap.size w7 W → (W.cell? ⟨Y, 0, none⟩ = some (.int .i64 m) ∧ W.cell? ⟨Y, 1, none⟩ = some (.slice p1 S2.edges.length q1) ∧ W.cell? ⟨Y, 2, none⟩ = some (.slice p2 S2.sizes.length q2)) ∧ W.cell? ⟨w.heap.size, 0, none⟩ = some (.int .i64 m) ∧ W.cell? ⟨w.heap.size, 1, none⟩ = some (.slice ae ls.length ce) ∧ W.cell? ⟨w.heap.size, 2, none⟩ = some (.slice az zs.length cz)) := Lib.hid (fun W hb => ⟨⟨cell_next hb c0, cell_next hb c1, cell_next hb c2⟩, cell_next hb d0, cell_next hb d1, cell_next hb d2⟩)
          clear hOwn hSame
          go_upto_region 30 with fail
          go_cut [4] (fun s4 wx => s4 = .bool true ∧ Below w7.heap.size w7 wx)
          case first =>
            go_region_held3 (fun W => (W.cell? ⟨Y, 0, none⟩ = some (.int .i64 m) ∧ W.cell? ⟨Y, 1, none⟩ = some (.slice p1 S2.edges.length q1) ∧ W.cell? ⟨Y, 2, none⟩ = some (.slice p2 S2.sizes.length q2)) ∧ W.cell? ⟨w.heap.size, 0, none⟩ = some (.int .i64 m) ∧ W.cell? ⟨w.heap.size, 1, none⟩ = some (.slice ae ls.length ce) ∧ W.cell? ⟨w.heap.size, 2, none⟩ = some (.slice az zs.length cz))
              (first | exact HKeep.out _ (later_refl _) | exact HKeep.out _ (later_drew _) | exact HKeep.out _ hbQ | exact HKeep.out _ hbP | assumption)
              (first
                | (go_at_call 27; have hq := hbP; refine (HOS.out.2.1 _ _ _ hbP hS3).mono ?_; rintro e wQ ⟨rfl, hQ1⟩; have hbQ : Below w7.heap.size w7 wQ := (later_trans hbP hQ1))
                | (go_at_call 10; refine (HOS.out.1 _ (later_drew _)).mono ?_; rintro e wP ⟨ev3, sv3, rfl, hS3, hP1⟩; have hbP : Below w7.heap.size w7 wP := (later_trans (later_drew _) hP1)))
            all_goals (go_wp2_with fail)
            all_goals go_meet
            all_goals exact ⟨rfl, hbQ⟩
          case rest =>
            obtain ⟨rfl, hbx⟩ := hcut
            have HE := Lib.hid (later_trans HOS.out.2.2 hbx)
            clear hbx
            go_wp2_with fail
            go_ret
            exact ⟨rfl, HE.out⟩
        · have HT := Lib.hid (HTL.out.later HB7.out)
          obtain ⟨d0, d1, d2, -, -, -, lX⟩ := three_of HT.out.b2
          have hOwn : ∀ W, Below w7.heap.size w7 W → Calls Tryd.prog 10 #[shpV m (.slice ae ls.length ce) (.slice az zs.length cz)] W fun e w' => ∃ ev' sv', e = .returned (shpV m ev' sv') ∧ ShR w' ev' sv' S2 ∧ Below W.heap.size W w' := fun W hb1 =>
            (own_any ⟨m, ls, zs⟩ _ _ W (H.out.1.later (later_trans HT.out.bel hb1))).mono (by rintro e w' ⟨ev', sv', rfl, hS', hb'⟩; rw [← HM.out.2] at hS'; exact ⟨ev', sv', rfl, hS'.shR, hb'⟩)
          have hSame : ∀ W ev' sv', Below w7.heap.size w7 W → ShR W ev' sv' S2 → Calls Tryd.prog 27 #[shpV m (.slice p1 S2.edges.length q1) (.slice p2 S2.sizes.length q2), shpV m ev' sv'] W fun e w' => e = .returned (.bool true) ∧ Below W.heap.size W w' := fun W ev' sv' hb1 hS' => by
            have := same_any S2 _ _ ev' sv' W (HT.out.own.later hb1) hS'
            rw [HM.out.1] at this
            exact this
          have HOS := Lib.hid (And.intro hOwn (And.intro hSame HT.out.bel))
          have HKeep : Hid (∀ W, Below w7.heap.size w7 W → (W.cell? ⟨Y, 0, none⟩ = some (.int .i64 m) ∧ W.cell? ⟨Y, 1, none⟩ = some (.slice p1 S2.edges.length q1) ∧ W.cell? ⟨Y, 2, none⟩ = some (.slice p2 S2.sizes.length q2)) ∧ W.cell? ⟨w.heap.size, 0, none⟩ = some (.int .i64 m) ∧ W.cell? ⟨w.heap.size, 1, none⟩ = some (.slice ae ls.length ce) ∧ W.cell? ⟨w.heap.size, 2, none⟩ = some (.slice az zs.length cz)) := Lib.hid (fun W hb => ⟨⟨cell_next hb c0, cell_next hb c1, cell_next hb c2⟩, cell_next hb d0, cell_next hb d1, cell_next hb d2⟩)
          clear hOwn hSame
          go_upto_region 30 with fail
          go_cut [4] (fun s4 wx => s4 = .bool true ∧ Below w7.heap.size w7 wx)
          case first =>
            go_region_held3 (fun W => (W.cell? ⟨Y, 0, none⟩ = some (.int .i64 m) ∧ W.cell? ⟨Y, 1, none⟩ = some (.slice p1 S2.edges.length q1) ∧ W.cell? ⟨Y, 2, none⟩ = some (.slice p2 S2.sizes.length q2)) ∧ W.cell? ⟨w.heap.size, 0, none⟩ = some (.int .i64 m) ∧ W.cell? ⟨w.heap.size, 1, none⟩ = some (.slice ae ls.length ce) ∧ W.cell? ⟨w.heap.size, 2, none⟩ = some (.slice az zs.length cz))
              (first | exact HKeep.out _ (later_refl _) | exact HKeep.out _ (later_drew _) | exact HKeep.out _ hbQ | exact HKeep.out _ hbP | assumption)
              (first
                | (go_at_call 27; have hq := hbP; refine (HOS.out.2.1 _ _ _ hbP hS3).mono ?_; rintro e wQ ⟨rfl, hQ1⟩; have hbQ : Below w7.heap.size w7 wQ := (later_trans hbP hQ1))
                | (go_at_call 10; refine (HOS.out.1 _ (later_drew _)).mono ?_; rintro e wP ⟨ev3, sv3, rfl, hS3, hP1⟩; have hbP : Below w7.heap.size w7 wP := (later_trans (later_drew _) hP1)))
            all_goals (go_wp2_with fail)
            all_goals go_meet
            all_goals exact ⟨rfl, hbQ⟩
          case rest =>
            obtain ⟨rfl, hbx⟩ := hcut
            have HE := Lib.hid (later_trans HOS.out.2.2 hbx)
            clear hbx
            go_wp2_with fail
            go_ret
            exact ⟨rfl, HE.out⟩
        · have hR2 := HB.out.2.1 HW2.out.2 (by rw [← HM.out.1]; exact hbd) w7 HB7.out
          rw [← hbx] at hR2
          have HR2 := Lib.hid hR2
          clear hR2 hbx hbd
          go_wp2_with fail
          refine HR2.out.mono ?_
          rintro e w8 ⟨rfl, hb8⟩
          have HT := Lib.hid (HTL.out.later (later_trans HB7.out hb8))
          clear hb8 c0 c1 c2 lY
          obtain ⟨c0, c1, c2, -, -, -, lY⟩ := three_of HT.out.b5
          obtain ⟨d0, d1, d2, -, -, -, lX⟩ := three_of HT.out.b2
          have hOwn : ∀ W, Below w8.heap.size w8 W → Calls Tryd.prog 10 #[shpV m (.slice ae ls.length ce) (.slice az zs.length cz)] W fun e w' => ∃ ev' sv', e = .returned (shpV m ev' sv') ∧ ShR w' ev' sv' S2 ∧ Below W.heap.size W w' := fun W hb1 =>
            (own_any ⟨m, ls, zs⟩ _ _ W (H.out.1.later (later_trans HT.out.bel hb1))).mono (by rintro e w' ⟨ev', sv', rfl, hS', hb'⟩; rw [← HM.out.2] at hS'; exact ⟨ev', sv', rfl, hS'.shR, hb'⟩)
          have hSame : ∀ W ev' sv', Below w8.heap.size w8 W → ShR W ev' sv' S2 → Calls Tryd.prog 27 #[shpV m (.slice p1 S2.edges.length q1) (.slice p2 S2.sizes.length q2), shpV m ev' sv'] W fun e w' => e = .returned (.bool true) ∧ Below W.heap.size W w' := fun W ev' sv' hb1 hS' => by
            have := same_any S2 _ _ ev' sv' W (HT.out.own.later hb1) hS'
            rw [HM.out.1] at this
            exact this
          have HOS := Lib.hid (And.intro hOwn (And.intro hSame HT.out.bel))
          have HKeep : Hid (∀ W, Below w8.heap.size w8 W → (W.cell? ⟨Y, 0, none⟩ = some (.int .i64 m) ∧ W.cell? ⟨Y, 1, none⟩ = some (.slice p1 S2.edges.length q1) ∧ W.cell? ⟨Y, 2, none⟩ = some (.slice p2 S2.sizes.length q2)) ∧ W.cell? ⟨w.heap.size, 0, none⟩ = some (.int .i64 m) ∧ W.cell? ⟨w.heap.size, 1, none⟩ = some (.slice ae ls.length ce) ∧ W.cell? ⟨w.heap.size, 2, none⟩ = some (.slice az zs.length cz)) := Lib.hid (fun W hb => ⟨⟨cell_next hb c0, cell_next hb c1, cell_next hb c2⟩, cell_next hb d0, cell_next hb d1, cell_next hb d2⟩)
          have hbb : (bx == bx) = true := beq_self_eq_true bx
          clear hOwn hSame
          go_upto_region 30 with fail
          go_cut [4] (fun s4 wx => s4 = .bool true ∧ Below w8.heap.size w8 wx)
          case first =>
            go_region_held3 (fun W => (W.cell? ⟨Y, 0, none⟩ = some (.int .i64 m) ∧ W.cell? ⟨Y, 1, none⟩ = some (.slice p1 S2.edges.length q1) ∧ W.cell? ⟨Y, 2, none⟩ = some (.slice p2 S2.sizes.length q2)) ∧ W.cell? ⟨w.heap.size, 0, none⟩ = some (.int .i64 m) ∧ W.cell? ⟨w.heap.size, 1, none⟩ = some (.slice ae ls.length ce) ∧ W.cell? ⟨w.heap.size, 2, none⟩ = some (.slice az zs.length cz))
              (first | exact HKeep.out _ (later_refl _) | exact HKeep.out _ (later_drew _) | exact HKeep.out _ hbQ | exact HKeep.out _ hbP | assumption)
              (first
                | (go_at_call 27; have hq := hbP; refine (HOS.out.2.1 _ _ _ hbP hS3).mono ?_; rintro e wQ ⟨rfl, hQ1⟩; have hbQ : Below w8.heap.size w8 wQ := (later_trans hbP hQ1))
                | (go_at_call 10; refine (HOS.out.1 _ (later_drew _)).mono ?_; rintro e wP ⟨ev3, sv3, rfl, hS3, hP1⟩; have hbP : Below w8.heap.size w8 wP := (later_trans (later_drew _) hP1)))
            all_goals (go_wp2_with fail)
            all_goals go_meet
            all_goals exact ⟨rfl, hbQ⟩
          case rest =>
            obtain ⟨rfl, hbx⟩ := hcut
            have HE := Lib.hid (later_trans HOS.out.2.2 hbx)
            clear hbx
            go_wp2_with fail
            go_ret
            exact ⟨rfl, HE.out⟩
        -- E]
end Go.Proofs.YtdmfhlfhlflakaaDoor
