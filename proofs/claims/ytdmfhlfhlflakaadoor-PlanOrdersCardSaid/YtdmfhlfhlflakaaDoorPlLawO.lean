/-
  The law PlanOrders, walked.
-/
import Derived.Test.YtdmfhlfhlflakaaDoorPlFew
namespace Go.Proofs.YtdmfhlfhlflakaaDoor
open Go.RowKit Go.Shelf
set_option linter.unusedVariables false
set_option linter.unusedSimpArgs false

/-- What stands while the law goes on. -/
structure OrW (w : World) (m : Int) (ev sv ev2 sv2 : Value) (S2 : Shp) (Y : Nat) (W : World) : Prop where
  bel : Below w.heap.size w W
  b2 : SB W w.heap.size m ev sv
  b5 : SB W Y m ev2 sv2
  own : ShR W ev2 sv2 S2
theorem OrW.later {w W W' : World} {m : Int} {ev sv ev2 sv2 : Value} {S2 : Shp} {Y : Nat} (h : OrW w m ev sv ev2 sv2 S2 Y W) (hb : Below W.heap.size W W') : OrW w m ev sv ev2 sv2 S2 Y W' :=
  ⟨later_trans h.bel hb, kept hb h.b2, kept hb h.b5, h.own.later hb⟩
theorem owns_someO {w : World} {base : Nat} {e : TypeId} {v : Value} {n : Nat} {xs : List Value} (h : w.ownsRow base e 1 v n xs) (h0 : 0 < n) : ∃ g c, v = .slice (some ⟨g, 0, none⟩) n c ∧ base ≤ g := by
  obtain ⟨j, rfl⟩ : ∃ j, n = j + 1 := ⟨n - 1, by omega⟩
  obtain ⟨g, c, rfl⟩ := ownsRow_succ h
  exact ⟨g, c, rfl, owns_above h g rfl⟩
theorem owns_lt {w : World} {base : Nat} {e : TypeId} {g n c : Nat} {xs : List Value} (h : w.ownsRow base e 1 (.slice (some ⟨g, 0, none⟩) n c) n xs) : g < w.heap.size := (h.lt g rfl).2
theorem few_len (hs : List (List Int)) : (fewL hs ++ [[]]).length ≤ 6 := by
  unfold fewL
  simp only [List.length_append, List.length_map, List.length_take, List.length_cons, List.length_nil]
  omega
theorem few_row (hs : List (List Int)) {k : Nat} (h : k < (fewL hs ++ [[]]).length) : (rowN (fewL hs ++ [[]]) k).length ≤ 34 := by
  have hm := rowN_mem h
  rcases List.mem_append.1 hm with h1 | h1
  · obtain ⟨o, -, e⟩ := List.mem_map.1 (show rowN (fewL hs ++ [[]]) k ∈ (hs.take 5).map fun o => o.take 34 from h1)
    rw [← e, List.length_take]
    omega
  · obtain e := List.mem_singleton.1 h1
    rw [e]
    simp

/-- What the inner loop keeps: the elements from j on are as they were; the copy is. -/
structure InW (w0 : World) (B2 : Nat) (ov wv : Value) (no : Nat) (o : List Int) (j : Nat) (W : World) : Prop where
  bel : Below w0.heap.size w0 W
  row : ∃ xs : List Int, xs.length = no ∧ W.ownsRow w0.heap.size 3 1 ov no (xs.map (.int .i64)) ∧ ∀ q, j ≤ q → q < no → -1 ≤ xs.getD q 0 ∧ xs.getD q 0 ≤ 32
  was : W.ownsRow B2 3 1 wv o.length (o.map (.int .i64))
theorem InW.next {w0 W : World} {B2 g no c j : Nat} {wv : Value} {o xs : List Int} {x : Int} (h : InW w0 B2 (.slice (some ⟨g, 0, none⟩) no c) wv no o j W) (hl : xs.length = no) (ho : W.ownsRow w0.heap.size 3 1 (.slice (some ⟨g, 0, none⟩) no c) no (xs.map (.int .i64))) (hx : ∀ q, j ≤ q → q < no → -1 ≤ xs.getD q 0 ∧ xs.getD q 0 ≤ 32) (hg : w0.heap.size ≤ g) (hgB : g < B2) :
    InW w0 B2 (.slice (some ⟨g, 0, none⟩) no c) wv no o (j + 1) (W.setCell ⟨g, j, none⟩ (.int .i64 x)) := by
  refine ⟨below_set h.bel hg, ⟨xs.set j x, by simpa using hl, ?_, fun q h1 h2 => ?_⟩, owns_setB h.was hgB _⟩
  · have := owns_set (j := j) ho (.int .i64 x)
    rw [← List.map_set] at this
    exact this
  · have := hx q (by omega) h2
    have e : (xs.set j x).getD q 0 = xs.getD q 0 := by
      simp only [List.getD, List.getElem?_set_ne (show j ≠ q by omega)]
    rw [e]; exact this

set_option maxRecDepth 100000 in
set_option maxHeartbeats 8000000 in
theorem planOrders_any (S : Shp) (hs : List (List Int)) (ev sv hv : Value) (w : World) (h : ShR w ev sv S) (hh : SlRK .i64 w hv hs) (hO : One w) :
    Calls Tryd.prog 4 #[shpV S.many ev sv, hv] w fun e w' => e = .returned (.bool true) ∧ Below w.heap.size w w' := by
  obtain ⟨S2, hS2⟩ : ∃ S2, S2 = ownS S := ⟨_, rfl⟩
  have hm2 : S2.many = S.many := by rw [hS2]; rfl
  obtain ⟨m, ls, zs⟩ := S
  simp only at hm2 ⊢
  have H := Lib.hid (And.intro h (And.intro hh hO))
  have HM := Lib.hid (And.intro hm2 hS2)
  obtain ⟨ae, ce, rfl, -⟩ := h.edges.open
  obtain ⟨az, cz, rfl, -⟩ := h.sizes.open
  obtain ⟨ah, ch, rfl, -⟩ := hh.open
  simp only at H ⊢
  clear h hh hO hm2 hS2
  go_enter Tryd.func4, Tryd.ntmps4
  have H0 := Lib.hid (And.intro (box_new w #[.int .i64 m, .slice ae ls.length ce, .slice az zs.length cz] 27) (later_alloc w (.cells #[.int .i64 m, .slice ae ls.length ce, .slice az zs.length cz] 27)))
  go_wp2_with fail
  refine (wakes_any _ (H.out.2.2.later H0.out.2)).mono ?_
  rintro e w1 ⟨rfl, hb1⟩
  have H1 := Lib.hid (And.intro (kept hb1 H0.out.1) (later_trans H0.out.2 hb1))
  obtain ⟨c0, c1, c2, f0, f1, f2, lN⟩ := three_of H1.out.1
  clear hb1
  go_wp2_with fail
  refine (own_any ⟨m, ls, zs⟩ _ _ _ (H.out.1.later H1.out.2)).mono ?_
  rintro e w2 ⟨ev2, sv2, rfl, hS2, hb2⟩
  rw [← HM.out.2] at hS2
  have hb2' := later_trans hb2 (later_alloc w2 (.cells #[.int .i64 m, ev2, sv2] 27))
  have hW2 : OrW w m (.slice ae ls.length ce) (.slice az zs.length cz) ev2 sv2 S2 w2.heap.size (w2.alloc (.cells #[.int .i64 m, ev2, sv2] 27)) :=
    ⟨later_trans H1.out.2 hb2', kept hb2' H1.out.1, box_new w2 _ _, (hS2.later (later_alloc w2 (.cells #[.int .i64 m, ev2, sv2] 27))).shR⟩
  obtain ⟨p1, q1, rfl, -⟩ := hS2.shR.edges.open
  obtain ⟨p2, q2, rfl, -⟩ := hS2.shR.sizes.open
  clear hb2 hb2' hS2 c0 c1 c2 f0 f1 f2
  go_upto_region 4 with fail
  obtain ⟨W2, hw2⟩ : ∃ W, w2.alloc (.cells #[.int .i64 m, .slice p1 S2.edges.length q1, .slice p2 S2.sizes.length q2] 27) = W := ⟨_, rfl⟩
  rw [hw2] at hW2
  try rw [hw2]
  obtain ⟨Y, hY⟩ : ∃ Y, w2.heap.size = Y := ⟨_, rfl⟩
  rw [hY] at hW2 ⊢
  obtain ⟨c0, c1, c2, -, -, -, lY⟩ := three_of hW2.b5
  have hR := Right22_any S2 _ _ W2 hW2.own
  have hCk := fun W (hb : Below W2.heap.size W2 W) => Check_any S2 _ _ W (hW2.own.later hb)
  rw [HM.out.1] at hR hCk
  obtain ⟨ok, hok⟩ : ∃ ok, shpB S2 = ok := ⟨_, rfl⟩
  obtain ⟨e0, he0⟩ : ∃ e0 : Int, (if shpB S2 = true then 0 else 320) = e0 := ⟨_, rfl⟩
  have hE0 : (ok = true ∧ e0 = 0) ∨ (ok = false ∧ e0 = 320) := by
    rw [hok] at he0
    cases ok with
    | true => exact .inl ⟨rfl, he0.symm⟩
    | false => exact .inr ⟨rfl, he0.symm⟩
  simp only [he0] at hCk
  rw [hok] at hR
  have HR := Lib.hid (And.intro hR hCk)
  have HW2 := Lib.hid (And.intro hW2 (And.intro hok hE0))
  clear hR hCk hW2 hok hE0 he0 hw2 hY
  go_wp2_with fail
  refine HR.out.1.mono ?_
  rintro e w4 ⟨rfl, hb4⟩
  obtain ⟨c0, c1, c2, -, -, -, lY⟩ := three_of (kept hb4 HW2.out.1.b5)
  have HB4 := Lib.hid hb4
  clear hb4
  go_wp2_with fail
  refine (HR.out.2 _ HB4.out).mono ?_
  rintro e w5 ⟨rfl, hb5⟩
  have hW5 := HW2.out.1.later (later_trans HB4.out hb5)
  have H5 := Lib.hid (And.intro hW5 HW2.out.2)
  clear hb5 hW5 c0 c1 c2
  go_upto_region 6 with fail
  go_cut [40] (fun s40 wx => s40 = .bool false ∧ wx = w5)
  case first =>
    rcases H5.out.2.2 with ⟨rfl, rfl⟩ | ⟨rfl, rfl⟩
    · go_wp2_with fail
      go_meet
      exact ⟨rfl, rfl⟩
    · go_wp2_with fail
      go_meet
      exact ⟨rfl, rfl⟩
  case rest =>
    obtain ⟨rfl, rfl⟩ := hcut
    go_wp2_with fail
    go_loopw [8] (fun i wr => ∃ k : Nat, k ≤ 35 ∧ i = .int .i64 ((k : Int) - 1) ∧ Below wc.heap.size wc wr) (fun i _ => (34 - intOf i).toNat)
    case atStart => exact ⟨0, by omega, rfl, later_refl _⟩
    case round =>
      obtain ⟨k, hk, rfl, hb⟩ := hrel
      obtain ⟨v, hv⟩ : ∃ v : Int, (k : Int) - 1 = v := ⟨_, rfl⟩
      rw [hv]
      have hvb : -1 ≤ v ∧ v ≤ 34 := by omega
      have HV := Lib.hid hv
      have HB := Lib.hid hb
      have hW := H5.out.1.later hb
      clear hv hb
      by_cases hlt : v < 34
      · -- [A
        obtain ⟨c0, c1, c2, -, -, -, lY⟩ := three_of hW.b5
        have hSz := Size_any S2 _ _ v wr hW.own
        have hSr : shpB S2 = true → ∀ W, Below wr.heap.size wr W → Calls Tryd.prog 20 #[shpV S2.many (.slice p1 S2.edges.length q1) (.slice p2 S2.sizes.length q2), .int .i64 v] W fun e w' => e = .returned (.int .i64 (refS S2 v)) ∧ Below W.heap.size W w' := fun h1 W hb => Size22_any S2 _ _ v W (hW.own.later hb) h1
        rw [HM.out.1] at hSz hSr
        have HSr := Lib.hid hSr
        have HW := Lib.hid hW
        have hwv : IntKind.i64.wrap (v + 1) = v + 1 := wrap_i64 (by omega) (by omega)
        clear hW hSr
        cases ok with
        | false =>
          rw [H5.out.2.1, if_neg (by decide)] at hSz
          have HSz := Lib.hid hSz
          clear hSz
          go_wp2_with fail
          refine HSz.out.mono ?_
          rintro e w6 ⟨rfl, hb6⟩
          have HB6 := Lib.hid (later_trans HB.out hb6)
          clear hb6
          simp only [sizeV, Option.getD_none, Option.isSome_none]
          go_wp2_with fail
          go_roundw
          case rel => first | exact ⟨k + 1, by have := HV.out; omega, by have := HV.out; congr 1; push_cast; omega, HB6.out⟩ | ((repeat apply Exists.intro); refine ⟨?_, rfl⟩; exact ⟨k + 1, by have := HV.out; omega, by have := HV.out; congr 1; push_cast; omega, HB6.out⟩)
          case measure => simp [intOf]; omega
        | true =>
          rw [H5.out.2.1, if_pos rfl] at hSz
          have hs1 := HSr.out H5.out.2.1
          cases hq : sizeO S2 v with
          | none =>
            rw [hq] at hSz
            simp only [refS, hq, Option.getD_none] at hs1
            have HSz := Lib.hid (And.intro hSz hs1)
            clear hSz hs1 hq
            go_wp2_with fail
            refine HSz.out.1.mono ?_
            rintro e w6 ⟨rfl, hb6⟩
            obtain ⟨c0, c1, c2, -, -, -, lY⟩ := three_of (kept hb6 HW.out.b5)
            have HB6 := Lib.hid hb6
            clear hb6
            simp only [sizeV, Option.getD_none, Option.isSome_none]
            go_wp2_with fail
            refine (HSz.out.2 _ HB6.out).mono ?_
            rintro e w7 ⟨rfl, hb7⟩
            have HB7 := Lib.hid (later_trans HB.out (later_trans HB6.out hb7))
            clear hb7
            go_wp2_with fail
            go_roundw
            case rel => first | exact ⟨k + 1, by have := HV.out; omega, by have := HV.out; congr 1; push_cast; omega, HB7.out⟩ | ((repeat apply Exists.intro); refine ⟨?_, rfl⟩; exact ⟨k + 1, by have := HV.out; omega, by have := HV.out; congr 1; push_cast; omega, HB7.out⟩)
            case measure => simp [intOf]; omega
          | some q =>
            have hq0 := sizeO_le H5.out.2.1 hq
            rw [hq] at hSz
            simp only [refS, hq, Option.getD_some] at hs1
            have HSz := Lib.hid (And.intro hSz hs1)
            clear hSz hs1 hq
            go_wp2_with fail
            refine HSz.out.1.mono ?_
            rintro e w6 ⟨rfl, hb6⟩
            obtain ⟨c0, c1, c2, -, -, -, lY⟩ := three_of (kept hb6 HW.out.b5)
            have HB6 := Lib.hid hb6
            clear hb6
            simp only [sizeV, Option.getD_some, Option.isSome_some]
            go_wp2_with fail
            refine (HSz.out.2 _ HB6.out).mono ?_
            rintro e w7 ⟨rfl, hb7⟩
            have HB7 := Lib.hid (later_trans HB.out (later_trans HB6.out hb7))
            have hqn : ¬ q < 0 := by omega
            have hqp : 0 ≤ q := hq0.1
            clear hb7
            go_wp2_with fail
            go_roundw
            case rel => first | exact ⟨k + 1, by have := HV.out; omega, by have := HV.out; congr 1; push_cast; omega, HB7.out⟩ | ((repeat apply Exists.intro); refine ⟨?_, rfl⟩; exact ⟨k + 1, by have := HV.out; omega, by have := HV.out; congr 1; push_cast; omega, HB7.out⟩)
            case measure => simp [intOf]; omega
        -- A]
      · have HW := Lib.hid hW
        have HFw := Lib.hid (few_any _ hs wr (H.out.2.1.later hW.bel))
        clear hW
        obtain ⟨i0, hi, hz0, hz1, hz2⟩ := info_parts info_rowI
        go_wp2_with fail
        refine HFw.out.mono ?_
        rintro e w6 ⟨fv, ps, rfl, hOw, hps, hb6⟩
        obtain ⟨av, cv, rfl⟩ := owns_shape2 hOw.own
        have hpl : ps.length ≤ 5 := by
          have := congrArg List.length hps
          unfold fewL at this
          rw [List.length_map, List.length_map, List.length_take] at this
          omega
        have hO6 := hOw.own
        have hs6 := hb6.size
        have HO6 := Lib.hid (And.intro hOw (And.intro hps hb6))
        clear hOw hps hb6
        go_wp2_with (at_builtin; refine wpList_append_own _ rfl (.tmp 66) (.tmp 67) 22 rfl wr.heap.size 25 i0 _ 1 24 Tryd.underlying22 hi hz0 hz1 hz2 rfl (by decide) _ _ _ rfl (hO6.alloc _) ⟨w6.heap.size, 0, none⟩ 1 1 [.slice none 0 0] rfl rfl (cells_new _ _ _) (by simp [Value.oneCell']) (by unfold maxLen; omega) (by omega) (by simp; omega) ?_; intro v7 w7 hown7 hgrow7 _; obtain ⟨g7, cap7, rfl⟩ := ownsRow_succ hown7)
        have hN := OwnR.next (xs := []) HO6.out.1 (later_refl w6) (World.ownsRow_nil _ _ _ _) rfl (fun x hx => by cases hx) hown7 hgrow7
        have hA := later_trans HO6.out.2.2 (later_alloc w6 (.cells #[.slice none 0 0] 25))
        have hb7 := hA.grown hgrow7 hA.size (fun k e => owns_above hO6 k e)
        obtain ⟨hl, hhl⟩ : ∃ hl, fewL hs ++ [[]] = hl := ⟨_, rfl⟩
        have hsl := hN.slR
        rw [List.map_append, HO6.out.2.1, show [((Value.slice none 0 0 : Value), ([] : List Int))].map Prod.snd = [[]] from rfl, hhl] at hsl
        have hll := few_len hs
        have hlr : ∀ k, k < hl.length → (rowN hl k).length ≤ 34 := fun k hk => by rw [← hhl] at hk ⊢; exact few_row hs hk
        rw [hhl] at hll
        have hn7 : ps.length + 1 = hl.length := by
          obtain ⟨_, _, e, -⟩ := hsl.open
          injection e with _ e _
        have hn7i : ((ps.length : Int) + 1) = (hl.length : Int) := by omega
        rw [hn7] at hsl ⊢
        rw [hn7i]
        have HW7 := Lib.hid (And.intro (HW.out.later hb7) (And.intro hsl hlr))
        clear hN hA hown7 hgrow7 hO6 hb7 hsl hhl hlr hn7 hn7i hpl hs6
        go_wp2_with fail
        go_loopw [70] (fun i wr => ∃ k : Nat, k ≤ hl.length ∧ i = .int .i64 k ∧ Below w7.heap.size w7 wr) (fun i _ => hl.length - (intOf i).toNat)
        case atStart => exact ⟨0, Nat.zero_le _, rfl, later_refl _⟩
        case round =>
          rename_i wr2
          obtain ⟨k, hk, rfl, hb⟩ := hrel
          by_cases hlt : k < hl.length
          · -- [B
            obtain ⟨_, _, e1, _, _, _, f4⟩ := (HW7.out.2.1.later hb).open
            obtain ⟨b, o, e2, hbw, fc⟩ := f4 (by omega)
            injection e1 with e1a e1b e1c
            subst e1a
            subst e1c
            injection e2 with e2
            injection e2 with e2a e2b
            subst e2a
            subst e2b
            obtain ⟨rv, c9, hrv⟩ := fc k hlt
            rw [Nat.zero_add] at c9
            obtain ⟨o, ho⟩ : ∃ o, rowN hl k = o := ⟨_, rfl⟩
            rw [ho] at hrv
            have hol : o.length ≤ 34 := by rw [← ho]; exact HW7.out.2.2 k hlt
            have hW := HW7.out.1.later hb
            obtain ⟨c0, c1, c2, -, -, -, lY⟩ := three_of hW.b5
            have hOrd := Order_any S2 _ _ rv o wr hW.own hrv
            rw [HM.out.1] at hOrd
            have HOr := Lib.hid hOrd
            have HK := Lib.hid (And.intro hW (And.intro hrv (And.intro hb hlt)))
            obtain ⟨ar, cr, rfl, -⟩ := hrv.open
            clear hOrd hW hrv hb fc f4 e1b ho
            go_wp2_with fail
            refine HOr.out.mono ?_
            rintro e w8 ⟨ov, rfl, hov, hb8⟩
            obtain ⟨e1, he1⟩ : ∃ e1, ordE S2 o = e1 := ⟨_, rfl⟩
            obtain ⟨os, hos⟩ : ∃ os, ordL S2 o = os := ⟨_, rfl⟩
            have hosb := ordL_bound S2 o
            have hosl := ordL_len S2 o
            have hosw := ordL_wf S2 o
            rw [hos] at hov hosb hosl hosw
            rw [he1]
            obtain ⟨ao, co, rfl⟩ := owns_shape2 hov
            have hW8 := HK.out.1.later hb8
            obtain ⟨c0, c1, c2, -, -, -, lY⟩ := three_of hW8.b5
            have HO8 := Lib.hid (And.intro hov (And.intro hb8 (And.intro hW8 (And.intro he1 (And.intro hos (And.intro hosb hosw))))))
            clear hov hb8 hW8 he1 hos hosb hosw c9
            obtain ⟨q, hq0⟩ : ∃ q, (shpB S2 && ordersB S2.many o) = q := ⟨_, rfl⟩
            have HQ := Lib.hid hq0
            clear hq0
            go_upto_if 80 with fail
            go_cut [16, 17, 18] (fun s16 s17 s18 wx => (∃ a c, s16 = .slice a os.length c) ∧ SlI .i64 wx s16 os ∧ s17 = .int .i64 e1 ∧ s18 = .bool q ∧ Below w8.heap.size w8 wx)
            case first =>
              -- [C
              rcases H5.out.2 with ⟨hok, ⟨rfl, -⟩ | ⟨rfl, -⟩⟩
              · have hrf := Orders22_any S2.many (.slice p1 S2.edges.length q1) (.slice p2 S2.sizes.length q2) (.slice ar o.length cr) o w8 ⟨_, _, _, rfl⟩ ⟨_, _, _, rfl⟩ (HK.out.2.1.later HO8.out.2.1)
                have hq : ordersB S2.many o = q := by have h1 := HQ.out; rw [hok, Bool.true_and] at h1; exact h1
                rw [hq, HM.out.1] at hrf
                have HRf := Lib.hid hrf
                by_cases h0 : o.length = 0
                · have hE : e1 = 0 := by rw [← HO8.out.2.2.2.1]; unfold ordE; rw [if_pos hok, if_pos h0]
                  have hLs : os = chosenTo S2 S2.many.toNat := by rw [← HO8.out.2.2.2.2.1]; unfold ordL; rw [if_pos hok, if_pos h0]
                  have hch := fun W (hb : Below w8.heap.size w8 W) => Chosen_any S2 _ _ W (HO8.out.2.2.1.own.later hb) hok
                  rw [← hLs, HM.out.1] at hch
                  have HCh := Lib.hid hch
                  subst hE
                  have hlen : ((o.length : Int) == 0) = true := by rw [h0]; rfl
                  have hlen2 : (o.length == 0) = true := by rw [h0]; rfl
                  clear hrf hq hok hLs hch h0
                  go_wp2_with fail
                  refine HRf.out.mono ?_
                  rintro e w9 ⟨rfl, hb9⟩
                  obtain ⟨c0, c1, c2, -, -, -, lY⟩ := three_of (kept hb9 HO8.out.2.2.1.b5)
                  have HB9 := Lib.hid hb9
                  clear hb9
                  go_wp2_with fail
                  refine (HCh.out _ HB9.out).mono ?_
                  rintro e w10 ⟨cv', rfl, hcv, hb10⟩
                  obtain ⟨ac, cc, rfl⟩ := owns_shape2 hcv
                  have HC10 := Lib.hid (And.intro hcv (later_trans HB9.out hb10))
                  clear hcv hb10
                  go_wp2_with fail
                  go_meet
                  exact ⟨⟨_, _, rfl⟩, SlI.of_owns HC10.out.1 HO8.out.2.2.2.2.2.2, rfl, rfl, HC10.out.2⟩
                · have hlen : ((o.length : Int) == 0) = false := by rw [beq_eq_false_iff_ne]; omega
                  have hlen2 : (o.length == 0) = false := by rw [beq_eq_false_iff_ne]; exact h0
                  cases q with
                  | true =>
                    have hE : e1 = 0 := by rw [← HO8.out.2.2.2.1]; unfold ordE; rw [if_pos hok, if_neg h0, if_pos hq]
                    have hLs : os = o := by rw [← HO8.out.2.2.2.2.1]; unfold ordL; rw [if_pos hok, if_neg h0, if_pos hq]
                    subst hE
                    have HLs := Lib.hid hLs
                    clear hrf hq hok h0 hLs
                    go_wp2_with fail
                    refine HRf.out.mono ?_
                    rintro e w9 ⟨rfl, hb9⟩
                    have HB9 := Lib.hid hb9
                    clear hb9
                    go_wp2_with fail
                    go_meet
                    exact ⟨⟨_, _, by rw [HLs.out]⟩, by rw [HLs.out]; exact HK.out.2.1.later (later_trans HO8.out.2.1 HB9.out), rfl, rfl, HB9.out⟩
                  | false =>
                    have hE : e1 = 2 := by rw [← HO8.out.2.2.2.1]; unfold ordE; rw [if_pos hok, if_neg h0, if_neg (by rw [hq]; decide)]
                    have hLs : os = [] := by rw [← HO8.out.2.2.2.2.1]; unfold ordL; rw [if_pos hok, if_neg h0, if_neg (by rw [hq]; decide)]
                    subst hE
                    subst hLs
                    clear hrf hq hok h0
                    go_wp2_with fail
                    refine HRf.out.mono ?_
                    rintro e w9 ⟨rfl, hb9⟩
                    have HB9 := Lib.hid hb9
                    clear hb9
                    go_wp2_with fail
                    go_meet
                    exact ⟨⟨_, _, rfl⟩, SlI.nil _ _, rfl, rfl, HB9.out⟩
              · have hE : e1 = 320 := by rw [← HO8.out.2.2.2.1]; unfold ordE; rw [if_neg (by rw [hok]; decide)]
                have hLs : os = [] := by rw [← HO8.out.2.2.2.2.1]; unfold ordL; rw [if_neg (by rw [hok]; decide)]
                subst hE
                subst hLs
                obtain rfl : q = false := by have h1 := HQ.out; rw [hok, Bool.false_and] at h1; exact h1.symm
                clear hok
                go_wp2_with fail
                go_meet
                exact ⟨⟨_, _, rfl⟩, SlI.nil _ _, rfl, rfl, later_refl _⟩
              -- C]
            case rest =>
              obtain ⟨⟨aw, cw, rfl⟩, hwn, rfl, rfl, hbx⟩ := hcut
              -- [D
              have hov := owns_later HO8.out.1 hbx
              have hEq := equalI_any (.slice ao os.length co) (.slice aw os.length cw) os os wc (SlI.of_owns hov HO8.out.2.2.2.2.2.2) hwn
              rw [decide_eq_true rfl] at hEq
              have hPo := fun W (hb : Below w8.heap.size w8 W) => planOrders1_any S2 _ _ (.slice ar o.length cr) o W (HO8.out.2.2.1.own.later hb) (HK.out.2.1.later (later_trans HO8.out.2.1 hb))
              rw [HQ.out, HM.out.1] at hPo
              have HPo := Lib.hid (And.intro hEq (And.intro hPo (And.intro hov hbx)))
              have hnn : (e1 != e1) = false := by simp
              have hqq : (q != q) = false := by simp
              clear hEq hPo hov hwn hbx c0 c1 c2
              go_wp2_with fail
              refine HPo.out.1.mono ?_
              rintro e w10 ⟨rfl, n10, hw10⟩
              have hb10 : Below w8.heap.size w8 w10 := later_trans HPo.out.2.2.2 (by rw [hw10]; exact later_drewN _ _)
              have ho10 : w10.ownsRow wr.heap.size 3 1 (.slice ao os.length co) os.length (os.map (.int .i64)) := owns_later HO8.out.1 hb10
              obtain ⟨c0, c1, c2, -, -, -, lY⟩ := three_of (HO8.out.2.2.1.later hb10).b5
              have HB10 := Lib.hid (And.intro hb10 ho10)
              clear hw10 hb10 ho10
              go_wp2_with fail
              refine (HPo.out.2.1 _ HB10.out.1).mono ?_
              rintro e w11 ⟨rfl, hb11⟩
              have h811 := later_trans HB10.out.1 hb11
              have HB11 := Lib.hid (And.intro h811 (owns_later HO8.out.1 h811))
              have hCln := cloneI_any _ o w11 (HK.out.2.1.later (later_trans HO8.out.2.1 h811)) (by omega)
              have HCln := Lib.hid hCln
              clear hb11 h811 hCln c0 c1 c2
              go_wp2_with fail
              refine HCln.out.mono ?_
              rintro e w12 ⟨clv, rfl, hcl, hb12⟩
              obtain ⟨al, cl, rfl⟩ := owns_shape2 hcl
              have hI0 : InW wr w11.heap.size (.slice ao os.length co) (.slice al o.length cl) os.length o 0 w12 :=
                ⟨later_trans HO8.out.2.1 (later_trans HB11.out.1 hb12), ⟨os, rfl, owns_later HB11.out.2 hb12, fun p _ hp => by rw [getD_at hp]; exact HO8.out.2.2.2.2.2.1 _ (List.getElem_mem hp)⟩, hcl⟩
              have HI := Lib.hid (And.intro hI0 (fun g (e : (Value.slice ao os.length co).ownBlock = some g) => (HB11.out.2.lt g e).2))
              clear hcl hb12 hI0
              go_wp2_with fail
              go_loopw [113] (fun i W => ∃ j : Nat, j ≤ os.length ∧ i = .int .i64 j ∧ InW wr w11.heap.size (.slice ao os.length co) (.slice al o.length cl) os.length o j W) (fun i _ => os.length - (intOf i).toNat)
              case atStart => exact ⟨0, Nat.zero_le _, rfl, HI.out.1⟩
              case round =>
                rename_i wq
                obtain ⟨j, hj, rfl, hI⟩ := hrel
                by_cases hjl : j < os.length
                · obtain ⟨xs, hxl, hrow, hxb⟩ := hI.row
                  obtain ⟨g, cg, e, hg⟩ := owns_someO hrow (by omega)
                  injection e with ea eb ec
                  subst ea
                  subst ec
                  have hgB := HI.out.2 g rfl
                  have hjx : j < xs.length := by omega
                  obtain ⟨x, hx⟩ : ∃ x, xs.getD j 0 = x := ⟨_, rfl⟩
                  have hxj := hxb j (Nat.le_refl _) hjl
                  rw [hx] at hxj
                  obtain ⟨cc, fc⟩ := owns_cell hrow (j := j) (u := .int .i64 x) (by rw [← hx, getD_at hjx]; simp [hjx])
                  have hwx : IntKind.i64.wrap (x + 1) = x + 1 := wrap_i64 (by omega) (by omega)
                  have hjI : (j : Int) < os.length := by omega
                  have HJ := Lib.hid (InW.next (x := x + 1) hI hxl hrow hxb hg hgB)
                  clear eb hI hrow hxb hxl hx hgB hg hjx
                  go_wp2_with fail
                  go_roundw
                  case rel => first | exact ⟨j + 1, by omega, by go_num, HJ.out⟩ | ((repeat apply Exists.intro); refine ⟨?_, rfl⟩; exact ⟨j + 1, by omega, by go_num, HJ.out⟩)
                  case measure => simp [intOf]; omega
                · obtain rfl : j = os.length := by omega
                  have hE2 := equalI_any (.slice ar o.length cr) (.slice al o.length cl) o o _ (HK.out.2.1.later hI.bel) (SlI.of_owns hI.was HK.out.2.1.2)
                  rw [decide_eq_true rfl] at hE2
                  have HE2 := Lib.hid (And.intro hE2 (later_trans HK.out.2.2.1 hI.bel))
                  clear hE2 hI
                  go_wp2_with fail
                  refine HE2.out.1.mono ?_
                  rintro e w14 ⟨rfl, n14, hw14⟩
                  have HB14 := Lib.hid (later_trans HE2.out.2 (show Below wr.heap.size wr w14 by rw [hw14]; exact later_drewN _ _))
                  clear hw14
                  go_wp2_with fail
                  go_roundw
                  case rel => first | exact ⟨k + 1, by omega, by go_num, HB14.out⟩ | ((repeat apply Exists.intro); refine ⟨?_, rfl⟩; exact ⟨k + 1, by omega, by go_num, HB14.out⟩)
                  case measure => simp [intOf]; omega
              -- D]
            -- B]
          · -- [E
            have hW := HW7.out.1.later hb
            obtain ⟨c0, c1, c2, -, -, -, lY⟩ := three_of hW.b5
            obtain ⟨d0, d1, d2, -, -, -, lX⟩ := three_of hW.b2
            have hOwn : ∀ W, Below wr.heap.size wr W → Calls Tryd.prog 10 #[shpV m (.slice ae ls.length ce) (.slice az zs.length cz)] W fun e w' => ∃ ev' sv', e = .returned (shpV m ev' sv') ∧ ShR w' ev' sv' S2 ∧ Below W.heap.size W w' := fun W hb1 =>
              (own_any ⟨m, ls, zs⟩ _ _ W (H.out.1.later (later_trans hW.bel hb1))).mono (by rintro e w' ⟨ev', sv', rfl, hS', hb'⟩; rw [← HM.out.2] at hS'; exact ⟨ev', sv', rfl, hS'.shR, hb'⟩)
            have hSame : ∀ W ev' sv', Below wr.heap.size wr W → ShR W ev' sv' S2 → Calls Tryd.prog 27 #[shpV m (.slice p1 S2.edges.length q1) (.slice p2 S2.sizes.length q2), shpV m ev' sv'] W fun e w' => e = .returned (.bool true) ∧ Below W.heap.size W w' := fun W ev' sv' hb1 hS' => by
              have := same_any S2 _ _ ev' sv' W (hW.own.later hb1) hS'
              rw [HM.out.1] at this
              exact this
            have HOS := Lib.hid (And.intro hOwn (And.intro hSame hW.bel))
            have HKeep : Hid (∀ W, Below wr.heap.size wr W → (W.cell? ⟨Y, 0, none⟩ = some (.int .i64 m) ∧ W.cell? ⟨Y, 1, none⟩ = some (.slice p1 S2.edges.length q1) ∧ W.cell? ⟨Y, 2, none⟩ = some (.slice p2 S2.sizes.length q2)) ∧ W.cell? ⟨w.heap.size, 0, none⟩ = some (.int .i64 m) ∧ W.cell? ⟨w.heap.size, 1, none⟩ = some (.slice ae ls.length ce) ∧ W.cell? ⟨w.heap.size, 2, none⟩ = some (.slice az zs.length cz)) := Lib.hid (fun W hb => ⟨⟨cell_next hb c0, cell_next hb c1, cell_next hb c2⟩, cell_next hb d0, cell_next hb d1, cell_next hb d2⟩)
            clear hOwn hSame hW hb
            go_upto_region 42 with fail
            go_cut [4] (fun s4 wx => s4 = .bool true ∧ Below wr.heap.size wr wx)
            case first =>
              go_region_held3 (fun W => (W.cell? ⟨Y, 0, none⟩ = some (.int .i64 m) ∧ W.cell? ⟨Y, 1, none⟩ = some (.slice p1 S2.edges.length q1) ∧ W.cell? ⟨Y, 2, none⟩ = some (.slice p2 S2.sizes.length q2)) ∧ W.cell? ⟨w.heap.size, 0, none⟩ = some (.int .i64 m) ∧ W.cell? ⟨w.heap.size, 1, none⟩ = some (.slice ae ls.length ce) ∧ W.cell? ⟨w.heap.size, 2, none⟩ = some (.slice az zs.length cz))
                (first | exact HKeep.out _ (later_refl _) | exact HKeep.out _ (later_drew _) | exact HKeep.out _ hbQ | exact HKeep.out _ hbP | assumption)
                (first
                  | (go_at_call 27; have hq := hbP; refine (HOS.out.2.1 _ _ _ hbP hS3).mono ?_; rintro e wQ ⟨rfl, hQ1⟩; have hbQ : Below wr.heap.size wr wQ := (later_trans hbP hQ1))
                  | (go_at_call 10; refine (HOS.out.1 _ (later_drew _)).mono ?_; rintro e wP ⟨ev3, sv3, rfl, hS3, hP1⟩; have hbP : Below wr.heap.size wr wP := (later_trans (later_drew _) hP1)))
              all_goals (go_wp2_with fail)
              all_goals go_meet
              all_goals exact ⟨rfl, hbQ⟩
            case rest =>
              obtain ⟨rfl, hbx⟩ := hcut
              have HE := Lib.hid (later_trans HOS.out.2.2 hbx)
              clear hbx
              go_wp2_with fail
              go_ret
              exact ⟨rfl, HE.out⟩
            -- E]
end Go.Proofs.YtdmfhlfhlflakaaDoor
