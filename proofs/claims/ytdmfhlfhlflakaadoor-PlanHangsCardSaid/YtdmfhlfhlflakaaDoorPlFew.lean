/-
  plan.Order, whatever it is handed; the laws' few.
-/
import Derived.Test.YtdmfhlfhlflakaaDoorPlOrdC
namespace Go.Proofs.YtdmfhlfhlflakaaDoor
open Go.RowKit Go.Shelf
set_option linter.unusedVariables false
set_option linter.unusedSimpArgs false

/-- What Order hands back. -/
def ordL (S : Shp) (o : List Int) : List Int := if shpB S = true then (if o.length = 0 then chosenTo S S.many.toNat else if ordersB S.many o = true then o else []) else []
def ordE (S : Shp) (o : List Int) : Int := if shpB S = true then (if o.length = 0 then 0 else if ordersB S.many o = true then 0 else 2) else 320
theorem ordL_bound (S : Shp) (o : List Int) : ∀ x ∈ ordL S o, -1 ≤ x ∧ x ≤ 32 := by
  unfold ordL
  by_cases h1 : shpB S = true
  · have hm := (shpB_yes h1).2.1
    rw [if_pos h1]
    by_cases h2 : o.length = 0
    · rw [if_pos h2]; exact chosen_bound hm _
    · rw [if_neg h2]
      by_cases h3 : ordersB S.many o = true
      · rw [if_pos h3]
        intro x hx
        unfold ordersB at h3
        simp only [Bool.and_eq_true, List.all_eq_true] at h3
        obtain ⟨j, hj, rfl⟩ := List.getElem_of_mem hx
        have := h3.1 j (List.mem_range.2 hj)
        unfold ordAt at this
        simp only [Bool.and_eq_true, decide_eq_true_eq] at this
        rw [getD_at hj] at this
        omega
      · rw [if_neg h3]; intro x hx; cases hx
  · rw [if_neg h1]; intro x hx; cases hx
theorem ordL_len (S : Shp) (o : List Int) : (ordL S o).length ≤ 32 := by
  unfold ordL
  by_cases h1 : shpB S = true
  · have hm := (shpB_yes h1).2.1
    rw [if_pos h1]
    by_cases h2 : o.length = 0
    · rw [if_pos h2, chosenTo_len]; omega
    · rw [if_neg h2]
      by_cases h3 : ordersB S.many o = true
      · rw [if_pos h3]
        unfold ordersB at h3
        simp only [Bool.and_eq_true, decide_eq_true_eq] at h3
        omega
      · rw [if_neg h3]; simp
  · rw [if_neg h1]; simp
theorem ordL_wf (S : Shp) (o : List Int) : ∀ x ∈ ordL S o, (Lit.int .i64 x).wf = true := fun x hx => WalkArith.wf_i64 (by have := ordL_bound S o x hx; omega)
theorem Order_any (S : Shp) (ev sv hv : Value) (o : List Int) (w : World) (h : ShR w ev sv S) (ho : SlI .i64 w hv o) :
    Calls Tryd.prog 22 #[shpV S.many ev sv, hv] w fun e w' => ∃ v', e = .returned (.tuple #[v', .int .i64 (ordE S o)]) ∧ w'.ownsRow w.heap.size 3 1 v' (ordL S o).length ((ordL S o).map (.int .i64)) ∧ Below w.heap.size w w' := by
  unfold ordE ordL
  by_cases h1 : shpB S = true
  · rw [if_pos h1, if_pos h1]
    by_cases h2 : o.length = 0
    · rw [if_pos h2, if_pos h2]
      obtain ⟨a, c, rfl, -⟩ := ho.open
      rw [h2]
      exact order_chosen S ev sv a c w h h1
    · rw [if_neg h2, if_neg h2]
      by_cases h3 : ordersB S.many o = true
      · rw [if_pos h3, if_pos h3]
        exact order_copy S ev sv hv o w h ho h1 (by omega) h3
      · rw [if_neg h3, if_neg h3]
        exact (order_no S ev sv hv o w h ho h1 (by omega) (Bool.eq_false_iff.2 h3)).mono fun e w' ⟨he, hb⟩ => ⟨_, he, World.ownsRow_nil _ _ _ _, hb⟩
  · rw [if_neg h1, if_neg h1]
    exact (order_bad S ev sv hv o w h ho (Bool.eq_false_iff.2 h1)).mono fun e w' ⟨he, hb⟩ => ⟨_, he, World.ownsRow_nil _ _ _ _, hb⟩

/-- Rows of the call's own, with one more. -/
theorem OwnR.next {B : Nat} {wr wC w6 : World} {av avc : Option Addr} {cv q cvc g6 cap6 : Nat} {ps : List (Value × List Int)} {xs : List Int} (hown : OwnR B wr (.slice av ps.length cv) ps) (bC : Below wr.heap.size wr wC) (hoC : wC.ownsRow B 3 1 (.slice avc q cvc) q (xs.map (.int .i64))) (hq : xs.length = q) (hwf : ∀ x ∈ xs, (Lit.int .i64 x).wf = true)
    (hown6 : w6.ownsRow B 25 1 (.slice (some ⟨g6, 0, none⟩) (ps.length + 1) cap6) (ps.length + 1) (ps.map Prod.fst ++ [.slice avc q cvc])) (hgrow6 : (wC.alloc (.cells #[.slice avc q cvc] 25)).grownBy w6 (Value.slice av ps.length cv).ownBlock) :
    OwnR B w6 (.slice (some ⟨g6, 0, none⟩) (ps.length + 1) cap6) (ps ++ [(.slice avc q cvc, xs)]) := by
  have hA := later_trans bC (later_alloc wC (.cells #[.slice avc q cvc] 25))
  have hownA := owns_later hown.own hA
  refine ⟨by simpa using hown6, fun p hp => ?_⟩
  rcases List.mem_append.1 hp with hp | hp
  · exact ⟨own_grown hownA hgrow6 (owns_later (hown.rows p hp).1 hA) (by decide), (hown.rows p hp).2⟩
  · obtain rfl := List.mem_singleton.1 hp
    refine ⟨?_, hwf⟩
    show World.ownsRow _ _ _ _ (.slice avc q cvc) xs.length _
    rw [hq]
    exact own_grown hownA hgrow6 (owns_later hoC (later_alloc _ _)) (by decide)

/-- The first few rows, each cut. -/
def fewL (ls : List (List Int)) : List (List Int) := (ls.take 5).map fun o => o.take 34
set_option maxRecDepth 100000 in
set_option maxHeartbeats 4000000 in
theorem few_any (v : Value) (ls : List (List Int)) (w : World) (h : SlRK .i64 w v ls) :
    Calls Tryd.prog 21 #[v] w fun e w' => ∃ v' ps, e = .returned v' ∧ OwnR w.heap.size w' v' ps ∧ ps.map Prod.snd = fewL ls ∧ Below w.heap.size w w' := by
  obtain ⟨i0, hi, hz0, hz1, hz2⟩ := info_parts info_rowI
  have H := Lib.hid h
  have hl := h.len
  obtain ⟨ae, ce, rfl, k1, k2, -⟩ := h.open
  obtain ⟨me, hme⟩ : ∃ x, min ls.length 5 = x := ⟨_, rfl⟩
  have hmin : Value.int .i64 (if (5 : Int) < ls.length then (5 : Int) else (ls.length : Int)) = .int .i64 (me : Int) := by rw [show (if (5 : Int) < ls.length then (5 : Int) else (ls.length : Int)) = (me : Int) from by split <;> omega]
  have hmc : me ≤ ce := by omega
  have hml : me ≤ ls.length := by omega
  have hme5 : me ≤ 5 := by omega
  have HM := Lib.hid hme
  clear h hme k1
  go_enter Tryd.func21, Tryd.ntmps21
  go_wp2_with fail
  go_loopw [3, 12] (fun s k wr => ∃ (i : Nat) (ps : List (Value × List Int)), i ≤ me ∧ k = .int .i64 i ∧ OwnR w.heap.size wr s ps ∧ ps.map Prod.snd = ((ls.take i).map fun e => e.take 34) ∧ Below w.heap.size w wr) (fun _ k _ => me - (intOf k).toNat)
  case atStart => exact ⟨0, [], Nat.zero_le _, rfl, ⟨World.ownsRow_nil _ _ _ _, fun p hp => by cases hp⟩, rfl, Below.refl _ _⟩
  case round =>
    obtain ⟨i, ps, hi', rfl, hown, hps, hb⟩ := hrel
    obtain ⟨av, cv, rfl⟩ := owns_shape2 hown.own
    have hpl : ps.length = i := by
      have := congrArg List.length hps
      rw [List.length_map, List.length_map, List.length_take] at this
      omega
    by_cases hlt : i < me
    · obtain ⟨_, _, e1, _, _, _, f4⟩ := (H.out.later hb).open
      obtain ⟨b, o, e2, hbw, fc⟩ := f4 (by omega)
      injection e1 with e1a e1b e1c
      subst e1a
      subst e2
      obtain ⟨rv, cr, hrv⟩ := fc i (by omega)
      obtain ⟨a2, c2, rfl, s1, s2, s3, s4⟩ := hrv.open
      obtain ⟨q, hq⟩ : ∃ q, min (rowN ls i).length 34 = q := ⟨_, rfl⟩
      have hmin3 : Value.int .i64 (if (34 : Int) < (rowN ls i).length then (34 : Int) else ((rowN ls i).length : Int)) = .int .i64 (q : Int) := by rw [show (if (34 : Int) < (rowN ls i).length then (34 : Int) else ((rowN ls i).length : Int)) = (q : Int) from by split <;> omega]
      have hqc : q ≤ c2 := by omega
      have hql : q ≤ (rowN ls i).length := by omega
      have hrl : (rowN ls i).length ≤ 9223372036854775807 := by omega
      have hqt : (rowN ls i).take q = (rowN ls i).take 34 := by
        rw [← hq, Nat.min_comm, ← List.take_take, List.take_of_length_le (l := rowN ls i) (Nat.le_refl _)]
      have hq34 : q ≤ 34 := by omega
      have hlm : ((rowN ls i).take q).length = q := by rw [List.length_take]; omega
      have hC2 : ∀ W, Below wr.heap.size wr W → Calls Tryd.prog 11 #[.slice a2 q c2] W fun e w' => ∃ v', e = .returned v' ∧ w'.ownsRow wr.heap.size 3 1 v' q (((rowN ls i).take q).map (Value.int .i64)) ∧ Below W.heap.size W w' := fun W hb =>
        (cloneI_any _ ((rowN ls i).take q) W ((hrv.cut2 hql).later hb) (by omega)).mono (by rintro e w' ⟨v', rfl, ho, hb'⟩; rw [hlm] at ho; exact ⟨v', rfl, owns_down ho hb.size, hb'⟩)
      have hC3 := hC2 wr (later_refl _)
      have HC3 := Lib.hid hC3
      have HRW := Lib.hid (show ∀ x ∈ (rowN ls i).take q, (Lit.int .i64 x).wf = true from fun x hx => hrv.2 x (List.mem_of_mem_take hx))
      have HT := Lib.hid (And.intro hqt (And.intro hlm (And.intro hown (And.intro hps (And.intro hb hpl)))))
      have hlt2 : i < ls.length := by omega
      have hpl5 : ps.length ≤ 5 := by omega
      have hbs := hb.size
      clear hown hps hb fc f4 hrv s1 s2 s3 s4 hC2 hC3 hqt hlm hq e1b e1c hpl
      go_wp2_with fail
      (try simp only [hmin3])
      refine HC3.out.mono ?_
      rintro e wC ⟨vc, rfl, hoC, hbC⟩
      obtain ⟨avc, cvc, rfl⟩ := owns_shape2 hoC
      have hO2 := owns_later HT.out.2.2.1.own hbC
      have hzw := hbC.size
      have HB := Lib.hid (And.intro hbC hoC)
      clear hbC hoC
      go_wp2_with (at_builtin; refine wpList_append_own _ rfl (.tmp 16) (.tmp 23) 22 rfl w.heap.size 25 i0 _ 1 24 Tryd.underlying22 hi hz0 hz1 hz2 rfl (by decide) _ _ _ rfl (hO2.alloc _) ⟨wC.heap.size, 0, none⟩ 1 1 [.slice avc q cvc] rfl rfl (cells_new _ _ _) (by simp [Value.oneCell']) (by unfold maxLen; omega) (by omega) (by simp; omega) ?_; intro v6 w6 hown6 hgrow6 _; obtain ⟨g6, cap6, rfl⟩ := ownsRow_succ hown6)
      have hN := OwnR.next HT.out.2.2.1 HB.out.1 (owns_down HB.out.2 hbs) HT.out.2.1 HRW.out hown6 hgrow6
      have hA := later_trans HT.out.2.2.2.2.1 (later_trans HB.out.1 (later_alloc wC (.cells #[.slice avc q cvc] 25)))
      have HF := Lib.hid (And.intro hN (hA.grown hgrow6 hA.size (fun k e => owns_above hO2 k e)))
      have HS : Hid ((ps ++ [(Value.slice avc q cvc, (rowN ls i).take q)]).map Prod.snd = (ls.take (i + 1)).map fun e => e.take 34) := Lib.hid (by
        rw [List.map_append, HT.out.2.2.2.1, List.take_add_one, List.getElem?_eq_getElem hlt2, List.map_append]
        congr 1
        show [(rowN ls i).take q] = [ls[i].take 34]
        rw [HT.out.1, rowN_at hlt2])
      clear hN hA hown6 hgrow6 hO2
      go_roundw
      case rel => first | exact ⟨i + 1, _, by omega, by go_num, HF.out.1, HS.out, HF.out.2⟩ | ((repeat apply Exists.intro); refine ⟨?_, rfl⟩; exact ⟨i + 1, _, by omega, by go_num, HF.out.1, HS.out, HF.out.2⟩)
      case measure => simp [intOf]; omega
    · obtain rfl : i = me := by omega
      have HE := Lib.hid (And.intro hown (And.intro hps hb))
      clear hown hps hb hpl
      go_wp2_with fail
      go_ret
      refine ⟨_, ps, rfl, HE.out.1, ?_, HE.out.2.2⟩
      rw [HE.out.2.1]
      unfold fewL
      rw [← HM.out, Nat.min_comm, ← List.take_take, List.take_of_length_le (l := ls) (Nat.le_refl _)]
end Go.Proofs.YtdmfhlfhlflakaaDoor
