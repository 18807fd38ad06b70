/-
  The law's rows: rows that can be gone through, in memory of its own. (Printed by mkhzrows.py.)
-/
import Derived.Test.YtplidcbfbonjlaaDoorHzParts
import Derived.Test.YtplidcbfbonjlaaDoorHzSort
namespace Go.Proofs.YtplidcbfbonjlaaDoor
open Go.RowKit Go.Shelf
set_option linter.unusedVariables false
set_option linter.unusedSimpArgs false

def rowsL (M : Nat) (ls : List (List Int)) : List (List Int) := (ls.take M).map fun e => e.take 34
set_option maxRecDepth 100000 in
set_option maxHeartbeats 4000000 in
theorem rows_any (M : Nat) (hM : M ≤ 100) (v : Value) (ls : List (List Int)) (w : World) (h : SlRK .i64 w v ls) :
    Calls Tryd.prog 16 #[v, .int .i64 (M : Int)] w fun e w' => ∃ v' ps, e = .returned v' ∧ OwnRK .i64 3 27 w.heap.size w' v' ps ∧ ps.map Prod.snd = rowsL M ls ∧ Below w.heap.size w w' := by
  obtain ⟨i0, hi, hz0, hz1, hz2⟩ := info_parts info_rowI
  have H := Lib.hid h
  have hl := h.len
  obtain ⟨ae, ce, rfl, k1, k2, -⟩ := h.open
  obtain ⟨me, hme⟩ : ∃ x, min ls.length M = x := ⟨_, rfl⟩
  have hmin : Value.int .i64 (if (M : Int) < ls.length then (M : Int) else (ls.length : Int)) = .int .i64 (me : Int) := by rw [show (if (M : Int) < ls.length then (M : Int) else (ls.length : Int)) = (me : Int) from by split <;> omega]
  have hmc : me ≤ ce := by omega
  have hml : me ≤ ls.length := by omega
  have hme5 : me ≤ 100 := by omega
  have hmi1 : min (ls.length : Int) (M : Int) = (me : Int) := by omega
  have hml0 : ls.length ≤ 9223372036854775807 := by omega
  have HM := Lib.hid hme
  clear h hme k1
  go_enter Tryd.func16, Tryd.ntmps16
  go_wp2_with fail
  go_loopw [5, 15] (fun s k wr => ∃ (i : Nat) (ps : List (Value × List Int)), i ≤ me ∧ k = .int .i64 i ∧ OwnRK .i64 3 27 w.heap.size wr s ps ∧ ps.map Prod.snd = ((ls.take i).map fun e => e.take 34) ∧ Below w.heap.size w wr) (fun _ k _ => me - (intOf k).toNat)
  case atStart => exact ⟨0, [], Nat.zero_le _, rfl, ⟨World.ownsRow_nil _ _ _ _, fun p hp => by cases hp⟩, rfl, Below.refl _ _⟩
  case round =>
    obtain ⟨i, ps, hi', rfl, hown, hps, hb⟩ := hrel
    obtain ⟨av, cv, rfl⟩ := owns_shape2 hown.own
    have hpl : ps.length = i := by
      have := congrArg List.length hps
      rw [List.length_map, List.length_map, List.length_take] at this
      omega
    by_cases hlt : i < me
    · obtain ⟨_, _, e1, _, _, _, f4⟩ := (H.out.later hb).open
      obtain ⟨b, o, e2, hbw, fc⟩ := f4 (by omega)
      injection e1 with e1a e1b e1c
      subst e1a
      subst e2
      obtain ⟨rv, cr, hrv⟩ := fc i (by omega)
      obtain ⟨a2, c2, rfl, s1, s2, s3, s4⟩ := hrv.open
      obtain ⟨q, hq⟩ : ∃ q, min (rowN ls i).length 34 = q := ⟨_, rfl⟩
      have hmin3 : Value.int .i64 (if (34 : Int) < (rowN ls i).length then (34 : Int) else ((rowN ls i).length : Int)) = .int .i64 (q : Int) := by rw [show (if (34 : Int) < (rowN ls i).length then (34 : Int) else ((rowN ls i).length : Int)) = (q : Int) from by split <;> omega]
      have hqc : q ≤ c2 := by omega
      have hmi3 : min ((rowN ls i).length : Int) 34 = (q : Int) := by omega
      have hql : q ≤ (rowN ls i).length := by omega
      have hrl : (rowN ls i).length ≤ 9223372036854775807 := by omega
      have hqt : (rowN ls i).take q = (rowN ls i).take 34 := by
        rw [← hq, Nat.min_comm, ← List.take_take, List.take_of_length_le (l := rowN ls i) (Nat.le_refl _)]
      have hq34 : q ≤ 34 := by omega
      have hlm : ((rowN ls i).take q).length = q := by rw [List.length_take]; omega
      have hC2 : ∀ W, Below wr.heap.size wr W → Calls Tryd.prog 43 #[.slice a2 q c2] W fun e w' => ∃ v', e = .returned v' ∧ w'.ownsRow wr.heap.size 3 1 v' q (((rowN ls i).take q).map (Value.int .i64)) ∧ Below W.heap.size W w' := fun W hb =>
        (cloneI_any _ ((rowN ls i).take q) W ((hrv.cut2 hql).later hb) (by omega)).mono (by rintro e w' ⟨v', rfl, ho, hb'⟩; rw [hlm] at ho; exact ⟨v', rfl, owns_down ho hb.size, hb'⟩)
      have hC3 := hC2 wr (later_refl _)
      have HC3 := Lib.hid hC3
      have HRW := Lib.hid (show ∀ x ∈ (rowN ls i).take q, (Lit.int .i64 x).wf = true from fun x hx => hrv.2 x (List.mem_of_mem_take hx))
      have HT := Lib.hid (And.intro hqt (And.intro hlm (And.intro hown (And.intro hps (And.intro hb hpl)))))
      have hlt2 : i < ls.length := by omega
      have hpl5 : ps.length ≤ 100 := by omega
      have hbs := hb.size
      clear hown hps hb fc f4 hrv s1 s2 s3 s4 hC2 hC3 hqt hlm hq e1b e1c hpl
      go_wp2_with fail
      (try simp only [hmin3])
      refine HC3.out.mono ?_
      rintro e wC ⟨vc, rfl, hoC, hbC⟩
      obtain ⟨avc, cvc, rfl⟩ := owns_shape2 hoC
      have hO2 := owns_later HT.out.2.2.1.own hbC
      have hzw := hbC.size
      have HB := Lib.hid (And.intro hbC hoC)
      clear hbC hoC
      go_wp2_with (at_builtin; refine wpList_append_own _ rfl (.tmp 19) (.tmp 26) 22 rfl w.heap.size 27 i0 _ 1 24 Tryd.underlying22 hi hz0 hz1 hz2 rfl (by decide) _ _ _ rfl (hO2.alloc _) ⟨wC.heap.size, 0, none⟩ 1 1 [.slice avc q cvc] rfl rfl (cells_new _ _ _) (by simp [Value.oneCell']) (by unfold maxLen; omega) (by omega) (by simp; omega) ?_; intro v6 w6 hown6 hgrow6 _; obtain ⟨g6, cap6, rfl⟩ := ownsRow_succ hown6)
      have hN := OwnRK.next (by decide) HT.out.2.2.1 HB.out.1 (owns_down HB.out.2 hbs) HT.out.2.1 HRW.out hown6 hgrow6
      have hA := later_trans HT.out.2.2.2.2.1 (later_trans HB.out.1 (later_alloc wC (.cells #[.slice avc q cvc] 27)))
      have HF := Lib.hid (And.intro hN (hA.grown hgrow6 hA.size (fun k e => owns_above hO2 k e)))
      have HS : Hid ((ps ++ [(Value.slice avc q cvc, (rowN ls i).take q)]).map Prod.snd = (ls.take (i + 1)).map fun e => e.take 34) := Lib.hid (by
        rw [List.map_append, HT.out.2.2.2.1, List.take_add_one, List.getElem?_eq_getElem hlt2, List.map_append]
        congr 1
        show [(rowN ls i).take q] = [ls[i].take 34]
        rw [HT.out.1, rowN_at hlt2])
      clear hN hA hown6 hgrow6 hO2
      go_roundw
      case rel => first | exact ⟨i + 1, _, by omega, by go_num, HF.out.1, HS.out, HF.out.2⟩ | ((repeat apply Exists.intro); refine ⟨?_, rfl⟩; exact ⟨i + 1, _, by omega, by go_num, HF.out.1, HS.out, HF.out.2⟩)
      case measure => simp [intOf]; omega
    · obtain rfl : i = me := by omega
      have HE := Lib.hid (And.intro hown (And.intro hps hb))
      clear hown hps hb hpl
      go_wp2_with fail
      go_ret
      refine ⟨_, ps, rfl, HE.out.1, ?_, HE.out.2.2⟩
      rw [HE.out.2.1]
      unfold rowsL
      rw [← HM.out, Nat.min_comm, ← List.take_take, List.take_of_length_le (l := ls) (Nat.le_refl _)]
end Go.Proofs.YtplidcbfbonjlaaDoor
