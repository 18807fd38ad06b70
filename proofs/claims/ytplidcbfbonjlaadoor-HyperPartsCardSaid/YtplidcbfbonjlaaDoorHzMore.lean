/-
  slices.Clone of rows, with the rows said; a clone with one row more.
-/
import Derived.Test.YtplidcbfbonjlaaDoorHzLaw
namespace Go.Proofs.YtplidcbfbonjlaaDoor
open Go.RowKit Go.Shelf Go.Lib
set_option linter.unusedVariables false
set_option linter.unusedSimpArgs false

set_option maxHeartbeats 400000 in
/-- slices.Clone of rows: a row of the call's own with the same rows. -/
theorem cloneRW_any (v : Value) (ls : List (List Int)) (rv : Nat → Value) (w : World) (hC : SlC w v ((List.range ls.length).map rv)) (hR : ∀ r, r < ls.length → SlI .i64 w (rv r) (rowN ls r)) (hl : ls.length ≤ 1099511627776) :
    Calls Tryd.prog 25 #[v] w fun e w' => ∃ v', e = .returned v' ∧ w'.ownsRow w.heap.size 27 1 v' ls.length ((List.range ls.length).map rv) ∧ Below w.heap.size w w' := by
  obtain ⟨i0, hi, hz0, hz1, hz2⟩ := info_parts info_rowI
  have hone := one_rows hR
  obtain ⟨a, c, hv, h1, h2, h3, h4⟩ := hC
  have hC' : SlC w v ((List.range ls.length).map rv) := ⟨a, c, hv, h1, h2, h3, h4⟩
  subst hv
  rw [List.length_map, List.length_range] at hC' h1 ⊢
  have h2' : c ≤ 9223372036854775807 := h2
  have he := fun w a n c n' c' => Lib.run_eql_slice_nil (P := Tryd.prog) w 22 27 a n c n' c' Tryd.underlying22
  cases a with
  | none =>
    obtain rfl : c = 0 := h3 rfl
    have hx : ls = [] := List.eq_nil_of_length_eq_zero (by omega)
    subst hx
    simp only [List.length_nil]
    clear hC' h4 hone hR h1 h2 h2' h3 hl
    go_enter Tryd.func25, Tryd.ntmps25
    go_wp2
    go_ret
    exact ⟨_, rfl, World.ownsRow_nil _ _ _ _, Below.refl _ _⟩
  | some ad =>
    have hcell := (hC'.later (later_alloc w (.cells #[] 27))).cells
    have hown : (w.alloc (.cells #[] 27)).ownsRow w.heap.size 27 1 (.slice (some ⟨w.heap.size, 0, none⟩) 0 0) 0 [] := World.ownsRow_made _ _ _ (Nat.le_refl _) (by simp [maxLen]) (by simp)
    have HR := Lib.hid hR
    have hln : ((List.range ls.length).map rv).length = ls.length := by simp
    have HL := Lib.hid (show ((List.range ls.length).map rv).length = ls.length * 1 by simp)
    clear hC' h4 h3 hR hln
    go_enter Tryd.func25, Tryd.ntmps25
    go_wp2_with (at_builtin; refine wpList_append_own _ rfl _ _ 22 rfl w.heap.size 27 i0 (.slice none 0 0) 1 24 Tryd.underlying22 hi hz0 hz1 hz2 rfl (by decide) _ _ _ rfl hown ad ls.length c ((List.range ls.length).map rv) rfl HL.out hcell hone (by unfold maxLen; omega) (by omega) (by simp) ?_; intro v' w1 hown1 hgrow1 _)
    go_ret
    simp only [Nat.zero_add, List.nil_append] at hown1
    have hb : Below w.heap.size w w1 := (((Below.refl _ w).alloc (Nat.le_refl _) _).grown hgrow1 (by simp) (fun k e => by cases e; exact Nat.le_refl _))
    exact ⟨_, rfl, hown1, hb⟩
theorem own_alloc {w : World} {base size n : Nat} {e : TypeId} {v : Value} {xs : List Value} (h : w.ownsRow base e size v n xs) (c : Obj) : (w.alloc c).ownsRow base e size v n xs := h.alloc c
theorem box_at {w : World} {b : Nat} {cs : Array Value} {e : TypeId} (h : w.heap.size = b) : (w.alloc (.cells cs e)).heap[b]? = some (.cells cs e (0, 0)) := by subst h; exact box_new _ _ _
theorem drew_size (w : World) : w.drew.heap.size = w.heap.size := rfl
/-- The box that was laid ahead of the append, and written behind it. -/
theorem rb_hyp {w : World} {X : Nat} {m : Int} {v : Value} (h : w.heap[X]? = some (.cells #[.int .i64 0, .slice none 0 0] 24 (0, 0))) : HB ((w.setCell ⟨X, 0, none⟩ (.int .i64 m)).setCell ⟨X, 1, none⟩ v) X m v := by
  have := box_set (i := 1) (box_set (i := 0) h (.int .i64 m)) v
  unfold HB
  simpa using this
theorem rb_own {w : World} {X base n : Nat} {m : Int} {v v' : Value} {xs : List Value} (h : w.heap[X]? = some (.cells #[.int .i64 0, .slice none 0 0] 24 (0, 0))) (ho : w.ownsRow base 27 1 v' n xs) : ((w.setCell ⟨X, 0, none⟩ (.int .i64 m)).setCell ⟨X, 1, none⟩ v).ownsRow base 27 1 v' n xs :=
  own_set (own_set ho h (by decide) _) (box_set (i := 0) h _) (by decide) _
theorem app_slR {w wf : World} {base n : Nat} {v x : Value} {rv : Nat → Value} {E : List (List Int)} {xs : List Int} (ho : wf.ownsRow base 27 1 v (n + 1) ((List.range n).map rv ++ [x])) (hE : ∀ r, r < n → SlI .i64 w (rv r) (rowN E r)) (hx : SlI .i64 w x xs) (hn : E.length = n) (hb : Below w.heap.size w wf) : SlRK .i64 wf v (E ++ [xs]) := by
  refine ⟨fun r => if r < n then rv r else x, ?_, fun r hr => ?_⟩
  · have e : (List.range (E ++ [xs]).length).map (fun r => if r < n then rv r else x) = (List.range n).map rv ++ [x] := by
      rw [List.length_append, List.length_singleton, hn, List.range_succ, List.map_append]
      congr 1
      · exact List.map_congr_left fun i hi => if_pos (List.mem_range.1 hi)
      · simp
    rw [e]
    exact SlC.of_owns ho
  · rw [List.length_append, List.length_singleton, hn] at hr
    by_cases h : r < n
    · have e : rowN (E ++ [xs]) r = rowN E r := by
        unfold rowN
        rw [List.getD_eq_getElem?_getD, List.getElem?_append_left (by omega), ← List.getD_eq_getElem?_getD]
      rw [e]
      simp only [if_pos h]
      exact (hE r h).later hb
    · obtain rfl : r = n := by omega
      have e : rowN (E ++ [xs]) r = xs := by
        unfold rowN
        rw [List.getD_eq_getElem?_getD, List.getElem?_append_right (by omega), hn, Nat.sub_self]; rfl
      rw [e]
      simp only [if_neg h]
      exact hx.later hb
end Go.Proofs.YtplidcbfbonjlaaDoor
