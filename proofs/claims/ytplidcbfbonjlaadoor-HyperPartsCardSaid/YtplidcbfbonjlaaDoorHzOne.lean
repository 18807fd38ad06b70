/-
  The edges within a part, as HyperParts gathers them: what stands behind so many edges. No walk.
-/
import Derived.Test.YtplidcbfbonjlaaDoorHzPf
import Derived.Test.YtplidcbfbonjlaaDoorHzMore
namespace Go.Proofs.YtplidcbfbonjlaaDoor
open Go.RowKit Go.Shelf Go.Lib
set_option linter.unusedVariables false
set_option linter.unusedSimpArgs false

structure OneI (w6 : World) (m : Int) (ls : List (List Int)) (p : List Int) (hv : Value) (vs : List Value) (W : World) : Prop where
  bel : Below w6.heap.size w6 W
  box : HB W w6.heap.size m hv
  own : W.ownsRow (w6.heap.size + 1) 27 1 hv vs.length vs
  len : vs.length = (insideL ls p).length
  row : ∀ r, r < vs.length → SlI .i64 w6 (vs.getD r undef) (rowN (insideL ls p) r)
section
variable {w6 W : World} {m : Int} {ls : List (List Int)} {p : List Int} {hv : Value} {vs : List Value}
theorem OneI.start (w6 : World) (m : Int) (p : List Int) : OneI w6 m [] p (.slice none 0 0) [] (w6.alloc (.cells #[.int .i64 m, .slice none 0 0] 24)) :=
  ⟨later_alloc _ _, box_new _ _ _, World.ownsRow_nil _ _ _ _, rfl, fun r hr => by cases hr⟩
theorem OneI.slR (h : OneI w6 m ls p hv vs W) : SlRK .i64 W hv (insideL ls p) := by
  refine ⟨fun r => vs.getD r undef, ?_, fun r hr => (h.row r (by rw [h.len]; exact hr)).later h.bel⟩
  have e : (List.range (insideL ls p).length).map (fun r => vs.getD r undef) = vs := by
    refine List.ext_getElem (by simp [h.len]) fun i h1 h2 => ?_
    simp [List.getD, h2]
  rw [e]
  exact SlC.of_owns h.own
theorem OneI.skip (h : OneI w6 m ls p hv vs W) {e : List Int} (hc : e.countP (fun x => decide (x ∈ p)) = 0) : OneI w6 m (ls ++ [e]) p hv vs W := by
  have he : insideL (ls ++ [e]) p = insideL ls p := by rw [insideL_next, if_pos hc, List.append_nil]
  exact ⟨h.bel, h.box, h.own, by rw [he]; exact h.len, by rw [he]; exact h.row⟩
theorem OneI.later {W' : World} (h : OneI w6 m ls p hv vs W) (hb : Below W.heap.size W W') : OneI w6 m ls p hv vs W' :=
  ⟨later_trans h.bel hb, kept hb h.box, owns_later h.own hb, h.len, h.row⟩
theorem OneI.next {w8 : World} {e : List Int} {ev : Value} {g c : Nat} (h : OneI w6 m ls p hv vs W) (hc : e.countP (fun x => decide (x ∈ p)) ≠ 0) (he : SlI .i64 w6 ev e)
    (hown : w8.ownsRow (w6.heap.size + 1) 27 1 (.slice (some ⟨g, 0, none⟩) (vs.length + 1) c) (vs.length + 1) (vs ++ [ev])) (hg : (W.alloc (.cells #[ev] 27)).grownBy w8 hv.ownBlock) :
    OneI w6 m (ls ++ [e]) p (.slice (some ⟨g, 0, none⟩) (vs.length + 1) c) (vs ++ [ev]) (w8.setCell ⟨w6.heap.size, 1, none⟩ (.slice (some ⟨g, 0, none⟩) (vs.length + 1) c)) := by
  have hi : insideL (ls ++ [e]) p = insideL ls p ++ [e] := by rw [insideL_next, if_neg hc]
  have hA := later_alloc W (.cells #[ev] 27)
  have hoA := owns_later h.own hA
  have hB8 := box_grown hoA hg (kept hA h.box) (by decide)
  have hsz := h.bel.size
  have hszA := hA.size
  have hb8 : Below w6.heap.size w6 w8 := (later_trans h.bel hA).grown hg (by omega) (fun k e => by have := owns_above hoA k e; omega)
  have hbs := box_set (i := 1) hB8 (.slice (some ⟨g, 0, none⟩) (vs.length + 1) c)
  refine ⟨below_set hb8 (Nat.le_refl _), ?_, ?_, ?_, fun r hr => ?_⟩
  · unfold HB
    simpa using hbs
  · rw [List.length_append, List.length_singleton]
    exact own_set hown hB8 (by decide) _
  · rw [hi, List.length_append, List.length_append, h.len]; rfl
  · rw [List.length_append, List.length_singleton] at hr
    rw [hi]
    by_cases q : r < vs.length
    · rw [rowN_app (by rw [← h.len]; exact q), List.getD_eq_getElem?_getD, List.getElem?_append_left q, ← List.getD_eq_getElem?_getD]
      exact h.row r q
    · obtain rfl : r = vs.length := by omega
      rw [List.getD_eq_getElem?_getD, List.getElem?_append_right (Nat.le_refl _), Nat.sub_self, h.len, rowN_last]
      exact he
end
theorem take_snoc {E : List (List Int)} {k : Nat} (h : k < E.length) : E.take (k + 1) = E.take k ++ [rowN E k] := by
  rw [rowN_at h, List.take_add_one, List.getElem?_eq_getElem h]; rfl
theorem count_snoc {e : List Int} {k : Nat} {p : List Int} (h : k < e.length) : (e.take (k + 1)).countP (fun x => decide (x ∈ p)) = (e.take k).countP (fun x => decide (x ∈ p)) + (if e.getD k 0 ∈ p then 1 else 0) := by
  rw [List.take_add_one, List.getElem?_eq_getElem h, List.countP_append, getD_at h]
  simp only [Option.toList_some, List.countP_cons, List.countP_nil, decide_eq_true_eq, Nat.zero_add]
end Go.Proofs.YtplidcbfbonjlaaDoor
