/-
  slices.Clone of rows, walked.
-/
import Derived.Test.YtdmfhlfhlflakaaDoorPlOwn
namespace Go.Proofs.YtdmfhlfhlflakaaDoor
open Go.RowKit
set_option linter.unusedVariables false
set_option linter.unusedSimpArgs false

theorem one_rows {k : IntKind} {w : World} {rv : Nat → Value} {ls : List (List Int)} (h : ∀ r, r < ls.length → SlI k w (rv r) (rowN ls r)) : ∀ u ∈ (List.range ls.length).map rv, u.oneCell' = true := by
  intro u hu
  obtain ⟨r, hr, rfl⟩ := List.mem_map.1 hu
  obtain ⟨a, c, e, -⟩ := (h r (List.mem_range.1 hr)).open
  rw [e]; rfl
set_option maxHeartbeats 400000 in
/-- slices.Clone of rows: a row of the call's own with the same rows. -/
theorem cloneR_any (v : Value) (ls : List (List Int)) (w : World) (h : SlRK .i64 w v ls) (hl : ls.length ≤ 1099511627776) :
    Calls Tryd.prog 14 #[v] w fun e w' => ∃ v' rv, e = .returned v' ∧ w'.ownsRow w.heap.size 25 1 v' ls.length ((List.range ls.length).map rv) ∧ (∀ r, r < ls.length → SlI .i64 w' (rv r) (rowN ls r)) ∧ Below w.heap.size w w' := by
  obtain ⟨i0, hi, hz0, hz1, hz2⟩ := info_parts info_rowI
  obtain ⟨rv, hC, hR⟩ := h
  have hone := one_rows hR
  obtain ⟨a, c, hv, h1, h2, h3, h4⟩ := hC
  have hC' : SlC w v ((List.range ls.length).map rv) := ⟨a, c, hv, h1, h2, h3, h4⟩
  subst hv
  rw [List.length_map, List.length_range] at hC' h1 ⊢
  have h2' : c ≤ 9223372036854775807 := h2
  have he := fun w a n c n' c' => Lib.run_eql_slice_nil (P := Tryd.prog) w 22 25 a n c n' c' Tryd.underlying22
  cases a with
  | none =>
    obtain rfl : c = 0 := h3 rfl
    have hx : ls = [] := List.eq_nil_of_length_eq_zero (by omega)
    subst hx
    simp only [List.length_nil]
    clear hC' h4 hone hR h1 h2 h2' h3 hl
    go_enter Tryd.func14, Tryd.ntmps14
    go_wp2
    go_ret
    exact ⟨_, rv, rfl, World.ownsRow_nil _ _ _ _, fun r hr => (by simp at hr), Below.refl _ _⟩
  | some ad =>
    have hcell := (hC'.later (later_alloc w (.cells #[] 25))).cells
    have hown : (w.alloc (.cells #[] 25)).ownsRow w.heap.size 25 1 (.slice (some ⟨w.heap.size, 0, none⟩) 0 0) 0 [] := World.ownsRow_made _ _ _ (Nat.le_refl _) (by simp [maxLen]) (by simp)
    have HR := Lib.hid hR
    have hln : ((List.range ls.length).map rv).length = ls.length := by simp
    have HL := Lib.hid (show ((List.range ls.length).map rv).length = ls.length * 1 by simp)
    clear hC' h4 h3 hR hln
    go_enter Tryd.func14, Tryd.ntmps14
    go_wp2_with (at_builtin; refine wpList_append_own _ rfl _ _ 22 rfl w.heap.size 25 i0 (.slice none 0 0) 1 24 Tryd.underlying22 hi hz0 hz1 hz2 rfl (by decide) _ _ _ rfl hown ad ls.length c ((List.range ls.length).map rv) rfl HL.out hcell hone (by unfold maxLen; omega) (by omega) (by simp) ?_; intro v' w1 hown1 hgrow1 _)
    go_ret
    simp only [Nat.zero_add, List.nil_append] at hown1
    have hb : Below w.heap.size w w1 := (((Below.refl _ w).alloc (Nat.le_refl _) _).grown hgrow1 (by simp) (fun k e => by cases e; exact Nat.le_refl _))
    exact ⟨_, rv, rfl, hown1, fun r hr => (HR.out r hr).later hb, hb⟩
set_option maxHeartbeats 400000 in
/-- slices.Clone of rows: a row of the call's own with the same rows, told which. -/
theorem cloneRv_any (v : Value) (ls : List (List Int)) (rv : Nat → Value) (w : World) (hC : SlC w v ((List.range ls.length).map rv)) (hR : ∀ r, r < ls.length → SlI .i64 w (rv r) (rowN ls r)) (hl : ls.length ≤ 1099511627776) :
    Calls Tryd.prog 14 #[v] w fun e w' => ∃ v', e = .returned v' ∧ w'.ownsRow w.heap.size 25 1 v' ls.length ((List.range ls.length).map rv) ∧ Below w.heap.size w w' := by
  obtain ⟨i0, hi, hz0, hz1, hz2⟩ := info_parts info_rowI
  have hone := one_rows hR
  obtain ⟨a, c, hv, h1, h2, h3, h4⟩ := hC
  have hC' : SlC w v ((List.range ls.length).map rv) := ⟨a, c, hv, h1, h2, h3, h4⟩
  subst hv
  rw [List.length_map, List.length_range] at hC' h1 ⊢
  have h2' : c ≤ 9223372036854775807 := h2
  have he := fun w a n c n' c' => Lib.run_eql_slice_nil (P := Tryd.prog) w 22 25 a n c n' c' Tryd.underlying22
  cases a with
  | none =>
    obtain rfl : c = 0 := h3 rfl
    have hx : ls = [] := List.eq_nil_of_length_eq_zero (by omega)
    subst hx
    simp only [List.length_nil]
    clear hC' h4 hone hR h1 h2 h2' h3 hl
    go_enter Tryd.func14, Tryd.ntmps14
    go_wp2
    go_ret
    exact ⟨_, rfl, World.ownsRow_nil _ _ _ _, Below.refl _ _⟩
  | some ad =>
    have hcell := (hC'.later (later_alloc w (.cells #[] 25))).cells
    have hown : (w.alloc (.cells #[] 25)).ownsRow w.heap.size 25 1 (.slice (some ⟨w.heap.size, 0, none⟩) 0 0) 0 [] := World.ownsRow_made _ _ _ (Nat.le_refl _) (by simp [maxLen]) (by simp)
    have HR := Lib.hid hR
    have hln : ((List.range ls.length).map rv).length = ls.length := by simp
    have HL := Lib.hid (show ((List.range ls.length).map rv).length = ls.length * 1 by simp)
    clear hC' h4 h3 hR hln
    go_enter Tryd.func14, Tryd.ntmps14
    go_wp2_with (at_builtin; refine wpList_append_own _ rfl _ _ 22 rfl w.heap.size 25 i0 (.slice none 0 0) 1 24 Tryd.underlying22 hi hz0 hz1 hz2 rfl (by decide) _ _ _ rfl hown ad ls.length c ((List.range ls.length).map rv) rfl HL.out hcell hone (by unfold maxLen; omega) (by omega) (by simp) ?_; intro v' w1 hown1 hgrow1 _)
    go_ret
    simp only [Nat.zero_add, List.nil_append] at hown1
    have hb : Below w.heap.size w w1 := (((Below.refl _ w).alloc (Nat.le_refl _) _).grown hgrow1 (by simp) (fun k e => by cases e; exact Nat.le_refl _))
    exact ⟨_, rfl, hown1, hb⟩
end Go.Proofs.YtdmfhlfhlflakaaDoor
