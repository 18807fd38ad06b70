/-
  The library's small functions on slices of int, walked: slices.Clone, slices.Equal.
-/
import Derived.Test.YtdmfhlfhlflakaaDoorRows
import Derived.WalkKit
import Derived.WalkSpells
import Derived.WalkLawsBesides
import Derived.Deep.QuietTactic
import Derived.BigQuiet
import Derived.Outline
import Derived.Test.YtdmfhlfhlflakaaDoorBase
namespace Go.Proofs.YtdmfhlfhlflakaaDoor
open Go.RowKit

theorem info_int : (Tryd.prog.info? 3).map (fun i => (i.zero, i.size, i.bytes)) = some (some (.int .i64 0), 1, 8) := by kernel_rfl

set_option maxHeartbeats 400000 in
/-- slices.Clone: a row of the call's own with the same elements; nil just where it was. -/
theorem cloneI_any (v : Value) (xs : List Int) (w : World) (h : SlI .i64 w v xs) (hl : xs.length ≤ 1099511627776) :
    Calls Tryd.prog 11 #[v] w fun e w' => ∃ v', e = .returned v' ∧ w'.ownsRow w.heap.size 3 1 v' xs.length (xs.map (Value.int .i64)) ∧ Below w.heap.size w w' := by
  obtain ⟨i0, hi, hz0, hz1, hz2⟩ := info_parts info_int
  obtain ⟨a, c, rfl, h1, h2, h3, h4⟩ := h.open
  have he := fun w a n c n' c' => Lib.run_eql_slice_nil (P := Tryd.prog) w 25 3 a n c n' c' Tryd.underlying25
  cases a with
  | none =>
    obtain rfl : c = 0 := h3 rfl
    have hx : xs = [] := List.eq_nil_of_length_eq_zero (by omega)
    subst hx
    simp only [List.length_nil]
    go_enter Tryd.func11, Tryd.ntmps11
    go_wp2
    go_ret
    exact ⟨_, rfl, World.ownsRow_nil _ _ _ _, Below.refl _ _⟩
  | some ad =>
    have hcell := (h.alloc (.cells #[] 3)).1.cells
    have hown : (w.alloc (.cells #[] 3)).ownsRow w.heap.size 3 1 (.slice (some ⟨w.heap.size, 0, none⟩) 0 0) 0 [] := World.ownsRow_made _ _ _ (Nat.le_refl _) (by simp [maxLen]) (by simp)
    clear h h1 h3 h4
    go_enter Tryd.func11, Tryd.ntmps11
    go_wp2_with (at_builtin; refine wpList_append_own _ rfl _ _ 25 rfl w.heap.size 3 i0 (.int .i64 0) 1 8 Tryd.underlying25 hi hz0 hz1 hz2 rfl (by decide) _ _ _ rfl hown ad xs.length c (xs.map (Value.int .i64)) rfl (by simp) hcell (ints_oneCell _ _) (by unfold maxLen; omega) (by omega) (by simp) ?_; intro v' w1 hown1 hgrow1 _)
    go_ret
    simp only [Nat.zero_add, List.nil_append] at hown1
    exact ⟨_, rfl, hown1, (((Below.refl _ w).alloc (Nat.le_refl _) _).grown hgrow1 (by simp) (fun k e => by cases e; exact Nat.le_refl _))⟩

/-- The first k elements are the same. -/
def SameTo (k : Nat) (xs ys : List Int) : Prop := xs.take k = ys.take k
theorem sameTo_zero (xs ys : List Int) : SameTo 0 xs ys := by simp [SameTo]
theorem sameTo_step {k : Nat} {xs ys : List Int} (h : SameTo k xs ys) (hx : k < xs.length) (hy : k < ys.length) (e : xs[k] = ys[k]) : SameTo (k + 1) xs ys := by
  unfold SameTo at *
  rw [List.take_succ_eq_append_getElem hx, List.take_succ_eq_append_getElem hy, h, e]
theorem sameTo_all {xs ys : List Int} (h : SameTo xs.length xs ys) (hl : xs.length = ys.length) : xs = ys := by
  unfold SameTo at h
  rw [List.take_length, hl, List.take_length] at h
  exact h
theorem not_same {k : Nat} {xs ys : List Int} (hx : k < xs.length) (hy : k < ys.length) (e : ¬ xs[k] = ys[k]) : decide (xs = ys) = false := by
  rw [decide_eq_false_iff_not]
  rintro rfl
  exact e rfl

theorem not_same' {k : Nat} {xs ys : List Int} (hl : xs.length = ys.length) (hy : k < ys.length) (e : (xs[k]?.getD 0 != ys[k]) = true) : decide (xs = ys) = false := by
  refine not_same (k := k) (by omega) hy ?_
  have hx : k < xs.length := by omega
  simpa [List.getElem?_eq_getElem hx] using e
theorem sameTo_step' {k : Nat} {xs ys : List Int} (hl : xs.length = ys.length) (h : SameTo k xs ys) (hy : k < ys.length) (e : (xs[k]?.getD 0 != ys[k]) = false) : SameTo (k + 1) xs ys := by
  have hx : k < xs.length := by omega
  exact sameTo_step h hx hy (by simpa [List.getElem?_eq_getElem hx] using e)

set_option maxHeartbeats 400000 in
/-- slices.Equal: are the elements the same? It only reads. -/
theorem equalI_any (u v : Value) (xs ys : List Int) (w : World) (hx : SlI .i64 w u xs) (hy : SlI .i64 w v ys) :
    Calls Tryd.prog 25 #[u, v] w fun e w' => e = .returned (.bool (decide (xs = ys))) ∧ ∃ n, w' = w.drewN n := by
  obtain ⟨a, c, rfl, h1, h2, h3, h4⟩ := hx.open
  obtain ⟨a', c', rfl, g1, g2, g3, g4⟩ := hy.open
  by_cases hl : xs.length = ys.length
  · have hcx : ∀ k, k < ys.length → ∃ b o, a = some ⟨b, o, none⟩ ∧ w.cell? ⟨b, o + k, none⟩ = some (.int .i64 (xs.getD k 0)) := fun k hk => by
      obtain ⟨b, o, e, _, hc⟩ := h4 (by omega)
      exact ⟨b, o, e, by rw [hc k (by omega), List.getD_eq_getElem?_getD, List.getElem?_eq_getElem (by omega)]; rfl⟩
    have hcy : ∀ k, k < ys.length → ∃ b o, a' = some ⟨b, o, none⟩ ∧ w.cell? ⟨b, o + k, none⟩ = some (.int .i64 (ys.getD k 0)) := fun k hk => by
      obtain ⟨b, o, e, _, hc⟩ := g4 (by omega)
      exact ⟨b, o, e, by rw [hc k (by omega), List.getD_eq_getElem?_getD, List.getElem?_eq_getElem (by omega)]; rfl⟩
    have hm : ys.length ≤ 9223372036854775807 := by omega
    rw [hl]
    have HL := Lib.hid hl
    clear h1 g1 hx hy h3 g3 h4 g4 hl
    have HX := Lib.hid hcx
    have HY := Lib.hid hcy
    clear hcx hcy
    go_enter Tryd.func25, Tryd.ntmps25
    go_wp2
    go_loopw [13] (fun i wr => ∃ k : Nat, k ≤ ys.length ∧ i = .int .i64 k ∧ SameTo k xs ys ∧ ∃ n, wr = w.drewN n) (fun i _ => ys.length - (intOf i).toNat)
    case atStart => exact ⟨0, Nat.zero_le _, rfl, sameTo_zero _ _, 0, rfl⟩
    case round =>
      obtain ⟨k, hk, rfl, hs, n, rfl⟩ := hrel
      by_cases hlt : k < ys.length
      · obtain ⟨b, o, rfl, hc⟩ := HX.out k hlt
        obtain ⟨b', o', rfl, hc'⟩ := HY.out k hlt
        go_wp2
        go_quiet (fail)
        go_wp2
        · have ht : (xs[k]?.getD 0 != ys[k]) = true := by assumption
          go_ret
          exact ⟨ret_bool (not_same' HL.out hlt ht).symm, _, World.drewN_drewN _ _ _⟩
        · have ht : (xs[k]?.getD 0 != ys[k]) = false := by assumption
          go_roundw
          case rel => exact ⟨k + 1, by omega, by go_num, sameTo_step' HL.out hs hlt ht, _, rfl⟩
          case measure => simp [intOf]; omega
      · have hk' : k = ys.length := by omega
        go_wp2
        go_ret
        exact ⟨ret_bool (decide_eq_true (sameTo_all (by rw [HL.out, ← hk']; exact hs) HL.out)).symm, _, rfl⟩
  · have hne : decide (xs = ys) = false := by rw [decide_eq_false_iff_not]; rintro rfl; exact hl rfl
    have hl' : ((xs.length : Int) == ys.length) = false := by rw [beq_eq_false_iff_ne]; omega
    rw [hne]
    clear hx hy h3 g3 h4 g4 hne
    go_enter Tryd.func25, Tryd.ntmps25
    go_wp2
    go_ret
    exact ⟨rfl, 0, rfl⟩
end Go.Proofs.YtdmfhlfhlflakaaDoor
