/-
  The library's slices.Clone at structs, walked.
-/
import Derived.Test.YtdfnfdgkhflonaaRows
import Derived.WalkKit
import Derived.WalkSpells
import Derived.WalkLawsBesides
import Derived.Outline
import Derived.Test.YtdfnfdgkhflonaaBase
import Derived.Test.YtdfnfdgkhflonaaBase2
namespace Go.Proofs.Ytdfnfdgkhflonaa
open Go.RowKit
set_option linter.unusedVariables false

theorem info_branch : (Try.prog.info? 40).map (fun i => (i.zero, i.size, i.bytes)) = some (some (.agg #[.int .u64 0, .int .i64 0, .int .i64 0]), 3, 24) := by kernel_rfl
theorem flat_one_branch (xs : List Br) : ∀ u ∈ xs.flatMap Br.cells, u.oneCell' = true := by
  intro u hu
  obtain ⟨x, _, hx⟩ := List.mem_flatMap.1 hu
  simp [Br.cells] at hx
  rcases hx with rfl | rfl | rfl <;> rfl

set_option maxHeartbeats 400000 in
theorem clone_branch (v : Value) (xs : List Br) (w : World) (h : SlB w v xs) (hl : xs.length ≤ 1099511627776) :
    Calls Try.prog 58 #[v] w fun e w' => ∃ v', e = .returned v' ∧ w'.ownsRow w.heap.size 40 3 v' xs.length (xs.flatMap Br.cells) ∧ Below w.heap.size w w' := by
  obtain ⟨i0, hi, hz0, hz1, hz2⟩ := info_parts info_branch
  obtain ⟨a, c, rfl, h1, h2, h3, h4⟩ := h.open
  have he := fun w a n c n' c' => Lib.run_eql_slice_nil (P := Try.prog) w 22 40 a n c n' c' Try.underlying22
  cases a with
  | none =>
    obtain rfl : c = 0 := h3 rfl
    have hx : xs = [] := List.eq_nil_of_length_eq_zero (by omega)
    subst hx
    simp only [List.length_nil]
    go_enter Try.func58, Try.ntmps58
    go_wp2
    go_ret
    exact ⟨_, rfl, World.ownsRow_nil _ _ _ _, Below.refl _ _⟩
  | some ad =>
    have hcell := (SlS.later h.1 (later_alloc w (.cells #[] 40))).at_ (by omega)
    have hfl := flat_len Br.len xs
    have hown : (w.alloc (.cells #[] 40)).ownsRow w.heap.size 40 3 (.slice (some ⟨w.heap.size, 0, none⟩) 0 0) 0 [] := World.ownsRow_made _ _ _ (Nat.le_refl _) (by simp [maxLen]) (by simp)
    clear h h1 h3 h4
    have HF := Lib.hid hfl
    clear hfl
    go_enter Try.func58, Try.ntmps58
    go_wp2_with (at_builtin; refine wpList_append_own _ rfl _ _ 22 rfl w.heap.size 40 i0 _ 3 24 Try.underlying22 hi hz0 hz1 hz2 rfl (by decide) _ _ _ rfl hown ad xs.length c (xs.flatMap Br.cells) rfl HF.out hcell (flat_one_branch xs) (by unfold maxLen; omega) (by omega) (by simp) ?_; intro v' w1 hown1 hgrow1 _)
    go_ret
    simp only [Nat.zero_add, List.nil_append] at hown1
    exact ⟨_, rfl, hown1, (((Below.refl _ w).alloc (Nat.le_refl _) _).grown hgrow1 (by simp) (fun k e => by cases e; exact Nat.le_refl _))⟩

theorem info_pair : (Try.prog.info? 59).map (fun i => (i.zero, i.size, i.bytes)) = some (some (.agg #[.int .u64 0, .int .u64 0]), 2, 16) := by kernel_rfl
theorem flat_one_pair (xs : List Pr) : ∀ u ∈ xs.flatMap Pr.cells, u.oneCell' = true := by
  intro u hu
  obtain ⟨x, _, hx⟩ := List.mem_flatMap.1 hu
  simp [Pr.cells] at hx
  rcases hx with rfl | rfl <;> rfl

set_option maxHeartbeats 400000 in
theorem clone_pair (v : Value) (xs : List Pr) (w : World) (h : SlP w v xs) (hl : xs.length ≤ 1099511627776) :
    Calls Try.prog 79 #[v] w fun e w' => ∃ v', e = .returned v' ∧ w'.ownsRow w.heap.size 59 2 v' xs.length (xs.flatMap Pr.cells) ∧ Below w.heap.size w w' := by
  obtain ⟨i0, hi, hz0, hz1, hz2⟩ := info_parts info_pair
  obtain ⟨a, c, rfl, h1, h2, h3, h4⟩ := h.open
  have he := fun w a n c n' c' => Lib.run_eql_slice_nil (P := Try.prog) w 57 59 a n c n' c' Try.underlying57
  cases a with
  | none =>
    obtain rfl : c = 0 := h3 rfl
    have hx : xs = [] := List.eq_nil_of_length_eq_zero (by omega)
    subst hx
    simp only [List.length_nil]
    go_enter Try.func79, Try.ntmps79
    go_wp2
    go_ret
    exact ⟨_, rfl, World.ownsRow_nil _ _ _ _, Below.refl _ _⟩
  | some ad =>
    have hcell := (SlS.later h.1 (later_alloc w (.cells #[] 59))).at_ (by omega)
    have hfl := flat_len Pr.len xs
    have hown : (w.alloc (.cells #[] 59)).ownsRow w.heap.size 59 2 (.slice (some ⟨w.heap.size, 0, none⟩) 0 0) 0 [] := World.ownsRow_made _ _ _ (Nat.le_refl _) (by simp [maxLen]) (by simp)
    clear h h1 h3 h4
    have HF := Lib.hid hfl
    clear hfl
    go_enter Try.func79, Try.ntmps79
    go_wp2_with (at_builtin; refine wpList_append_own _ rfl _ _ 57 rfl w.heap.size 59 i0 _ 2 16 Try.underlying57 hi hz0 hz1 hz2 rfl (by decide) _ _ _ rfl hown ad xs.length c (xs.flatMap Pr.cells) rfl HF.out hcell (flat_one_pair xs) (by unfold maxLen; omega) (by omega) (by simp) ?_; intro v' w1 hown1 hgrow1 _)
    go_ret
    simp only [Nat.zero_add, List.nil_append] at hown1
    exact ⟨_, rfl, hown1, (((Below.refl _ w).alloc (Nat.le_refl _) _).grown hgrow1 (by simp) (fun k e => by cases e; exact Nat.le_refl _))⟩

end Go.Proofs.Ytdfnfdgkhflonaa
