/-
  Of a run both ways build the same branches. No program in sight.
-/
import Derived.Test.YtdfnfdgkhflonaaTOfP
import Derived.Test.YtdfnfdgkhflonaaTRefOf
namespace Go.Proofs.Ytdfnfdgkhflonaa
open Go.RowKit
set_option linter.unusedVariables false

theorem run_mono {l : List Pr} (h : PairsTo l l.length) : ∀ k j, j ≤ k → k < l.length → (l.getD j Pr.no).a ≤ (l.getD k Pr.no).a := by
  intro k
  induction k with
  | zero => intro j h1 h2; obtain rfl : j = 0 := (by omega); exact Int.le_refl _
  | succ k ih =>
    intro j h1 h2
    by_cases e : j = k + 1
    · subst e; exact Int.le_refl _
    · have h3 := ih j (by omega) (by omega)
      have h4 := h (k + 1) (by omega) h2
      simp only [Nat.add_sub_cancel] at h4
      rcases h4 with h4 | ⟨h4, _⟩ <;> omega
theorem cnt_span {l : List Pr} {a : Int} {f i : Nat} (hfi : f ≤ i) (h1 : ∀ j, f ≤ j → j < i → (l.getD j Pr.no).a = a) (h2 : ∀ j, j < f → (l.getD j Pr.no).a ≠ a) (h3 : ∀ j, i ≤ j → j < l.length → (l.getD j Pr.no).a ≠ a) :
    ∀ k, k ≤ l.length → cnt l a k = min k i - min k f := by
  intro k
  induction k with
  | zero => intro _; simp [cnt]
  | succ k ih =>
    intro hk
    have ih := ih (by omega)
    have hg : l.getD k Pr.no = l[k] := getD_pr (by omega)
    by_cases hy : f ≤ k ∧ k < i
    · have := h1 k hy.1 hy.2
      rw [cnt_yes (by omega) (by rw [← hg, this]; simp)]
      omega
    · have : (l.getD k Pr.no).a ≠ a := by
        by_cases e : k < f
        · exact h2 k e
        · exact h3 k (by omega) (by omega)
      rw [cnt_no (by omega) (by rw [← hg]; simpa using this)]
      omega
theorem setT_snoc (bs : List Br) (b : Br) (t : Int) : setT (bs ++ [b]) t = bs ++ [{ b with t := t }] := by simp [setT]
/-- Both ways' branches of the first i pairs. -/
theorem both_to {l : List Pr} (h : PairsTo l l.length) : ∀ i, 0 < i → i ≤ l.length →
    ∃ (init : List Br) (a : Int) (f : Nat), brTo l i = init ++ [⟨a, f, i⟩] ∧ refTo l i = init ++ [⟨a, f, (f : Int) + (cnt l a l.length : Nat)⟩] ∧ (l.getD (i - 1) Pr.no).a = a ∧ f < i ∧ (∀ j, f ≤ j → j < i → (l.getD j Pr.no).a = a) ∧ (∀ j, j < f → (l.getD j Pr.no).a ≠ a) := by
  intro i
  induction i with
  | zero => intro h1; omega
  | succ i ih =>
    intro _ hi
    by_cases h0 : i = 0
    · subst h0
      have n1 : newAt l 0 := Or.inl rfl
      have n2 : newR l 0 := Or.inl rfl
      refine ⟨[], (l.getD 0 Pr.no).a, 0, ?_, ?_, rfl, by omega, fun j h1 h2 => (by obtain rfl : j = 0 := (by omega); rfl), fun j hj => by omega⟩
      · show setT (if newAt l 0 then _ else _) _ = _
        rw [if_pos n1]
        rfl
      · show (if newR l 0 then _ else _) = _
        rw [if_pos n2]
        simp [refTo]
    · obtain ⟨init, a, f, e1, e2, ha, hf, h1, h2⟩ := ih (by omega) (by omega)
      have hm := run_mono h
      by_cases hn : (l.getD i Pr.no).a = a
      · have n1 : ¬ newAt l i := by intro h; rcases h with h | h; exact h0 h; exact h (by rw [ha, hn])
        have n2 : ¬ newR l i := by intro h; rcases h with h | h; exact h0 h; rw [ha, hn] at h; omega
        refine ⟨init, a, f, ?_, ?_, hn, by omega, fun j hj1 hj2 => ?_, h2⟩
        · show setT (if newAt l i then _ else _) _ = _
          rw [if_neg n1, e1, setT_snoc]
          simp
        · show (if newR l i then _ else _) = _
          rw [if_neg n2, e2]
        · by_cases e : j = i
          · subst e; exact hn
          · exact h1 j hj1 (by omega)
      · have hlt : a < (l.getD i Pr.no).a := by have := hm i (i - 1) (by omega) (by omega); omega
        have n1 : newAt l i := Or.inr (by rw [ha]; omega)
        have n2 : newR l i := Or.inr (by rw [ha]; exact hlt)
        have hc := cnt_span (l := l) (a := a) (f := f) (i := i) (by omega) h1 h2 (fun j hj1 hj2 => by have := hm j i hj1 hj2; omega) l.length (Nat.le_refl _)
        have hc' : (f : Int) + (cnt l a l.length : Nat) = i := by omega
        refine ⟨init ++ [⟨a, f, i⟩], (l.getD i Pr.no).a, i, ?_, ?_, rfl, by omega, fun j hj1 hj2 => (by obtain rfl : j = i := (by omega); rfl), fun j hj => ?_⟩
        · show setT (if newAt l i then _ else _) _ = _
          rw [if_pos n1, e1, setT_snoc]
          simp
        · show (if newR l i then _ else _) = _
          rw [if_pos n2, e2, hc']
        · have := hm (i - 1) j (by omega) (by omega)
          rw [ha] at this
          omega
/-- Of a run both ways build the same branches. -/
theorem br_same {l : List Pr} (h : PairsTo l l.length) : refTo l l.length = brOf l := by
  by_cases h0 : l.length = 0
  · unfold brOf; rw [h0]; rfl
  · obtain ⟨init, a, f, e1, e2, ha, hf, h1, h2⟩ := both_to h l.length (by omega) (Nat.le_refl _)
    have hc := cnt_span (l := l) (a := a) (f := f) (i := l.length) (by omega) h1 h2 (fun j hj1 hj2 => by omega) l.length (Nat.le_refl _)
    have hc' : (f : Int) + (cnt l a l.length : Nat) = l.length := by omega
    unfold brOf
    rw [e1, e2, hc']
end Go.Proofs.Ytdfnfdgkhflonaa
