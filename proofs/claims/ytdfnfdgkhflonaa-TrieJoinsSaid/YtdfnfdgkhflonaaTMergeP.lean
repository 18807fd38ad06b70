/-
  Two rows of pairs merged, in plain terms. No program in sight.
-/
import Derived.Test.YtdfnfdgkhflonaaTWith
import Derived.Test.YtdfnfdgkhflonaaTCutF
namespace Go.Proofs.Ytdfnfdgkhflonaa
open Go.RowKit
set_option linter.unusedVariables false

/-- The pairs of two rows, in order, and who has them. -/
def mergeS : List Pr → List Pr → List (Pr × Bool × Bool)
  | [], [] => []
  | x :: xs, [] => (x, true, false) :: mergeS xs []
  | [], y :: ys => (y, false, true) :: mergeS [] ys
  | x :: xs, y :: ys => if ahdB x y = true then (x, true, false) :: mergeS xs (y :: ys) else if ahdB y x = true then (y, false, true) :: mergeS (x :: xs) ys else (x, true, true) :: mergeS xs ys
termination_by xs ys => xs.length + ys.length
theorem mergeS_nn : mergeS [] [] = [] := by rw [mergeS]
theorem mergeS_cn (x : Pr) (xs : List Pr) : mergeS (x :: xs) [] = (x, true, false) :: mergeS xs [] := by rw [mergeS]
theorem mergeS_nc (y : Pr) (ys : List Pr) : mergeS [] (y :: ys) = (y, false, true) :: mergeS [] ys := by rw [mergeS]
theorem mergeS_lt {x y : Pr} (xs ys : List Pr) (h : Ahd x y) : mergeS (x :: xs) (y :: ys) = (x, true, false) :: mergeS xs (y :: ys) := by rw [mergeS, if_pos ((ahdB_iff x y).2 h)]
theorem mergeS_gt {x y : Pr} (xs ys : List Pr) (h : Ahd y x) : mergeS (x :: xs) (y :: ys) = (y, false, true) :: mergeS (x :: xs) ys := by
  have h1 : ¬ ahdB x y = true := fun e => by have := (ahdB_iff x y).1 e; unfold Ahd at *; omega
  rw [mergeS, if_neg h1, if_pos ((ahdB_iff y x).2 h)]
theorem mergeS_eq (x : Pr) (xs ys : List Pr) : mergeS (x :: xs) (x :: ys) = (x, true, true) :: mergeS xs ys := by
  have h1 : ¬ ahdB x x = true := fun e => by have := (ahdB_iff x x).1 e; unfold Ahd at *; omega
  rw [mergeS, if_neg h1, if_neg h1]
theorem ahd_or (x y : Pr) : Ahd x y ∨ x = y ∨ Ahd y x := by
  rcases x with ⟨a, b⟩
  rcases y with ⟨c, d⟩
  unfold Ahd
  simp
  omega
theorem mergeS_len : ∀ (n : Nat) (xs ys : List Pr), xs.length + ys.length ≤ n → (mergeS xs ys).length ≤ xs.length + ys.length := by
  intro n
  induction n with
  | zero =>
    intro xs ys h
    obtain rfl : xs = [] := List.eq_nil_of_length_eq_zero (by omega)
    obtain rfl : ys = [] := List.eq_nil_of_length_eq_zero (by omega)
    rw [mergeS_nn]; simp
  | succ n ih =>
    intro xs ys h
    match xs, ys, h with
    | [], [], _ => rw [mergeS_nn]; simp
    | x :: xs, [], h => rw [mergeS_cn]; have := ih xs [] (by simp at h ⊢; omega); simp at this ⊢; omega
    | [], y :: ys, h => rw [mergeS_nc]; have := ih [] ys (by simp at h ⊢; omega); simp at this ⊢; omega
    | x :: xs, y :: ys, h =>
      rcases ahd_or x y with e | rfl | e
      · rw [mergeS_lt _ _ e]; have := ih xs (y :: ys) (by simp at h ⊢; omega); simp at this ⊢; omega
      · rw [mergeS_eq]; have := ih xs ys (by simp at h ⊢; omega); simp at this ⊢; omega
      · rw [mergeS_gt _ _ e]; have := ih (x :: xs) ys (by simp at h ⊢; omega); simp at this ⊢; omega
/-- What one of both has. -/
def unionL (xs ys : List Pr) : List Pr := (mergeS xs ys).map (·.1)
theorem mem_merge : ∀ (n : Nat) (xs ys : List Pr), xs.length + ys.length ≤ n → ∀ p, p ∈ unionL xs ys ↔ p ∈ xs ∨ p ∈ ys := by
  intro n
  unfold unionL
  induction n with
  | zero =>
    intro xs ys h p
    obtain rfl : xs = [] := List.eq_nil_of_length_eq_zero (by omega)
    obtain rfl : ys = [] := List.eq_nil_of_length_eq_zero (by omega)
    rw [mergeS_nn]; simp
  | succ n ih =>
    intro xs ys h p
    match xs, ys, h with
    | [], [], _ => rw [mergeS_nn]; simp
    | x :: xs, [], h => rw [mergeS_cn]; have := ih xs [] (by simp at h ⊢; omega) p; simp at this ⊢; rw [this]
    | [], y :: ys, h => rw [mergeS_nc]; have := ih [] ys (by simp at h ⊢; omega) p; simp at this ⊢; rw [this]
    | x :: xs, y :: ys, h =>
      rcases ahd_or x y with e | rfl | e
      · rw [mergeS_lt _ _ e]; have := ih xs (y :: ys) (by simp at h ⊢; omega) p; simp at this ⊢; rw [this]; simp [or_assoc]
      · rw [mergeS_eq]; have := ih xs ys (by simp at h ⊢; omega) p; simp at this ⊢; rw [this]
        constructor
        · rintro (h1 | h1 | h1) <;> simp [h1]
        · rintro ((h1 | h1) | (h1 | h1)) <;> simp [h1]
      · rw [mergeS_gt _ _ e]; have := ih (x :: xs) ys (by simp at h ⊢; omega) p; simp at this ⊢; rw [this]
        constructor
        · rintro (h1 | h1 | h1) <;> simp [h1]
        · rintro ((h1 | h1) | (h1 | h1)) <;> simp [h1]
theorem merge_sorted : ∀ (n : Nat) (xs ys : List Pr), xs.length + ys.length ≤ n → xs.Pairwise Ahd → ys.Pairwise Ahd → (unionL xs ys).Pairwise Ahd := by
  intro n
  induction n with
  | zero =>
    intro xs ys h _ _
    obtain rfl : xs = [] := List.eq_nil_of_length_eq_zero (by omega)
    obtain rfl : ys = [] := List.eq_nil_of_length_eq_zero (by omega)
    unfold unionL; rw [mergeS_nn]; simp
  | succ n ih =>
    intro xs ys h hx hy
    match xs, ys, h, hx, hy with
    | [], [], _, _, _ => unfold unionL; rw [mergeS_nn]; simp
    | x :: xs, [], h, hx, hy =>
      have h2 := ih xs [] (by simp at h ⊢; omega) (List.pairwise_cons.1 hx).2 hy
      have h3 := mem_merge _ xs [] (Nat.le_refl _)
      have e : unionL (x :: xs) [] = x :: unionL xs [] := by unfold unionL; rw [mergeS_cn]; rfl
      rw [e, List.pairwise_cons]
      refine ⟨fun p hp => ?_, h2⟩
      rcases (h3 p).1 hp with h4 | h4
      · exact (List.pairwise_cons.1 hx).1 p h4
      · cases h4
    | [], y :: ys, h, hx, hy =>
      have h2 := ih [] ys (by simp at h ⊢; omega) hx (List.pairwise_cons.1 hy).2
      have h3 := mem_merge _ [] ys (Nat.le_refl _)
      have e : unionL [] (y :: ys) = y :: unionL [] ys := by unfold unionL; rw [mergeS_nc]; rfl
      rw [e, List.pairwise_cons]
      refine ⟨fun p hp => ?_, h2⟩
      rcases (h3 p).1 hp with h4 | h4
      · cases h4
      · exact (List.pairwise_cons.1 hy).1 p h4
    | x :: xs, y :: ys, h, hx, hy =>
      obtain ⟨hx1, hx2⟩ := List.pairwise_cons.1 hx
      obtain ⟨hy1, hy2⟩ := List.pairwise_cons.1 hy
      rcases ahd_or x y with e0 | rfl | e0
      · have h2 := ih xs (y :: ys) (by simp at h ⊢; omega) hx2 hy
        have h3 := mem_merge _ xs (y :: ys) (Nat.le_refl _)
        have e : unionL (x :: xs) (y :: ys) = x :: unionL xs (y :: ys) := by unfold unionL; rw [mergeS_lt _ _ e0]; rfl
        rw [e, List.pairwise_cons]
        refine ⟨fun p hp => ?_, h2⟩
        rcases (h3 p).1 hp with h4 | h4
        · exact hx1 p h4
        · rcases List.mem_cons.1 h4 with rfl | h5
          · exact e0
          · exact ahd_trans e0 (hy1 p h5)
      · have h2 := ih xs ys (by simp at h ⊢; omega) hx2 hy2
        have h3 := mem_merge _ xs ys (Nat.le_refl _)
        have e : unionL (x :: xs) (x :: ys) = x :: unionL xs ys := by unfold unionL; rw [mergeS_eq]; rfl
        rw [e, List.pairwise_cons]
        refine ⟨fun p hp => ?_, h2⟩
        rcases (h3 p).1 hp with h4 | h4
        · exact hx1 p h4
        · exact hy1 p h4
      · have h2 := ih (x :: xs) ys (by simp at h ⊢; omega) hx hy2
        have h3 := mem_merge _ (x :: xs) ys (Nat.le_refl _)
        have e : unionL (x :: xs) (y :: ys) = y :: unionL (x :: xs) ys := by unfold unionL; rw [mergeS_gt _ _ e0]; rfl
        rw [e, List.pairwise_cons]
        refine ⟨fun p hp => ?_, h2⟩
        rcases (h3 p).1 hp with h4 | h4
        · rcases List.mem_cons.1 h4 with rfl | h5
          · exact e0
          · exact ahd_trans e0 (hx1 p h5)
        · exact hy1 p h4

/-- A row with a pair more: its members, and that it rises. -/
theorem mem_with {l : List Pr} {p q : Pr} : q ∈ withL l p ↔ q ∈ l ∨ q = p := by
  unfold withL
  simp only [List.mem_append, List.mem_filter, List.mem_singleton]
  constructor
  · rintro ((⟨h1, -⟩ | h1) | ⟨h1, -⟩)
    · exact .inl h1
    · exact .inr h1
    · exact .inl h1
  · rintro (h1 | h1)
    · rcases ahd_or q p with e | e | e
      · exact .inl (.inl ⟨h1, (ahdB_iff q p).2 e⟩)
      · exact .inl (.inr e)
      · exact .inr ⟨h1, (ahdB_iff p q).2 e⟩
    · exact .inl (.inr h1)
theorem with_sorted {l : List Pr} {p : Pr} (h : l.Pairwise Ahd) : (withL l p).Pairwise Ahd := by
  unfold withL
  rw [List.pairwise_append, List.pairwise_append]
  refine ⟨⟨h.filter _, by simp, fun a ha b hb => ?_⟩, h.filter _, fun a ha b hb => ?_⟩
  · obtain rfl := List.mem_singleton.1 hb
    exact (ahdB_iff a b).1 (List.mem_filter.1 ha).2
  · have h2 := (ahdB_iff p b).1 (List.mem_filter.1 hb).2
    rcases List.mem_append.1 ha with h1 | h1
    · exact ahd_trans ((ahdB_iff a p).1 (List.mem_filter.1 h1).2) h2
    · obtain rfl := List.mem_singleton.1 h1
      exact h2
theorem fold_sorted (b : List Pr) : ∀ {a : List Pr}, a.Pairwise Ahd → (b.foldl withL a).Pairwise Ahd := by
  induction b with
  | nil => intro a h; exact h
  | cons p b ih => intro a h; exact ih (with_sorted h)
theorem mem_fold (b : List Pr) : ∀ {a : List Pr} {q : Pr}, q ∈ b.foldl withL a ↔ q ∈ a ∨ q ∈ b := by
  induction b with
  | nil => intro a q; simp
  | cons p b ih =>
    intro a q
    rw [List.foldl_cons, ih, mem_with, List.mem_cons]
    constructor
    · rintro ((h | h) | h)
      · exact .inl h
      · exact .inr (.inl h)
      · exact .inr (.inr h)
    · rintro (h | h | h)
      · exact .inl (.inl h)
      · exact .inl (.inr h)
      · exact .inr h
theorem ahd_irrefl (p : Pr) : ¬ Ahd p p := by unfold Ahd; omega
/-- Two rows that rise and have the same pairs are one. -/
theorem rise_eq : ∀ {xs ys : List Pr}, xs.Pairwise Ahd → ys.Pairwise Ahd → (∀ p, p ∈ xs ↔ p ∈ ys) → xs = ys := by
  intro xs
  induction xs with
  | nil =>
    intro ys _ _ h
    match ys, h with
    | [], _ => rfl
    | y :: ys, h => have := (h y).2 (List.mem_cons_self ..); cases this
  | cons x xs ih =>
    intro ys hx hy h
    match ys, hy, h with
    | [], _, h => have := (h x).1 (List.mem_cons_self ..); cases this
    | y :: ys, hy, h =>
      obtain ⟨hx1, hx2⟩ := List.pairwise_cons.1 hx
      obtain ⟨hy1, hy2⟩ := List.pairwise_cons.1 hy
      have exy : x = y := by
        rcases List.mem_cons.1 ((h x).1 (List.mem_cons_self ..)) with e | e
        · exact e
        · rcases List.mem_cons.1 ((h y).2 (List.mem_cons_self ..)) with e2 | e2
          · exact e2.symm
          · exact absurd (ahd_trans (hy1 x e) (hx1 y e2)) (ahd_irrefl y)
      subst exy
      congr 1
      refine ih hx2 hy2 (fun p => ?_)
      constructor
      · intro hp
        rcases List.mem_cons.1 ((h p).1 (List.mem_cons_of_mem _ hp)) with e | e
        · subst e; exact absurd (hx1 p hp) (ahd_irrefl p)
        · exact e
      · intro hp
        rcases List.mem_cons.1 ((h p).2 (List.mem_cons_of_mem _ hp)) with e | e
        · subst e; exact absurd (hy1 p hp) (ahd_irrefl p)
        · exact e
/-- The document's union is what is merged. -/
theorem union_same {xs ys : List Pr} (hx : RunOk xs) (hy : RunOk ys) : ys.foldl withL (xs.foldl withL []) = unionL xs ys := by
  refine rise_eq (fold_sorted ys (fold_sorted xs List.Pairwise.nil)) (merge_sorted _ xs ys (Nat.le_refl _) (pairwise_of hx.2) (pairwise_of hy.2)) (fun p => ?_)
  rw [mem_fold, mem_fold, mem_merge _ xs ys (Nat.le_refl _)]
  simp
theorem union_len (xs ys : List Pr) : (unionL xs ys).length ≤ xs.length + ys.length := by
  unfold unionL
  rw [List.length_map]
  exact mergeS_len _ xs ys (Nat.le_refl _)
theorem union_run {xs ys : List Pr} (hx : RunOk xs) (hy : RunOk ys) (h : xs.length + ys.length ≤ 1048576) : RunOk (unionL xs ys) :=
  ⟨Nat.le_trans (union_len xs ys) h, of_pairwise (merge_sorted _ xs ys (Nat.le_refl _) (pairwise_of hx.2) (pairwise_of hy.2))⟩
theorem union_wf {xs ys : List Pr} (hx : ∀ p ∈ xs, p.wf) (hy : ∀ p ∈ ys, p.wf) : ∀ p ∈ unionL xs ys, p.wf := by
  intro p hp
  rcases (mem_merge _ xs ys (Nat.le_refl _) p).1 hp with h | h
  · exact hx p h
  · exact hy p h
end Go.Proofs.Ytdfnfdgkhflonaa
