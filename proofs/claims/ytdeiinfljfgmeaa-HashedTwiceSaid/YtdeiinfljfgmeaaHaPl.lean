/-
  Relations, plainly: what is right; joins of right ones are.
-/
import Derived.Test.YtdeiinfljfgmeaaHaSemi
namespace Go.Proofs.Ytdeiinfljfgmeaa
open Go.RowKit
set_option linter.unusedVariables false
set_option linter.unusedSimpArgs false

theorem nodup_at {vs : List Int} : vs.Nodup ↔ ∀ i, i < vs.length → vs.getD i 0 ∉ vs.take i := by
  rw [List.nodup_iff_pairwise_ne, List.pairwise_iff_getElem]
  constructor
  · intro h i hi hm
    rw [getD_at hi] at hm
    obtain ⟨j, hj, e⟩ := List.getElem_of_mem hm
    have hji : j < i := by rw [List.length_take] at hj; omega
    rw [List.getElem_take] at e
    exact h j i (by omega) hi hji e
  · intro h i j hi hj hij e
    refine h j hj ?_
    rw [getD_at hj, ← e]
    rw [List.mem_iff_getElem]
    exact ⟨i, by rw [List.length_take]; omega, by rw [List.getElem_take]⟩
theorem colB_iff (vs : List Int) : colB vs = true ↔ (∀ x ∈ vs, 0 ≤ x) ∧ vs.Nodup ∧ vs.length ≤ 64 := by
  unfold colB
  rw [Bool.and_eq_true, decide_eq_true_iff, List.all_eq_true, nodup_at]
  constructor
  · rintro ⟨h1, h2⟩
    have h3 : ∀ i, i < vs.length → 0 ≤ vs.getD i 0 ∧ vs.getD i 0 ∉ vs.take i := fun i hi => by
      have := h1 i (List.mem_range.2 hi)
      unfold colAt at this
      simpa only [Bool.and_eq_true, decide_eq_true_eq, Bool.not_eq_true', decide_eq_false_iff_not] using this
    refine ⟨fun x hx => ?_, fun i hi => (h3 i hi).2, h2⟩
    obtain ⟨i, hi, rfl⟩ := List.getElem_of_mem hx
    rw [← getD_at hi]
    exact (h3 i hi).1
  · rintro ⟨h1, h2, h3⟩
    refine ⟨fun i hi => ?_, h3⟩
    have hi := List.mem_range.1 hi
    unfold colAt
    simp only [Bool.and_eq_true, decide_eq_true_eq, Bool.not_eq_true', decide_eq_false_iff_not]
    exact ⟨by rw [getD_at hi]; exact h1 _ (List.getElem_mem hi), h2 i hi⟩
theorem rise_of_next {n : Nat} {l : List (List Int)} (hw : Wd n l) (h : ∀ i, i + 1 < l.length → lexC (rowN l i) (rowN l (i + 1)) = -1) : RiseR l := by
  unfold RiseR
  rw [List.pairwise_iff_getElem]
  have key : ∀ d i, (hd : i + d + 1 < l.length) → lexC (rowN l i) (rowN l (i + d + 1)) = -1 := by
    intro d
    induction d with
    | zero => exact fun i hi => h i hi
    | succ d ih =>
      intro i hi
      have h1 := ih i (by omega)
      have h2 := h (i + d + 1) (by omega)
      have w : ∀ k, k < l.length → (rowN l k).length = n := fun k hk => hw _ (rowN_mem hk)
      exact lexC_trans (by rw [w _ (by omega), w _ (by omega)]) (by rw [w _ (by omega), w _ (by omega)]) h1 h2
  intro i j hi hj hij
  have := key (j - i - 1) i (by omega)
  rw [show i + (j - i - 1) + 1 = j from by omega, rowN_at hi, rowN_at hj] at this
  exact this
theorem rightB_iff (R : Rl) : rightB R = true ↔ colB R.vars = true ∧ R.rows.length ≤ 1048576 ∧ Wd R.vars.length R.rows ∧ RiseR R.rows := by
  unfold rightB
  rw [Bool.and_eq_true, Bool.and_eq_true, decide_eq_true_iff, List.all_eq_true]
  constructor
  · rintro ⟨h1, h2, h3⟩
    have h4 : ∀ i, i < R.rows.length → (rowN R.rows i).length = R.vars.length ∧ (i = 0 ∨ lexC (rowN R.rows (i - 1)) (rowN R.rows i) = -1) := fun i hi => by
      have := h3 i (List.mem_range.2 hi)
      unfold rowAt at this
      simpa only [Bool.and_eq_true, decide_eq_true_eq, Bool.or_eq_true] using this
    have hw : Wd R.vars.length R.rows := fun r hr => by
      obtain ⟨i, hi, rfl⟩ := List.getElem_of_mem hr
      rw [← rowN_at hi]
      exact (h4 i hi).1
    refine ⟨h1, h2, hw, rise_of_next hw fun i hi => ?_⟩
    rcases (h4 (i + 1) hi).2 with q | q
    · omega
    · exact q
  · rintro ⟨h1, h2, h3, h4⟩
    refine ⟨h1, h2, fun i hi => ?_⟩
    have hi := List.mem_range.1 hi
    unfold rowAt
    simp only [Bool.and_eq_true, decide_eq_true_eq, Bool.or_eq_true]
    refine ⟨h3 _ (rowN_mem hi), ?_⟩
    by_cases h0 : i = 0
    · exact .inl h0
    · right
      rw [rowN_at hi, rowN_at (by omega)]
      exact (List.pairwise_iff_getElem.1 h4) (i - 1) i (by omega) hi (by omega)
theorem joinRow_wd {A B : Rl} (hwA : Wd A.vars.length A.rows) : Wd (A.vars ++ aloneL A B).length ((matchL A B).map (joinP (placesL B.vars (aloneL A B)))) := fun r hr => by
  obtain ⟨p, hp, rfl⟩ := List.mem_map.1 hr
  obtain ⟨mx, my⟩ := matchL_mem hp
  rw [joinP, List.length_append, List.length_append, cellsL, List.length_map, placesL, List.length_map, hwA _ mx]
theorem matchL_len (A B : Rl) : (matchL A B).length ≤ A.rows.length * B.rows.length := mateL_len _ _ _ _
theorem joinL_right {A B : Rl} (hA : rightB A = true) (hB : rightB B = true) (hv : A.vars.length + B.vars.length ≤ 64) (hr : A.rows.length * B.rows.length ≤ 1048576) : rightB (joinL A B) = true := by
  obtain ⟨cA, lA, wA, rA⟩ := (rightB_iff A).1 hA
  obtain ⟨cB, lB, wB, rB⟩ := (rightB_iff B).1 hB
  obtain ⟨pA, nA, kA⟩ := (colB_iff _).1 cA
  obtain ⟨pB, nB, kB⟩ := (colB_iff _).1 cB
  have hw := joinRow_wd (B := B) wA
  have hal : (aloneL A B).length ≤ B.vars.length := List.length_filter_le _ _
  refine (rightB_iff _).2 ⟨(colB_iff _).2 ⟨fun x hx => ?_, ?_, ?_⟩, ?_, ofL_wd hw, ofL_rise hw⟩
  · rcases List.mem_append.1 hx with h | h
    · exact pA x h
    · exact pB x (List.mem_filter.1 h).1
  · refine List.nodup_append.2 ⟨nA, nB.filter _, fun x hx y hy e => ?_⟩
    subst e
    have := (List.mem_filter.1 hy).2
    simp only [Bool.not_eq_true', decide_eq_false_iff_not] at this
    exact this hx
  · show (A.vars ++ aloneL A B).length ≤ 64
    rw [List.length_append]
    omega
  · show (ofL _).length ≤ 1048576
    refine Nat.le_trans (ofL_len _) ?_
    rw [List.length_map]
    exact Nat.le_trans (matchL_len A B) hr
theorem joinL_rows (A B : Rl) : (joinL A B).rows.length ≤ A.rows.length * B.rows.length := by
  show (ofL _).length ≤ _
  refine Nat.le_trans (ofL_len _) ?_
  rw [List.length_map]
  exact matchL_len A B
theorem joinL_vars (A B : Rl) : (joinL A B).vars.length ≤ A.vars.length + B.vars.length := by
  show (A.vars ++ aloneL A B).length ≤ _
  have hal : (aloneL A B).length ≤ B.vars.length := List.length_filter_le _ _
  rw [List.length_append]
  omega
end Go.Proofs.Ytdeiinfljfgmeaa
