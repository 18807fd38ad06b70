/-
  Plain facts on what two rising rows have in common.
-/
import Derived.Test.YtlndgjibefbddaaPlain
namespace Go.Proofs.Ytlndgjibefbddaa
/-- What of A is in B. -/
def meetL (A B : List Int) : List Int := A.filter (fun x => decide (x ∈ B))
theorem meet_hit {A B : List Int} {k : Nat} (hk : k < A.length) (h : A[k] ∈ B) : meetL (A.take (k + 1)) B = meetL (A.take k) B ++ [A[k]] := by
  unfold meetL
  rw [List.take_succ_eq_append_getElem hk, List.filter_append]
  simp [h]
theorem meet_miss {A B : List Int} {k : Nat} (hk : k < A.length) (h : ¬ A[k] ∈ B) : meetL (A.take (k + 1)) B = meetL (A.take k) B := by
  unfold meetL
  rw [List.take_succ_eq_append_getElem hk, List.filter_append]
  simp [h]
theorem meet_all {A B : List Int} {k : Nat} (hk : A.length ≤ k) : meetL (A.take k) B = meetL A B := by rw [List.take_of_length_le hk]
theorem meet_len {A B : List Int} (k : Nat) : (meetL (A.take k) B).length ≤ k := by
  have h1 := List.length_filter_le (fun x => decide (x ∈ B)) (A.take k)
  have h2 := List.length_take_le k A
  unfold meetL; omega
theorem meet_le (A B : List Int) : (meetL A B).length ≤ A.length := List.length_filter_le _ _
theorem meet_mem {A B : List Int} {x : Int} : x ∈ meetL A B ↔ x ∈ A ∧ x ∈ B := by simp [meetL]

/-- All of B ahead of place p is less than all of A from place k on. -/
def AheadOf (A B : List Int) (k p : Nat) : Prop := ∀ j m, (hj : j < B.length) → (hm : m < A.length) → j < p → k ≤ m → B[j] < A[m]
theorem ahead_zero (A B : List Int) (k : Nat) : AheadOf A B k 0 := fun j m _ _ h _ => by omega
theorem geB_def {key x : Int} {p : Int → Bool} (hp : p = fun x => decide (key ≤ x)) : p x = decide (key ≤ x) := by rw [hp]
theorem ahead_step {A B : List Int} {k p p' : Nat} (h : AheadOf A B k p) (hk : k < A.length) (hA : risesB A = true) (hp : p' = place B p (fun x => decide (A[k] ≤ x))) :
    (∀ j, (hj : j < B.length) → j < p' → B[j] < A[k]) ∧ AheadOf A B (k + 1) p' := by
  have h1 : ∀ j, (hj : j < B.length) → j < p' → B[j] < A[k] := by
    intro j hj hjp
    by_cases hjp0 : j < p
    · exact h j k hj hk hjp0 (Nat.le_refl _)
    · have := place_not (p := fun x => decide (A[k] ≤ x)) (show p ≤ j by omega) hj (hp ▸ hjp)
      simp at this; omega
  refine ⟨h1, fun j m hj hm hjp hkm => ?_⟩
  have := h1 j hj hjp
  have := rises_lt hA (show k < m by omega) hm
  omega
theorem ahead_in {A B : List Int} {k p' : Nat} (hk : k < A.length) (hB : risesB B = true) (h1 : ∀ j, (hj : j < B.length) → j < p' → B[j] < A[k]) (hp : p' < B.length) (h2 : A[k] ≤ B[p']) :
    (B[p'] = A[k] ↔ A[k] ∈ B) := by
  constructor
  · intro e; rw [← e]; exact List.getElem_mem hp
  · intro hm
    obtain ⟨j, hj, e⟩ := List.getElem_of_mem hm
    have hjp : ¬ j < p' := fun hlt => by have := h1 j hj hlt; omega
    have := rises_le hB (show p' ≤ j by omega) hj
    omega
theorem ahead_none {A B : List Int} {k : Nat} (hk : k < A.length) (h1 : ∀ j, (hj : j < B.length) → j < B.length → B[j] < A[k]) (hA : risesB A = true) : meetL A B = meetL (A.take k) B := by
  have : ∀ n, k ≤ n → n ≤ A.length → meetL (A.take n) B = meetL (A.take k) B := by
    intro n hkn
    obtain ⟨d, rfl⟩ : ∃ d, n = k + d := ⟨n - k, by omega⟩
    clear hkn
    induction d with
    | zero => intro _; rfl
    | succ d ih =>
      intro hn
      rw [← ih (by omega)]
      refine meet_miss (k := k + d) (show k + d < A.length by omega) fun hm => ?_
      obtain ⟨j, hj, e⟩ := List.getElem_of_mem hm
      have h2 := h1 j hj hj
      have h3 := rises_le hA (show k ≤ k + d by omega) (by omega)
      omega
  rw [← this A.length (by omega) (Nat.le_refl _), List.take_length]
theorem lg_mono {a b : Int} (h : a ≤ b) : lg a ≤ lg b := by
  unfold lg
  by_cases h0 : a.toNat = 0
  · rw [h0]; simp
  · rw [Nat.le_log2 (by omega)]
    have := Nat.log2_self_le h0
    omega
theorem few_looks {n i at_ looks : Nat} (h : FewLooks n i at_ looks) (hi : i ≤ n) (ha : at_ ≤ n) : looks ≤ 2 + 2 * lg (1 + (n : Int)) := by
  obtain ⟨h1, h2⟩ := h
  by_cases e : i = n
  · rw [h1 e]; omega
  · have := (h2 (by omega)).2
    have := lg_mono (a := 1 + (at_ : Int) - i) (b := 1 + (n : Int)) (by omega)
    omega
theorem meet_comm {A B : List Int} (hA : risesB A = true) (hB : risesB B = true) : meetL A B = meetL B A := by
  rw [risesB, decide_eq_true_eq] at hA hB
  have pA : (meetL A B).Pairwise (· < ·) := hA.filter _
  have pB : (meetL B A).Pairwise (· < ·) := hB.filter _
  refine List.Perm.eq_of_pairwise (le := (· < ·)) (fun a b _ _ h1 h2 => by omega) pA pB ?_
  refine (List.perm_ext_iff_of_nodup (pA.imp fun h => by omega) (pB.imp fun h => by omega)).2 fun x => ?_
  rw [meet_mem, meet_mem]; exact And.comm
theorem meet_rises {A B : List Int} (hA : risesB A = true) : risesB (meetL A B) = true := by
  rw [risesB, decide_eq_true_eq] at *
  exact hA.filter _
end Go.Proofs.Ytlndgjibefbddaa
