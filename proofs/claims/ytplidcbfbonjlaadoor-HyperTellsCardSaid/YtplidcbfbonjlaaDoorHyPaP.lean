/-
  The parts of a hypergraph, said plainly. No program in sight.
-/
import Derived.Test.YtplidcbfbonjlaaDoorHySet
namespace Go.Proofs.YtplidcbfbonjlaaDoor
set_option linter.unusedVariables false

/-- What one comes to from a vertex, edge by edge. -/
inductive Reach (ls : List (List Int)) (v : Int) : Int → Prop
  | refl : Reach ls v v
  | step {x y : Int} {e : List Int} : Reach ls v x → e ∈ ls → x ∈ e → y ∈ e → Reach ls v y
theorem Reach.trans {ls : List (List Int)} {u v w : Int} (h : Reach ls u v) (k : Reach ls v w) : Reach ls u w := by
  induction k with
  | refl => exact h
  | step _ he hx hy ih => exact .step ih he hx hy
theorem Reach.symm {ls : List (List Int)} {u v : Int} (h : Reach ls u v) : Reach ls v u := by
  induction h with
  | refl => exact .refl
  | step _ he hx hy ih => exact Reach.trans (.step .refl he hy hx) ih
/-- All edges have vertices alone. -/
def VertsOk (ls : List (List Int)) : Prop := ∀ e ∈ ls, ∀ x ∈ e, 0 ≤ x ∧ x < (64 : Nat)
theorem Reach.bound {ls : List (List Int)} {v x : Int} (hv : VertsOk ls) (h0 : 0 ≤ v ∧ v < (64 : Nat)) (h : Reach ls v x) : 0 ≤ x ∧ x < (64 : Nat) := by
  cases h with
  | refl => exact h0
  | step _ he _ hy => exact hv _ he _ hy
/-- A set that is growing to a part. -/
structure PartI (ls : List (List Int)) (v : Nat) (P : Nat) : Prop where
  lt : P < 2 ^ 64
  has : P.testBit v = true
  all : ∀ i, P.testBit i = true → Reach ls v i
theorem PartI.start (ls : List (List Int)) {v : Nat} (h : v < 64) : PartI ls v (2 ^ v) :=
  ⟨Nat.pow_lt_pow_right (by decide) h, by rw [Nat.testBit_two_pow]; simp, fun i hi => by
    rw [Nat.testBit_two_pow] at hi
    obtain rfl : v = i := of_decide_eq_true hi
    exact .refl⟩
theorem PartI.grow {ls : List (List Int)} {v P : Nat} (h : PartI ls v P) (hv : VertsOk ls) {e : List Int} (he : e ∈ ls) (hm : setL e &&& P ≠ 0) : PartI ls v (P ||| setL e) := by
  have h0 : ∀ x ∈ e, 0 ≤ x := fun x hx => (hv e he x hx).1
  refine ⟨Nat.or_lt_two_pow h.lt (setL_lt (hv e he)), by rw [Nat.testBit_or, h.has]; rfl, fun i hi => ?_⟩
  rw [Nat.testBit_or, Bool.or_eq_true] at hi
  rcases hi with hi | hi
  · exact h.all i hi
  · rw [setL_bit h0] at hi
    have hi := of_decide_eq_true hi
    apply Classical.byContradiction
    intro hn
    refine hm (and_zero.2 fun j hj => ?_)
    rw [setL_bit h0] at hj
    have hj := of_decide_eq_true hj
    cases hp : P.testBit j with
    | false => rfl
    | true => exact (hn (.step (h.all j hp) he hj hi)).elim
theorem PartI.done {ls : List (List Int)} {v P : Nat} (h : PartI ls v P) (hv : VertsOk ls) (hl : v < 64) (hc : ∀ e ∈ ls, setL e &&& P = 0 ∨ minus (setL e) P = 0) (i : Nat) : P.testBit i = true ↔ Reach ls v i := by
  refine ⟨h.all i, fun hr => ?_⟩
  suffices hs : ∀ x : Int, Reach ls v x → P.testBit x.toNat = true from hs i hr
  intro x hx
  induction hx with
  | refl => exact h.has
  | step hr he hx hy ih =>
    rename_i a b e
    have h0 : ∀ x ∈ e, 0 ≤ x := fun x hx => (hv e he x hx).1
    have ha := h0 _ hx
    have hb := h0 _ hy
    rcases hc e he with h1 | h1
    · have := and_zero.1 h1 a.toNat (by rw [setL_bit h0, Int.toNat_of_nonneg ha]; exact decide_eq_true hx)
      rw [ih] at this
      cases this
    · exact minus_zero.1 h1 b.toNat (by rw [setL_bit h0, Int.toNat_of_nonneg hb]; exact decide_eq_true hy)
theorem PartI.measure {ls : List (List Int)} {v P : Nat} (h : PartI ls v P) (hv : VertsOk ls) {e : List Int} (he : e ∈ ls) (hm : setL e &&& P ≠ 0) (hg : minus (setL e) P ≠ 0) : 2 ^ 64 - (P ||| setL e) < 2 ^ 64 - P := by
  have h1 := or_grows hg
  have h2 := (h.grow hv he hm).lt
  omega
theorem and_bit {s n : Nat} : s &&& 2 ^ n ≠ 0 ↔ s.testBit n = true := by
  constructor
  · intro h
    apply Classical.byContradiction
    intro hn
    refine h (and_zero.2 fun i hi => ?_)
    rw [Nat.testBit_two_pow]
    refine decide_eq_false fun e => ?_
    subst e
    exact hn hi
  · intro h h0
    have := and_zero.1 h0 n h
    rw [Nat.testBit_two_pow] at this
    simp at this
open Classical
/-- A vertex's part, rising. -/
noncomputable def partL (ls : List (List Int)) (v : Nat) : List Int := ((List.range 64).filter fun (i : Nat) => decide (Reach ls v (i : Int))).map fun (i : Nat) => (i : Int)
/-- The parts of the first vertices, each told at its least one. -/
noncomputable def partsTo (ls : List (List Int)) (k : Nat) : List (List Int) := ((List.range k).filter fun v => decide (∀ u : Nat, u < v → ¬ Reach ls u v)).map (partL ls)
theorem partL_is {ls : List (List Int)} {v P : Nat} (h : ∀ i : Nat, P.testBit i = true ↔ Reach ls v i) : eachL P = partL ls v := by
  unfold eachL partL
  congr 1
  refine List.filter_congr fun i _ => ?_
  rw [Bool.eq_iff_iff, decide_eq_true_iff]
  exact h i
theorem partL_mem {ls : List (List Int)} {v : Nat} (hv : VertsOk ls) (hl : v < 64) {x : Int} : x ∈ partL ls v ↔ Reach ls v x := by
  unfold partL
  rw [List.mem_map]
  constructor
  · rintro ⟨i, hi, rfl⟩
    exact of_decide_eq_true (List.mem_filter.1 hi).2
  · intro h
    have hb := Reach.bound hv ⟨by omega, by omega⟩ h
    exact ⟨x.toNat, List.mem_filter.2 ⟨List.mem_range.2 (by omega), decide_eq_true (by rw [Int.toNat_of_nonneg hb.1]; exact h)⟩, by omega⟩
theorem partL_bound (ls : List (List Int)) (v : Nat) : ∀ x ∈ partL ls v, 0 ≤ x ∧ x < 64 := by
  intro x hx
  obtain ⟨i, hi, rfl⟩ := List.mem_map.1 hx
  have := List.mem_range.1 (List.mem_filter.1 hi).1
  omega
theorem partL_len (ls : List (List Int)) (v : Nat) : (partL ls v).length ≤ 64 := by
  unfold partL
  rw [List.length_map]
  exact Nat.le_trans (List.length_filter_le _ _) (by rw [List.length_range]; omega)
theorem partsTo_len (ls : List (List Int)) (k : Nat) : (partsTo ls k).length ≤ k := by
  unfold partsTo
  rw [List.length_map]
  exact Nat.le_trans (List.length_filter_le _ _) (by rw [List.length_range]; omega)
/-- What is met when the parts of the first vertices are told. -/
structure MetI (ls : List (List Int)) (k M : Nat) : Prop where
  lt : M < 2 ^ 64
  met : ∀ i : Nat, M.testBit i = true ↔ ∃ u : Nat, u < k ∧ Reach ls u i
theorem MetI.start (ls : List (List Int)) : MetI ls 0 0 := ⟨by decide, fun i => by rw [Nat.zero_testBit]; simp⟩
theorem MetI.skip {ls : List (List Int)} {k M : Nat} (h : MetI ls k M) (hm : M.testBit k = true) : MetI ls (k + 1) M ∧ partsTo ls (k + 1) = partsTo ls k := by
  obtain ⟨u, hu, hr⟩ := (h.met k).1 hm
  refine ⟨⟨h.lt, fun i => ?_⟩, ?_⟩
  · rw [h.met i]
    constructor
    · rintro ⟨a, ha, hi⟩
      exact ⟨a, by omega, hi⟩
    · rintro ⟨a, ha, hi⟩
      by_cases e : a = k
      · subst e; exact ⟨u, hu, hr.trans hi⟩
      · exact ⟨a, by omega, hi⟩
  · unfold partsTo
    rw [List.range_succ, List.filter_append]
    simp only [List.filter_cons, List.filter_nil]
    rw [if_neg (by rw [decide_eq_true_iff]; exact fun h => h u hu hr), List.append_nil]
theorem MetI.take {ls : List (List Int)} {k M P : Nat} (h : MetI ls k M) (hm : M.testBit k = false) (hp : P < 2 ^ 64) (hP : ∀ i : Nat, P.testBit i = true ↔ Reach ls k i) : MetI ls (k + 1) (M ||| P) ∧ partsTo ls (k + 1) = partsTo ls k ++ [partL ls k] := by
  refine ⟨⟨Nat.or_lt_two_pow h.lt hp, fun i => ?_⟩, ?_⟩
  · rw [Nat.testBit_or, Bool.or_eq_true, h.met i, hP i]
    constructor
    · rintro (⟨a, ha, hi⟩ | hi)
      · exact ⟨a, by omega, hi⟩
      · exact ⟨k, by omega, hi⟩
    · rintro ⟨a, ha, hi⟩
      by_cases e : a = k
      · subst e; exact .inr hi
      · exact .inl ⟨a, by omega, hi⟩
  · have hn : ∀ u : Nat, u < k → ¬ Reach ls u k := fun u hu hr => by
      rw [(h.met k).2 ⟨u, hu, hr⟩] at hm
      cases hm
    unfold partsTo
    rw [List.range_succ, List.filter_append, List.map_append]
    simp only [List.filter_cons, List.filter_nil]
    rw [if_pos (by rw [decide_eq_true_iff]; exact hn)]
    rfl
end Go.Proofs.YtplidcbfbonjlaaDoor
