/-
  The chapter's two hypergraphs: what hyper says of them.
-/
import Derived.Test.YtplidcbfbonjlaaDoorHzOwn
import Derived.Test.YtplidcbfbonjlaaDoorHzLeft
import Derived.Test.YtplidcbfbonjlaaDoorHzJoins
namespace Go.Proofs.YtplidcbfbonjlaaDoor
open Go.RowKit Go.Shelf Go.Lib
set_option linter.unusedVariables false
set_option linter.unusedSimpArgs false

theorem all_small {p : Nat → Prop} {s : Nat} (hs : s < 2 ^ 6) (h : ∀ v, v < 6 → s.testBit v = true → p v) : ∀ v, s.testBit v = true → p v := fun v hv => by
  by_cases hl : v < 6
  · exact h v hl hv
  · rw [Nat.testBit_lt_two_pow (Nat.lt_of_lt_of_le hs (Nat.pow_le_pow_right (by decide) (by omega)))] at hv
    cases hv
theorem not_sub {a b : Nat} (v : Nat) (h1 : a.testBit v = true) (h2 : b.testBit v = false) : ¬ Sub a b := fun h => by
  rw [h v h1] at h2; cases h2
theorem loses_small {A B : List Nat} {s s' : Nat} (hs : s < 2 ^ 6) (hs' : s' < 2 ^ 6) (h1 : ∀ v, v < 6 → s'.testBit v = true → s.testBit v = true) (h2 : ∀ v, v < 6 → s.testBit v = true → s'.testBit v = false → (∀ t ∈ A, t.testBit v = false) ∧ ∀ t ∈ B, t.testBit v = false) : Loses A s s' B :=
  ⟨all_small hs' h1, all_small hs h2⟩
/-- What stands on the way. -/
structure WayOf (E cur : List Nat) : Prop where
  cof : Cof E cur
  keep : Keep E cur
theorem WayOf.lose {E A B : List Nat} {s s' : Nat} (h : WayOf E (A ++ s :: B)) (k : Loses A s s' B) : WayOf E (A ++ s' :: B) := ⟨k.cof h.cof, k.keep h.cof h.keep⟩
theorem WayOf.go {E A B : List Nat} {s : Nat} (h : WayOf E (A ++ s :: B)) (k : Goes A s B) : WayOf E (A ++ B) := ⟨k.cof h.cof, k.keep h.keep⟩
def fourL : List (List Int) := [[0, 1], [1, 2], [3]]
theorem four_sets : fourL.map setL = [3, 6, 8] := by decide
theorem ring_sets : ringL.map setL = [3, 6, 5] := by decide
theorem irr_nil : Irr [] := ⟨List.Pairwise.nil, fun s hs => (by cases hs), fun s hs => (by cases hs)⟩
theorem four_left : LeftOf (fourL.map setL) [] := by
  rw [four_sets]
  have h0 : WayOf [3, 6, 8] [3, 6, 8] := ⟨Cof.self _, Keep.self _⟩
  have h1 := h0.lose (A := []) (s := 3) (s' := 2) (B := [6, 8]) (loses_small (by decide) (by decide) (by decide) (by decide))
  have h2 := WayOf.lose (E := [3, 6, 8]) (A := [2]) (s := 6) (s' := 2) (B := [8]) h1 (loses_small (by decide) (by decide) (by decide) (by decide))
  have h3 := WayOf.lose (E := [3, 6, 8]) (A := [2, 2]) (s := 8) (s' := 0) (B := []) h2 (loses_small (by decide) (by decide) (by decide) (by decide))
  have h4 := WayOf.go (E := [3, 6, 8]) (A := [2, 2]) (s := 0) (B := []) h3 (.inl rfl)
  have h5 := WayOf.go (E := [3, 6, 8]) (A := []) (s := 2) (B := [2]) h4 (.inr ⟨2, .inr (by simp), Sub.refl _⟩)
  have h6 := WayOf.lose (E := [3, 6, 8]) (A := []) (s := 2) (s' := 0) (B := []) h5 (loses_small (by decide) (by decide) (by decide) (by decide))
  have h7 := WayOf.go (E := [3, 6, 8]) (A := []) (s := 0) (B := []) h6 (.inl rfl)
  exact ⟨h7.cof, h7.keep, irr_nil⟩
theorem ring_left : LeftOf (ringL.map setL) [3, 6, 5] := by
  rw [ring_sets]
  refine ⟨Cof.self _, Keep.self _, ?_, fun s hs => ?_, fun s hs => ?_⟩
  · refine List.pairwise_cons.2 ⟨fun b hb => ?_, List.pairwise_cons.2 ⟨fun b hb => ?_, List.pairwise_cons.2 ⟨fun b hb => (by cases hb), List.Pairwise.nil⟩⟩⟩
    · rcases List.mem_cons.1 hb with rfl | hb
      · exact ⟨not_sub 0 (by decide) (by decide), not_sub 2 (by decide) (by decide)⟩
      · obtain rfl := List.mem_singleton.1 hb
        exact ⟨not_sub 1 (by decide) (by decide), not_sub 2 (by decide) (by decide)⟩
    · obtain rfl := List.mem_singleton.1 hb
      exact ⟨not_sub 1 (by decide) (by decide), not_sub 0 (by decide) (by decide)⟩
  · rcases List.mem_cons.1 hs with rfl | hs
    · exact ⟨0, by decide⟩
    · rcases List.mem_cons.1 hs with rfl | hs
      · exact ⟨1, by decide⟩
      · obtain rfl := List.mem_singleton.1 hs
        exact ⟨0, by decide⟩
  · rcases List.mem_cons.1 hs with rfl | hs
    · exact all_small (by decide) (by decide)
    · rcases List.mem_cons.1 hs with rfl | hs
      · exact all_small (by decide) (by decide)
      · obtain rfl := List.mem_singleton.1 hs
        exact all_small (by decide) (by decide)
theorem four_out {out : List (List Int)} (h : LeftP 4 fourL out) : out = [] := by
  obtain ⟨c, hc, -, hm⟩ := h.yes (by decide)
  refine List.eq_nil_iff_forall_not_mem.2 fun x hx => ?_
  obtain ⟨s, hs, -⟩ := (hm x).1 hx
  exact absurd (hc.sub four_left s hs) List.not_mem_nil
theorem ring_out {out : List (List Int)} (h : LeftP 3 ringL out) : out = [[0, 1], [0, 2], [1, 2]] := by
  refine (h.yes (by decide)).unique ⟨[3, 6, 5], ring_left, by unfold RiseC; decide, fun x => ?_⟩
  have e1 : eachL 3 = [0, 1] := by decide
  have e2 : eachL 6 = [1, 2] := by decide
  have e3 : eachL 5 = [0, 2] := by decide
  simp only [List.mem_cons, List.not_mem_nil, or_false]
  constructor
  · rintro (rfl | rfl | rfl)
    · exact ⟨3, .inl rfl, e1.symm⟩
    · exact ⟨5, .inr (.inr rfl), e3.symm⟩
    · exact ⟨6, .inr (.inl rfl), e2.symm⟩
  · rintro ⟨s, rfl | rfl | rfl, rfl⟩
    · exact .inl e1
    · exact .inr (.inr e2)
    · exact .inr (.inl e3)
theorem four_tree {P : List Int} {no : Int} (h : TreeP 4 fourL P no) : no = 0 ∧ P.length = 3 ∧ JoinP (fourL.map setL) P := by
  rcases h.yes (by decide) with ⟨h1, L, h2, h3, -⟩ | ⟨-, -, c, hc, hl⟩
  · have hJ := h3.join h2
    exact ⟨h1, hJ.len, hJ⟩
  · obtain ⟨s, hs⟩ := List.exists_mem_of_ne_nil c hc
    exact absurd (hl.sub four_left s hs) List.not_mem_nil
theorem ring_tree {P : List Int} {no : Int} (h : TreeP 3 ringL P no) : no = 301 := by
  rcases h.yes (by decide) with ⟨-, L, -, -, h4⟩ | ⟨h1, -⟩
  · exact absurd (ring_left.sub h4 3 (List.mem_cons_self ..)) List.not_mem_nil
  · exact h1
theorem four_low {u x : Int} (h : Reach fourL u x) (hu : u ≤ 2) : x ≤ 2 := by
  induction h with
  | refl => exact hu
  | step _ he hx hy ih =>
    simp only [fourL, List.mem_cons, List.not_mem_nil, or_false] at he
    rcases he with rfl | rfl | rfl <;> simp only [List.mem_cons, List.not_mem_nil, or_false] at hx hy <;> omega
open Classical in
theorem four_parts : (partsTo fourL 4).length = 2 := by
  have h01 : Reach fourL (0 : Nat) (1 : Nat) := .step .refl (e := [0, 1]) (by decide) (by decide) (by decide)
  have h12 : Reach fourL (1 : Nat) (2 : Nat) := .step .refl (e := [1, 2]) (by decide) (by decide) (by decide)
  have p0 : ∀ u : Nat, u < 0 → ¬ Reach fourL u (0 : Nat) := fun u hu => by omega
  have p1 : ¬ ∀ u : Nat, u < 1 → ¬ Reach fourL u (1 : Nat) := fun h => h 0 (by omega) h01
  have p2 : ¬ ∀ u : Nat, u < 2 → ¬ Reach fourL u (2 : Nat) := fun h => h 1 (by omega) h12
  have p3 : ∀ u : Nat, u < 3 → ¬ Reach fourL u (3 : Nat) := fun u hu h => by have := four_low h (by omega); omega
  unfold partsTo
  rw [List.length_map, show List.range 4 = [0, 1, 2, 3] from rfl]
  rw [List.filter_cons, if_pos (decide_eq_true p0), List.filter_cons, if_neg (by rw [decide_eq_true_iff]; exact p1), List.filter_cons, if_neg (by rw [decide_eq_true_iff]; exact p2), List.filter_cons, if_pos (decide_eq_true p3)]
  rfl
end Go.Proofs.YtplidcbfbonjlaaDoor
