/-
  The parts in order: each rises, their least ones rise, all together they are the vertices. Plain: no program in sight.
-/
import Derived.Test.YtplidcbfbonjlaaDoorHzPt
namespace Go.Proofs.YtplidcbfbonjlaaDoor
set_option linter.unusedVariables false
set_option linter.unusedSimpArgs false

theorem lt_unique : ∀ {a b : List Int}, a.Pairwise (· < ·) → b.Pairwise (· < ·) → (∀ x, x ∈ a ↔ x ∈ b) → a = b
  | [], [], _, _, _ => rfl
  | [], y :: b, _, _, h => absurd ((h y).2 (List.mem_cons_self ..)) List.not_mem_nil
  | x :: a, [], _, _, h => absurd ((h x).1 (List.mem_cons_self ..)) List.not_mem_nil
  | x :: a, y :: b, ha, hb, h => by
    obtain ⟨h1, h2⟩ := List.pairwise_cons.1 ha
    obtain ⟨h3, h4⟩ := List.pairwise_cons.1 hb
    have hxy : x = y := by
      rcases List.mem_cons.1 ((h x).1 (List.mem_cons_self ..)) with e | e
      · exact e
      · rcases List.mem_cons.1 ((h y).2 (List.mem_cons_self ..)) with e' | e'
        · exact e'.symm
        · have := h3 x e; have := h1 y e'; omega
    subst hxy
    rw [lt_unique h2 h4 fun z => ?_]
    constructor
    · intro hz
      rcases List.mem_cons.1 ((h z).1 (List.mem_cons_of_mem _ hz)) with e | e
      · have := h1 z hz; omega
      · exact e
    · intro hz
      rcases List.mem_cons.1 ((h z).2 (List.mem_cons_of_mem _ hz)) with e | e
      · have := h3 z hz; omega
      · exact e
theorem upL_pw (k : Nat) : (upL k).Pairwise (· < ·) := by
  unfold upL
  rw [List.pairwise_map]
  exact List.pairwise_lt_range.imp fun h => by omega
theorem partL_pw (ls : List (List Int)) (v : Nat) : (partL ls v).Pairwise (· < ·) := by
  unfold partL
  rw [List.pairwise_map]
  exact (List.pairwise_lt_range.filter _).imp fun h => by omega
theorem pw_step {xs : List Int} (h : xs.Pairwise (· < ·)) : ∀ t, t + 1 < xs.length → xs.getD t 0 ≤ xs.getD (t + 1) 0 := fun t ht => by
  rw [getD_at (by omega), getD_at ht]
  have := (List.pairwise_iff_getElem.1 h) t (t + 1) (by omega) ht (by omega)
  omega
open Classical in
/-- The vertices that parts are told at. -/
noncomputable def leastL (ls : List (List Int)) (k : Nat) : List Nat := (List.range k).filter fun v => decide (∀ u : Nat, u < v → ¬ Reach ls u v)
theorem parts_least (ls : List (List Int)) (k : Nat) : partsTo ls k = (leastL ls k).map (partL ls) := rfl
theorem leastL_pw (ls : List (List Int)) (k : Nat) : (leastL ls k).Pairwise (· < ·) := List.pairwise_lt_range.filter _
open Classical in
theorem leastL_mem {ls : List (List Int)} {k v : Nat} : v ∈ leastL ls k ↔ v < k ∧ ∀ u : Nat, u < v → ¬ Reach ls u v := by
  unfold leastL
  rw [List.mem_filter, List.mem_range, decide_eq_true_iff]
theorem part_first {ls : List (List Int)} {v : Nat} (hv : VertsOk ls) (h64 : v < 64) (hl : ∀ u : Nat, u < v → ¬ Reach ls u v) : 0 < (partL ls v).length ∧ (partL ls v).getD 0 0 = (v : Int) := by
  have hm : (v : Int) ∈ partL ls v := (partL_mem hv h64).2 .refl
  have hp := List.length_pos_of_mem hm
  refine ⟨hp, ?_⟩
  rw [getD_at hp]
  have h0 : (partL ls v)[0] ∈ partL ls v := List.getElem_mem hp
  have hr := (partL_mem hv h64).1 h0
  have hb := partL_bound ls v _ h0
  have hge : (v : Int) ≤ (partL ls v)[0] := by
    apply Classical.byContradiction
    intro hc
    obtain ⟨x, hx⟩ : ∃ x : Nat, (partL ls v)[0] = (x : Int) := ⟨((partL ls v)[0]).toNat, (Int.toNat_of_nonneg hb.1).symm⟩
    rw [hx] at hr hc
    exact hl x (by omega) hr.symm
  obtain ⟨j, hj, e⟩ := List.getElem_of_mem hm
  by_cases q : j = 0
  · subst q; exact e
  · have := (List.pairwise_iff_getElem.1 (partL_pw ls v)) 0 j hp hj (by omega)
    omega
/-- What the law asks of a part. -/
theorem part_ok {m : Int} {ls : List (List Int)} (h : hypB m ls = true) {i : Nat} (hi : i < (partsTo ls m.toNat).length) :
    0 < (rowN (partsTo ls m.toNat) i).length ∧ (∀ t, t + 1 < (rowN (partsTo ls m.toNat) i).length → (rowN (partsTo ls m.toNat) i).getD t 0 ≤ (rowN (partsTo ls m.toNat) i).getD (t + 1) 0) ∧ (0 < i → (rowN (partsTo ls m.toNat) (i - 1)).getD 0 0 < (rowN (partsTo ls m.toNat) i).getD 0 0) := by
  have hv := hypB_ok h
  obtain ⟨h0, h32, -, hm⟩ := hypB_yes h
  have hL : (partsTo ls m.toNat).length = (leastL ls m.toNat).length := by rw [parts_least, List.length_map]
  have row : ∀ j, (hj : j < (leastL ls m.toNat).length) → rowN (partsTo ls m.toNat) j = partL ls (leastL ls m.toNat)[j] := fun j hj => by
    rw [rowN_at (by rw [hL]; exact hj)]
    simp [parts_least]
  have fst : ∀ j, (hj : j < (leastL ls m.toNat).length) → 0 < (rowN (partsTo ls m.toNat) j).length ∧ (rowN (partsTo ls m.toNat) j).getD 0 0 = ((leastL ls m.toNat)[j] : Int) := fun j hj => by
    rw [row j hj]
    obtain ⟨h1, h2⟩ := leastL_mem.1 (List.getElem_mem hj)
    exact part_first hv (by omega) h2
  have hi' : i < (leastL ls m.toNat).length := by omega
  refine ⟨(fst i hi').1, ?_, fun hp => ?_⟩
  · rw [row i hi']
    exact pw_step (partL_pw _ _)
  · rw [(fst i hi').2, (fst (i - 1) (by omega)).2]
    have := (List.pairwise_iff_getElem.1 (leastL_pw ls m.toNat)) (i - 1) i (by omega) hi' (by omega)
    omega
/-- All parts together. -/
theorem parts_all {m : Int} {ls : List (List Int)} (h : hypB m ls = true) : (partsTo ls m.toNat).flatten.Nodup ∧ ∀ x, x ∈ (partsTo ls m.toNat).flatten ↔ x ∈ upL m.toNat := by
  have hv := hypB_ok h
  obtain ⟨h0, h32, -, hm⟩ := hypB_yes h
  constructor
  · unfold List.Nodup
    rw [List.pairwise_flatten]
    refine ⟨fun p hp => ?_, ?_⟩
    · obtain ⟨v, -, -, rfl⟩ := partsTo_mem.1 hp
      exact (partL_pw ls v).imp fun h => by omega
    · rw [parts_least, List.pairwise_map]
      refine (List.Pairwise.and_mem.1 (leastL_pw ls m.toNat)).imp fun {a b} hab => ?_
      obtain ⟨ha, hb, hlt⟩ := hab
      intro x hx y hy e
      subst e
      have ka := (leastL_mem.1 ha).1
      have kb := leastL_mem.1 hb
      exact kb.2 a hlt (((partL_mem hv (by omega)).1 hx).trans ((partL_mem hv (by omega)).1 hy).symm)
  · intro x
    rw [List.mem_flatten, upL_mem]
    constructor
    · rintro ⟨p, hp, hx⟩
      obtain ⟨v, h1, -, rfl⟩ := partsTo_mem.1 hp
      have hr := (partL_mem hv (by omega)).1 hx
      cases hr with
      | refl => omega
      | step _ he hx' hy => have := hm _ he x hy; omega
    · rintro ⟨h1, h2⟩
      obtain ⟨k, rfl⟩ : ∃ k : Nat, x = k := ⟨x.toNat, (Int.toNat_of_nonneg h1).symm⟩
      obtain ⟨u, h3, h4, h5⟩ := least_part (ls := ls) (m := m.toNat) (x := k) (by omega)
      exact ⟨_, partsTo_mem.2 ⟨u, by omega, h4, rfl⟩, (partL_mem hv (by omega)).2 h5⟩
/-- Put in order they are the vertices. -/
theorem parts_sorted {m : Int} {ls : List (List Int)} (h : hypB m ls = true) {ys : List Int} (hp : ys.Perm (partsTo ls m.toNat).flatten) (hs : ys.Pairwise (· ≤ ·)) : ys = upL m.toNat := by
  obtain ⟨h1, h2⟩ := parts_all h
  have hn : ys.Nodup := hp.nodup_iff.2 h1
  refine lt_unique ?_ (upL_pw _) fun x => ?_
  · exact (hs.and hn).imp fun {a b} hab => by obtain ⟨q1, q2⟩ := hab; have : a ≠ b := q2; omega
  · rw [hp.mem_iff, h2]
/-- How many of an edge's vertices a part has. -/
theorem part_count {m : Int} {ls : List (List Int)} (h : hypB m ls = true) {p e : List Int} (hp : p ∈ partsTo ls m.toNat) (he : e ∈ ls) : e.countP (fun x => decide (x ∈ p)) = 0 ∨ e.countP (fun x => decide (x ∈ p)) = e.length := by
  have hv := hypB_ok h
  obtain ⟨h0, h32, -, hm⟩ := hypB_yes h
  obtain ⟨v, h1, -, rfl⟩ := partsTo_mem.1 hp
  by_cases q : ∃ x ∈ e, x ∈ partL ls v
  · obtain ⟨x, hx, hxp⟩ := q
    refine .inr (List.countP_eq_length.2 fun y hy => decide_eq_true (part_edge hv (by omega) he hx hy hxp))
  · refine .inl (List.countP_eq_zero.2 fun y hy hd => q ⟨y, hy, of_decide_eq_true hd⟩)
theorem insideL_next (ls : List (List Int)) (p e : List Int) : insideL (ls ++ [e]) p = insideL ls p ++ (if e.countP (fun x => decide (x ∈ p)) = 0 then [] else [e]) := by
  unfold insideL
  rw [List.filter_append]
  congr 1
  by_cases q : e.countP (fun x => decide (x ∈ p)) = 0
  · rw [if_pos q]
    have := List.countP_eq_zero.1 q
    simp only [List.filter_cons, List.filter_nil]
    rw [if_neg]
    rw [List.any_eq_true]
    rintro ⟨x, hx, hd⟩
    exact this x hx hd
  · rw [if_neg q]
    simp only [List.filter_cons, List.filter_nil]
    rw [if_pos]
    rw [List.any_eq_true]
    apply Classical.byContradiction
    intro hc
    exact q (List.countP_eq_zero.2 fun x hx hd => hc ⟨x, hx, hd⟩)
end Go.Proofs.YtplidcbfbonjlaaDoor
