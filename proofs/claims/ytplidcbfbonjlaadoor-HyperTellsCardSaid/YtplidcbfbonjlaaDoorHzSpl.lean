/-
  HyperMay, the plain part: what may be made of edges, and rows of the call's own that are spoilt.
-/
import Derived.Test.YtplidcbfbonjlaaDoorHzWi
import Derived.Test.YtplidcbfbonjlaaDoorHzOf
namespace Go.Proofs.YtplidcbfbonjlaaDoor
open Go.RowKit Go.Shelf Go.Lib
set_option linter.unusedVariables false
set_option linter.unusedSimpArgs false

theorem hypB_mk {m : Int} {ls : List (List Int)} (hs : sizesB m ls.length = true) (h : ∀ e ∈ ls, edgeB m e = true) : hypB m ls = true := by
  unfold hypB
  rw [Bool.and_eq_true]
  exact ⟨hs, allR_yes fun j hj => h _ (rowN_mem hj)⟩
theorem vertsB_mk {m : Int} {e : List Int} (hv : ∀ x ∈ e, 0 ≤ x ∧ x < m) : vertsB m e = true := by
  unfold vertsB
  refine allI_yes fun j hj => ?_
  rw [getD_at hj]
  have := hv _ (List.getElem_mem hj)
  simp only [Bool.and_eq_true, decide_eq_true_eq]
  exact this
theorem edgeB_mk {m : Int} {e : List Int} (hv : ∀ x ∈ e, 0 ≤ x ∧ x < m) (hp : e.Pairwise (· < ·)) : edgeB m e = true := by
  unfold edgeB
  rw [Bool.and_eq_true]
  refine ⟨vertsB_mk hv, allI_yes fun j hj => ?_⟩
  rw [getD_at hj]
  unfold riseI
  by_cases h0 : j = 0
  · simp [h0]
  · have h1 : j - 1 < e.length := by omega
    have := List.pairwise_iff_getElem.1 hp (j - 1) j h1 hj (by omega)
    rw [Bool.or_eq_true, getD_at h1]
    exact .inr (decide_eq_true this)
theorem fold_range {m : Int} {e : List Int} : (∀ x ∈ e.foldl withI [], 0 ≤ x ∧ x < m) ↔ ∀ x ∈ e, 0 ≤ x ∧ x < m :=
  ⟨fun h x hx => h x ((foldI_mem e).2 (.inr hx)), fun h x hx => by
    rcases (foldI_mem e).1 hx with q | q
    · cases q
    · exact h x q⟩
theorem foldL_len (ls : List (List Int)) : (foldL ls).length = ls.length := by unfold foldL; rw [List.length_map]
/-- The document's rows may be just where the code makes a hypergraph. -/
theorem hypB_fold (m : Int) (ls : List (List Int)) : hypB m (foldL ls) = ofB m ls := by
  rw [Bool.eq_iff_iff]
  constructor
  · intro h
    obtain ⟨h1, h2, h3, h4⟩ := hypB_yes h
    unfold ofB
    rw [Bool.and_eq_true]
    refine ⟨?_, allR_yes fun j hj => vertsB_mk (fold_range.1 (h4 _ (List.mem_map.2 ⟨_, rowN_mem hj, rfl⟩)))⟩
    rw [foldL_len] at h3
    unfold sizesB
    simp only [Bool.and_eq_true, decide_eq_true_eq]
    exact ⟨⟨h1, h2⟩, by omega⟩
  · intro h
    obtain ⟨h1, h2, h3, h4⟩ := ofB_yes h
    refine hypB_mk ?_ fun e he => ?_
    · rw [foldL_len]
      unfold sizesB
      simp only [Bool.and_eq_true, decide_eq_true_eq]
      exact ⟨⟨h1, h2⟩, by omega⟩
    · obtain ⟨e', he', rfl⟩ := List.mem_map.1 he
      exact edgeB_mk (fold_range.2 (h4 e' he')) (foldI_pw e' List.Pairwise.nil)
theorem fold_edges {m : Int} {ls : List (List Int)} (h : ofB m ls = true) : foldL ls = edgesL ls := by
  obtain ⟨h1, h2, h3, h4⟩ := ofB_yes h
  unfold foldL edgesL
  refine List.map_congr_left fun e he => fold_each fun x hx => ?_
  have := h4 e he x hx
  exact ⟨this.1, by show x < 64; omega⟩
/-- Rows of the call's own with some numbers or other. -/
structure SpI (base n : Nat) (v : Value) (vs : List Value) (W : World) : Prop where
  own : W.ownsRow base 27 1 v n vs
  rows : ∀ u ∈ vs, ∃ q cs, W.ownsRow base 3 1 u q cs ∧ ∀ c ∈ cs, ∃ x : Int, c = .int .i64 x
theorem SpI.of {base : Nat} {v : Value} {ps : List (Value × List Int)} {W : World} (h : OwnRK .i64 3 27 base W v ps) : SpI base ps.length v (ps.map Prod.fst) W :=
  ⟨h.own, fun u hu => by
    obtain ⟨p, hp, rfl⟩ := List.mem_map.1 hu
    exact ⟨_, _, (h.rows p hp).1, fun c hc => by
      obtain ⟨x, -, rfl⟩ := List.mem_map.1 hc
      exact ⟨x, rfl⟩⟩⟩
theorem own_block {W : World} {base g q cap : Nat} {e : TypeId} {cs : List Value} (h : W.ownsRow base e 1 (.slice (some ⟨g, 0, none⟩) q cap) q cs) : base ≤ g ∧ ∃ cur, W.heap[g]? = some (.cells cur e (0, 0)) := by
  rcases h.2 with ⟨k, _⟩ | ⟨g', cap', cur, hv, hg, hh, r⟩
  · cases k
  · cases hv
    exact ⟨hg, cur, hh⟩
theorem SpI.set {base n g q cap k : Nat} {v : Value} {vs cs : List Value} {W : World} (h : SpI base n v vs W) (ho : W.ownsRow base 3 1 (.slice (some ⟨g, 0, none⟩) q cap) q cs) (y : Int) : SpI base n v vs (W.setCell ⟨g, k, none⟩ (.int .i64 y)) := by
  obtain ⟨hg, cur, hh⟩ := own_block ho
  refine ⟨own_set h.own hh (by decide) _, fun u hu => ?_⟩
  obtain ⟨q', cs', h1, h2⟩ := h.rows u hu
  have hk := h1.2
  rcases hk with ⟨k1, k2⟩ | ⟨g', cap', cur', hv, hg', hh', r⟩
  · exact ⟨q', cs', ⟨h1.1, .inl ⟨k1, k2⟩⟩, h2⟩
  · subst hv
    by_cases e : g' = g
    · subst e
      refine ⟨q', cs'.set k (.int .i64 y), owns_set h1 _, fun c hc => ?_⟩
      rcases List.mem_or_eq_of_mem_set hc with hc | hc
      · exact h2 c hc
      · exact ⟨y, hc⟩
    · refine ⟨q', cs', ?_, h2⟩
      exact ownsRow_setCell_other h1 (a := ⟨g, k, none⟩) (fun h' => by simp [Value.ownBlock] at h'; exact e h') _
theorem SpI.row {base n : Nat} {v u : Value} {vs : List Value} {W : World} (h : SpI base n v vs W) (hu : u ∈ vs) :
    ∃ a q c, u = .slice a q c ∧ q ≤ 9223372036854775807 ∧ (∃ cs, W.ownsRow base 3 1 u q cs) ∧ (0 < q → ∃ g, a = some ⟨g, 0, none⟩ ∧ base ≤ g ∧ g < W.heap.size ∧ ∀ j, j < q → ∃ x : Int, W.cell? ⟨g, j, none⟩ = some (.int .i64 x) ∧ W.frozen? ⟨g, j, none⟩ = false) := by
  obtain ⟨q, cs, h1, h2⟩ := h.rows u hu
  have hl := owns_len h1
  have hq : q ≤ 9223372036854775807 := by have := SlC.of_owns h1; have := this.len; unfold maxLen at this; omega
  rcases h1.2 with ⟨k1, k2⟩ | ⟨g, cap, cur, hv, hg, hh, r1, r2, r3, r4⟩
  · subst k1
    obtain ⟨a, c, e⟩ := owns_shape2 h1
    cases e
    exact ⟨none, 0, 0, rfl, by decide, ⟨cs, h1⟩, fun h0 => absurd h0 (Nat.lt_irrefl 0)⟩
  · subst hv
    refine ⟨some ⟨g, 0, none⟩, q, cap, rfl, hq, ⟨cs, h1⟩, fun _ => ⟨g, rfl, hg, lt_of_block hh, fun j hj => ?_⟩⟩
    have hj' : j < cs.length := by omega
    obtain ⟨x, hx⟩ := h2 _ (List.getElem_mem hj')
    exact ⟨x, owns_cell h1 (by rw [List.getElem?_eq_getElem hj', hx])⟩
theorem SpI.head {base n i : Nat} {v : Value} {vs : List Value} {W : World} (h : SpI base n v vs W) (hi : i < n) :
    ∃ g c u, v = .slice (some ⟨g, 0, none⟩) n c ∧ u ∈ vs ∧ W.cell? ⟨g, i, none⟩ = some u ∧ g < W.heap.size := by
  have hl := owns_len h.own
  rcases h.own.2 with ⟨k1, k2⟩ | ⟨g, cap, cur, hv, hg, hh, r1, r2, r3, r4⟩
  · omega
  · subst hv
    have hi' : i < vs.length := by omega
    exact ⟨g, cap, vs[i], rfl, List.getElem_mem hi', (owns_cell h.own (List.getElem?_eq_getElem hi')).1, lt_of_block hh⟩
end Go.Proofs.YtplidcbfbonjlaaDoor
