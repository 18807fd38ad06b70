/-
  The trie of a run, in plain Lean: what trie.Of and the document's Of build, and that it is the same.
-/
import Derived.Test.YtdfnfdgkhflonaaTOwn2
namespace Go.Proofs.Ytdfnfdgkhflonaa
open Go.RowKit
set_option linter.unusedVariables false

/-- The last branch ends at a place. -/
def setT (bs : List Br) (t : Int) : List Br := bs.dropLast ++ [{ bs.getLastD Br.no with t := t }]
/-- Does a new branch begin at place i? -/
def newAt (l : List Pr) (i : Nat) : Prop := i = 0 ∨ (l.getD (i - 1) Pr.no).a ≠ (l.getD i Pr.no).a
instance (l : List Pr) (i : Nat) : Decidable (newAt l i) := by unfold newAt; infer_instance
/-- The branches of the first i pairs. -/
def brTo (l : List Pr) : Nat → List Br
  | 0 => []
  | i + 1 => setT (if newAt l i then brTo l i ++ [⟨(l.getD i Pr.no).a, i, 0⟩] else brTo l i) ((i : Int) + 1)
/-- The branches of a run. -/
def brOf (l : List Pr) : List Br := brTo l l.length
theorem setT_len {bs : List Br} (h : bs ≠ []) (t : Int) : (setT bs t).length = bs.length := by
  have := List.length_pos_iff.2 h
  simp [setT]; omega
theorem brTo_ne {l : List Pr} {i : Nat} (h : 0 < i) : brTo l i ≠ [] := by
  cases i with
  | zero => omega
  | succ i => simp [brTo, setT]
theorem brTo_len (l : List Pr) (i : Nat) : (brTo l i).length ≤ i := by
  induction i with
  | zero => simp [brTo]
  | succ i ih =>
    by_cases hn : newAt l i
    · have e : (brTo l (i + 1)).length = (brTo l i ++ [(⟨(l.getD i Pr.no).a, i, 0⟩ : Br)]).length := by
        show (setT _ _).length = _
        rw [if_pos hn, setT_len (by simp)]
      rw [e]; simp; omega
    · have e : (brTo l (i + 1)).length = (brTo l i).length := by
        show (setT _ _).length = _
        have h0 : 0 < i := by
          rcases Nat.eq_zero_or_pos i with h | h
          · exact absurd (Or.inl h) hn
          · exact h
        rw [if_neg hn, setT_len (brTo_ne h0)]
      omega
theorem setT_flat {bs : List Br} (h : bs ≠ []) (t : Int) : (setT bs t).flatMap Br.cells = (bs.flatMap Br.cells).set ((bs.length - 1) * 3 + 2) (.int .i64 t) := by
  obtain ⟨init, b, rfl⟩ : ∃ init b, bs = init ++ [b] := ⟨bs.dropLast, bs.getLast h, (List.dropLast_concat_getLast h).symm⟩
  have e : setT (init ++ [b]) t = init ++ [{ b with t := t }] := by simp [setT]
  have hl := flat_len Br.len init
  rw [e, List.flatMap_append, List.flatMap_append, List.set_append_right _ _ (by rw [hl]; simp)]
  rw [hl]
  simp [Br.cells]
/-- A row of the call's own, one of its cells set. -/
theorem owns_set {w : World} {base : Nat} {e : TypeId} {size g n cap : Nat} {xs : List Value} {j : Nat} (h : w.ownsRow base e size (.slice (some ⟨g, 0, none⟩) n cap) n xs) (u : Value) : (w.setCell ⟨g, j, none⟩ u).ownsRow base e size (.slice (some ⟨g, 0, none⟩) n cap) n (xs.set j u) := by
  obtain ⟨hl, h⟩ := h
  refine ⟨by rw [List.length_set]; exact hl, ?_⟩
  rcases h with ⟨h, _⟩ | ⟨g', cap', cur, hv, hg, hh, h1, h2, h3, h4⟩
  · cases h
  · cases hv
    refine Or.inr ⟨g, cap, cur.setIfInBounds j u, rfl, hg, ?_, h1, h2, by simp [h3], ?_⟩
    · exact heap_setCell_same w g j cur e u hh
    · rw [Array.toList_setIfInBounds, List.take_set, h4]
theorem owns_cell {w : World} {base : Nat} {e : TypeId} {size g n cap : Nat} {xs : List Value} {j : Nat} {u : Value} (h : w.ownsRow base e size (.slice (some ⟨g, 0, none⟩) n cap) n xs) (hj : xs[j]? = some u) : w.cell? ⟨g, j, none⟩ = some u ∧ w.frozen? ⟨g, j, none⟩ = false := by
  obtain ⟨hl, h⟩ := h
  rcases h with ⟨h, _⟩ | ⟨g', cap', cur, hv, hg, hh, h1, h2, h3, h4⟩
  · cases h
  · cases hv
    have hlt := (List.getElem?_eq_some_iff.1 hj).1
    refine ⟨?_, ?_⟩
    · rw [box_cell hh]
      rw [← h4, List.getElem?_take_of_lt (by omega)] at hj
      simpa using hj
    · simp [World.frozen?, hh]
theorem box_frozen {w : World} {b i : Nat} {cs : Array Value} {e : TypeId} (h : w.heap[b]? = some (.cells cs e (0, 0))) : w.frozen? ⟨b, i, none⟩ = false := by simp [World.frozen?, h]
theorem box_set {w : World} {b i : Nat} {cs : Array Value} {e : TypeId} (h : w.heap[b]? = some (.cells cs e (0, 0))) (v : Value) : (w.setCell ⟨b, i, none⟩ v).heap[b]? = some (.cells (cs.setIfInBounds i v) e (0, 0)) := heap_setCell_same w b i cs e v h
theorem box_other {w : World} {b b' i : Nat} {cs : Array Value} {e : TypeId} (h : w.heap[b]? = some (.cells cs e (0, 0))) (hne : b ≠ b') (v : Value) : (w.setCell ⟨b', i, none⟩ v).heap[b]? = some (.cells cs e (0, 0)) := (heap_setCell_other w _ b v hne).trans h
/-- Nobody's block is another type's. -/
theorem own_set {w : World} {base : Nat} {e e' : TypeId} {size : Nat} {v : Value} {n : Nat} {xs : List Value} {b i : Nat} {cs : Array Value} (h : w.ownsRow base e size v n xs) (hb : w.heap[b]? = some (.cells cs e' (0, 0))) (hne : e ≠ e') (u : Value) : (w.setCell ⟨b, i, none⟩ u).ownsRow base e size v n xs := ownsRow_setCell_other h (a := ⟨b, i, none⟩) (fun h' => own_ne h hb hne h'.symm) u
end Go.Proofs.Ytdfnfdgkhflonaa
