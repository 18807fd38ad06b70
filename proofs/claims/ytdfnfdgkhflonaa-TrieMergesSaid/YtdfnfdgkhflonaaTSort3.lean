/-
  slices.Sort of an array of three in a box of the call's own; two cuts, one behind the other.
-/
import Derived.Test.YtdfnfdgkhflonaaTSort
import Derived.Test.YtdfnfdgkhflonaaTJoinP
import Derived.Test.YtdfnfdgkhflonaaTOwn2
namespace Go.Proofs.Ytdfnfdgkhflonaa
open Go.RowKit Go.Sort
set_option linter.unusedVariables false

/-- A box of three, sorted; nothing else turned. -/
theorem sort3b_any (blk : Nat) (x y z : Int) (ty : TypeId) (w : World) (hb : w.heap[blk]? = some (.cells #[.int .u64 x, .int .u64 y, .int .u64 z] ty (0, 0))) :
    Calls Try.prog 56 #[.slice (some ⟨blk, 0, none⟩) 3 3] w fun e w' =>
      e = .returned (.tuple #[]) ∧ ∃ a b c : Int, a ≤ b ∧ b ≤ c ∧ w'.heap[blk]? = some (.cells #[.int .u64 a, .int .u64 b, .int .u64 c] ty (0, 0)) ∧ w.grownBy w' (some blk) := by
  have hH : Holds (Value.int .u64) w blk 0 #[x, y, z] := by
    intro j hj
    have hj3 : j = 0 ∨ j = 1 ∨ j = 2 := by simp at hj; omega
    rcases hj3 with rfl | rfl | rfl <;> simp [World.cell?, World.frozen?, hb]
  refine (sort3_any blk 0 3 #[x, y, z] w hH rfl).mono ?_
  rintro e w' ⟨rfl, n, rfl⟩
  obtain ⟨⟨hs, -, -⟩, hso⟩ := insertionSort_holds (lt := ltInt) swo_ltInt #[x, y, z] 0 3 (by omega) (by simp)
  obtain ⟨d, hd⟩ : ∃ d, Sort.insertionSort ltInt #[x, y, z] 0 (#[x, y, z] : Array Int).size = d := ⟨_, rfl⟩
  rw [hd]
  have hd' : Sort.insertionSort ltInt #[x, y, z] 0 3 = d := hd
  rw [hd'] at hs hso
  obtain ⟨a, b, c, rfl⟩ : ∃ a b c, d = #[a, b, c] := by
    match d, hs with
    | ⟨[a, b, c]⟩, _ => exact ⟨a, b, c, rfl⟩
  have h1 := hso 0 1 (by omega) (by omega) (by omega)
  have h2 := hso 1 2 (by omega) (by omega) (by omega)
  simp [ltInt] at h1 h2
  refine ⟨rfl, a, b, c, h1, h2, ?_, rfl, rfl, rfl, ?_, ?_⟩
  · show (w.heap.modify blk _)[blk]? = _
    rw [Array.getElem?_modify]
    simp [hb, onCells, putCells]
  · show w.heap.size ≤ (w.heap.modify blk _).size
    simp
  · intro k hk hne
    show (w.heap.modify blk _)[k]? = _
    rw [Array.getElem?_modify, if_neg (fun h => hne (by rw [h]))]

/-- Rows of the call's own live where a box of another type is written. -/
theorem owns_grownBox {w w' : World} {base : Nat} {e e' : TypeId} {size : Nat} {v : Value} {n : Nat} {xs : List Value} {b : Nat} {cs : Array Value} {fr : Nat × Nat} (h : w.ownsRow base e size v n xs) (hb : w.heap[b]? = some (.cells cs e' fr)) (hne : e ≠ e') (hg : w.grownBy w' (some b)) : w'.ownsRow base e size v n xs := by
  have hn := own_ne h hb hne
  obtain ⟨h1, h2⟩ := h
  refine ⟨h1, ?_⟩
  rcases h2 with h2 | ⟨g, cap, cur, hv, hg', hh, r⟩
  · exact .inl h2
  · refine .inr ⟨g, cap, cur, hv, hg', ?_, r⟩
    rw [hg.block g (lt_of_block hh) (fun h => hn (by rw [hv]; simpa [Value.ownBlock] using h.symm))]
    exact hh

/-- Two cuts, one behind the other, are one. -/
theorem cuts_one {l : List Pr} (h : RunOk l) {a b c : Int} (hab : a ≤ b) (hbc : b ≤ c) :
    unionL (l.filter (fun p => !cutB a b p)) (l.filter (fun p => !cutB b c p)) = l.filter (fun p => !cutB a c p) := by
  have h1 := pairwise_of (run_filter h (fun p => !cutB a b p)).2
  have h2 := pairwise_of (run_filter h (fun p => !cutB b c p)).2
  have h3 := pairwise_of (run_filter h (fun p => !cutB a c p)).2
  refine rise_eq (merge_sorted _ _ _ (Nat.le_refl _) h1 h2) h3 (fun p => ?_)
  rw [mem_merge _ _ _ (Nat.le_refl _)]
  simp only [List.mem_filter, cutB, Bool.not_eq_true', Bool.or_eq_false_iff, decide_eq_false_iff_not]
  constructor
  · rintro (⟨hp, h4, h5⟩ | ⟨hp, h4, h5⟩)
    · exact ⟨hp, by omega, by omega⟩
    · exact ⟨hp, by omega, by omega⟩
  · rintro ⟨hp, h4, h5⟩
    by_cases hpb : p.a < b
    · exact Or.inl ⟨hp, by omega, by omega⟩
    · exact Or.inr ⟨hp, by omega, by omega⟩
end Go.Proofs.Ytdfnfdgkhflonaa
