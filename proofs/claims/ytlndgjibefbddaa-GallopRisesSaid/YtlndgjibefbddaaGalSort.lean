/-
  slices.Sort at uint64 of a row of the call's own; what is sorted and without twins rises.
-/
import Derived.Test.YtlndgjibefbddaaSoTop
import Derived.Test.YtlndgjibefbddaaSoNil
import Derived.Test.YtlndgjibefbddaaGalComp
import Derived.Test.YtlndgjibefbddaaPlain
namespace Go.Proofs.Ytlndgjibefbddaa
open Go.RowKit Go.Sort
set_option linter.unusedVariables false

theorem holds_of_blockU {w : World} {g : Nat} {cur : Array Value} {e : TypeId} {ss : List Int} (hb : w.heap[g]? = some (.cells cur e (0, 0))) (ht : cur.toList.take ss.length = ss.map (Value.int .u64)) : Holds (Value.int .u64) w g 0 ss.toArray := by
  intro j hj
  have hj' : j < ss.length := by simpa using hj
  refine ⟨?_, by simp [World.frozen?, hb]⟩
  have h1 : (cur.toList.take ss.length)[j]? = (ss.map (Value.int .u64))[j]? := by rw [ht]
  rw [List.getElem?_take_of_lt hj'] at h1
  simp only [World.cell?, hb, Nat.zero_add]
  simp only [Option.isSome_none, Bool.false_eq_true, if_false]
  rw [← Array.getElem?_toList, h1]
  simp [hj']
theorem heap_sortedU {w : World} {g n : Nat} {os : Array Obj} {cur : Array Value} {e : TypeId} {fr : Nat × Nat} (d : Array Int) (hb : w.heap[g]? = some (.cells cur e fr)) :
    (grow (putRow (Value.int .u64) (Sort.ahead w n) g 0 d) os).heap[g]? = some (.cells (putCells (Value.int .u64) 0 d cur) e fr) := by
  have hg : g < w.heap.size := (Array.getElem?_eq_some_iff.1 hb).1
  rw [heap_grow_old _ _ (by simpa using hg)]
  simp [putRow, mapBlock, Sort.ahead, Array.getElem?_modify, hb, onCells]
theorem grownBy_sortedU {w : World} {g n : Nat} {os : Array Obj} (d : Array Int) : w.grownBy (grow (putRow (Value.int .u64) (Sort.ahead w n) g 0 d) os) (some g) := by
  refine ⟨rfl, rfl, rfl, by simp, fun k hk hne => ?_⟩
  rw [heap_grow_old _ _ (by simpa using hk)]
  have : g ≠ k := fun e => hne (by rw [e])
  simp [putRow, mapBlock, Sort.ahead, Array.getElem?_modify, this]
theorem take_putCellsU (cur : Array Value) (ts : List Int) (h : ts.length ≤ cur.size) : (putCells (Value.int .u64) 0 ts.toArray cur).toList.take ts.length = ts.map (Value.int .u64) := by
  apply List.ext_getElem?
  intro j
  by_cases hj : j < ts.length
  · rw [List.getElem?_take_of_lt hj, Array.getElem?_toList]
    simp [putCells, hj, show j < cur.size by omega]
  · rw [List.getElem?_take_eq_none (by omega), List.getElem?_eq_none (by simp; omega)]
def sortedL (xs : List Int) : List Int := xs.mergeSort fun x y => decide (x ≤ y)
theorem sortedL_len (xs : List Int) : (sortedL xs).length = xs.length := by simp [sortedL]
theorem sortedL_mem {xs : List Int} {n : Int} : n ∈ sortedL xs ↔ n ∈ xs := by simp [sortedL]
theorem sortedL_pw (xs : List Int) : (sortedL xs).Pairwise (· ≤ ·) := by
  have := List.pairwise_mergeSort (le := fun (x y : Int) => decide (x ≤ y)) (fun a b c h1 h2 => by simp at *; omega) (fun a b => by simp; omega) xs
  exact this.imp (fun h => by simpa using h)
theorem sortOwn_any (v : Value) (xs : List Int) (base : Nat) (w : World) (hown : w.ownsRow base 34 1 v xs.length (xs.map (.int .u64))) (hl : xs.length ≤ 255) (hb : base ≤ w.heap.size) :
    Calls Try.prog 28 #[v] w fun e w' => e = .returned (.tuple #[]) ∧ w'.ownsRow base 34 1 v (sortedL xs).length ((sortedL xs).map (.int .u64)) ∧ Below base w w' := by
  rcases hown.2 with ⟨rfl, h0⟩ | ⟨g, cap, cur, rfl, hg, hh, h1, h2, h3, h4⟩
  · refine (Sort_nil_u none 0 w).mono ?_
    rintro e w' ⟨rfl, rfl⟩
    have hx : xs = [] := List.eq_nil_of_length_eq_zero h0
    subst hx
    exact ⟨rfl, by simpa [sortedL] using World.ownsRow_nil w' base 34 1, Below.refl _ _⟩
  · have hlt : g < w.heap.size := (Array.getElem?_eq_some_iff.1 hh).1
    refine (sorts_u64 g 0 cap xs w (holds_of_blockU hh (by simpa using h4)) hlt (by omega)).mono ?_
    rintro e w' ⟨rfl, n, os, rfl⟩
    refine ⟨rfl, ⟨by simp, .inr ⟨g, cap, _, by rw [sortedL_len], hg, heap_sortedU _ hh, by rw [sortedL_len]; exact h1, h2, by simpa [putCells] using h3, ?_⟩⟩, ?_⟩
    · rw [Nat.mul_one]
      exact take_putCellsU cur _ (by rw [sortedL_len]; omega)
    · exact (Below.refl base w).grown (grownBy_sortedU _) hb (fun k e => by cases e; exact hg)

/-- Of a row that rises weakly, each once: it rises. -/
theorem once_facts {xs : List Int} (h : xs.Pairwise (· ≤ ·)) : ∀ i, i ≤ xs.length → (Cmp.onceTo xs i).Pairwise (· < ·) ∧ (∀ n ∈ Cmp.onceTo xs i, n ∈ xs) ∧ (∀ n ∈ Cmp.onceTo xs i, i = 0 ∨ n ≤ xs.getD (i - 1) 0) ∧ (Cmp.onceTo xs i).length ≤ i
  | 0, _ => ⟨List.Pairwise.nil, fun n hn => (by cases hn), fun n hn => (by cases hn), Nat.le_refl _⟩
  | i + 1, hi => by
    obtain ⟨h1, h2, h3, h4⟩ := once_facts h i (by omega)
    have hin : xs.getD i 0 ∈ xs := by rw [Cmp.getD_int (by omega)]; exact List.getElem_mem _
    have hstep : ∀ n, (i = 0 ∨ n ≤ xs.getD (i - 1) 0) → 0 < i → n ≤ xs.getD i 0 := fun n hn h0 => by
      rcases hn with hn | hn
      · omega
      · rw [Cmp.getD_int (show i - 1 < xs.length by omega)] at hn
        rw [Cmp.getD_int (show i < xs.length by omega)]
        have := List.pairwise_iff_getElem.1 h (i - 1) i (by omega) (by omega) (by omega)
        omega
    by_cases hc : i = 0 ∨ xs.getD (i - 1) 0 ≠ xs.getD i 0
    · rw [Cmp.once_yes hc]
      refine ⟨List.pairwise_append.2 ⟨h1, List.pairwise_singleton _ _, fun a ha b hb => ?_⟩, fun n hn => ?_, fun n hn => ?_, by simp; omega⟩
      · obtain rfl := List.mem_singleton.1 hb
        rcases hc with rfl | hc
        · cases ha
        · by_cases h0 : i = 0
          · subst h0; cases ha
          · have ha' := h3 a ha
            have hle := hstep a ha' (by omega)
            rcases ha' with e | e
            · omega
            · have hmono : xs.getD (i - 1) 0 ≤ xs.getD i 0 := hstep _ (.inr (Int.le_refl _)) (by omega)
              omega
      · rcases List.mem_append.1 hn with hn | hn
        · exact h2 n hn
        · obtain rfl := List.mem_singleton.1 hn; exact hin
      · refine .inr ?_
        rw [Nat.add_sub_cancel]
        rcases List.mem_append.1 hn with hn | hn
        · by_cases h0 : i = 0
          · subst h0; cases hn
          · exact hstep n (h3 n hn) (by omega)
        · obtain rfl := List.mem_singleton.1 hn; exact Int.le_refl _
    · have hc' : xs.getD (i - 1) 0 = xs.getD i 0 ∧ 0 < i := by
        constructor
        · exact Classical.byContradiction fun e => hc (.inr e)
        · rcases Nat.eq_zero_or_pos i with e | e
          · exact absurd (.inl e) hc
          · exact e
      rw [Cmp.once_no hc'.1 hc'.2]
      refine ⟨h1, h2, fun n hn => .inr ?_, by omega⟩
      rw [Nat.add_sub_cancel]
      exact hstep n (h3 n hn) hc'.2
theorem once_sorted (xs : List Int) : risesB (Cmp.onceTo (sortedL xs) (sortedL xs).length) = true ∧ (∀ n ∈ Cmp.onceTo (sortedL xs) (sortedL xs).length, n ∈ xs) ∧ (Cmp.onceTo (sortedL xs) (sortedL xs).length).length ≤ xs.length := by
  obtain ⟨h1, h2, -, h4⟩ := once_facts (sortedL_pw xs) (sortedL xs).length (Nat.le_refl _)
  exact ⟨decide_eq_true h1, fun n hn => sortedL_mem.1 (h2 n hn), by rw [sortedL_len] at h4 ⊢; exact h4⟩
end Go.Proofs.Ytlndgjibefbddaa
