/-
  slices.Sort at int of a row of the call's own; what is sorted and without twins rises.
-/
import Derived.Test.YtplidcbfbonjlaaDoorSiTop
import Derived.Test.YtplidcbfbonjlaaDoorSiNil
import Derived.Test.YtplidcbfbonjlaaDoorCom
namespace Go.Proofs.YtplidcbfbonjlaaDoor
open Go.RowKit Go.Sort
set_option linter.unusedVariables false

theorem holds_of_blockU {w : World} {g : Nat} {cur : Array Value} {e : TypeId} {ss : List Int} (hb : w.heap[g]? = some (.cells cur e (0, 0))) (ht : cur.toList.take ss.length = ss.map (Value.int .i64)) : Holds (Value.int .i64) w g 0 ss.toArray := by
  intro j hj
  have hj' : j < ss.length := by simpa using hj
  refine ⟨?_, by simp [World.frozen?, hb]⟩
  have h1 : (cur.toList.take ss.length)[j]? = (ss.map (Value.int .i64))[j]? := by rw [ht]
  rw [List.getElem?_take_of_lt hj'] at h1
  simp only [World.cell?, hb, Nat.zero_add]
  simp only [Option.isSome_none, Bool.false_eq_true, if_false]
  rw [← Array.getElem?_toList, h1]
  simp [hj']
theorem heap_sortedU {w : World} {g n : Nat} {os : Array Obj} {cur : Array Value} {e : TypeId} {fr : Nat × Nat} (d : Array Int) (hb : w.heap[g]? = some (.cells cur e fr)) :
    (grow (putRow (Value.int .i64) (Sort.ahead w n) g 0 d) os).heap[g]? = some (.cells (putCells (Value.int .i64) 0 d cur) e fr) := by
  have hg : g < w.heap.size := (Array.getElem?_eq_some_iff.1 hb).1
  rw [heap_grow_old _ _ (by simpa using hg)]
  simp [putRow, mapBlock, Sort.ahead, Array.getElem?_modify, hb, onCells]
theorem grownBy_sortedU {w : World} {g n : Nat} {os : Array Obj} (d : Array Int) : w.grownBy (grow (putRow (Value.int .i64) (Sort.ahead w n) g 0 d) os) (some g) := by
  refine ⟨rfl, rfl, rfl, by simp, fun k hk hne => ?_⟩
  rw [heap_grow_old _ _ (by simpa using hk)]
  have : g ≠ k := fun e => hne (by rw [e])
  simp [putRow, mapBlock, Sort.ahead, Array.getElem?_modify, this]
theorem take_putCellsU (cur : Array Value) (ts : List Int) (h : ts.length ≤ cur.size) : (putCells (Value.int .i64) 0 ts.toArray cur).toList.take ts.length = ts.map (Value.int .i64) := by
  apply List.ext_getElem?
  intro j
  by_cases hj : j < ts.length
  · rw [List.getElem?_take_of_lt hj, Array.getElem?_toList]
    simp [putCells, hj, show j < cur.size by omega]
  · rw [List.getElem?_take_eq_none (by omega), List.getElem?_eq_none (by simp; omega)]
def sortedL (xs : List Int) : List Int := xs.mergeSort fun x y => decide (x ≤ y)
theorem sortedL_len (xs : List Int) : (sortedL xs).length = xs.length := by simp [sortedL]
theorem sortedL_mem {xs : List Int} {n : Int} : n ∈ sortedL xs ↔ n ∈ xs := by simp [sortedL]
theorem sortedL_pw (xs : List Int) : (sortedL xs).Pairwise (· ≤ ·) := by
  have := List.pairwise_mergeSort (le := fun (x y : Int) => decide (x ≤ y)) (fun a b c h1 h2 => by simp at *; omega) (fun a b => by simp; omega) xs
  exact this.imp (fun h => by simpa using h)
theorem sortOwn_any (v : Value) (xs : List Int) (base : Nat) (w : World) (hown : w.ownsRow base 3 1 v xs.length (xs.map (.int .i64))) (hl : xs.length ≤ 255) (hb : base ≤ w.heap.size) :
    Calls Tryd.prog 27 #[v] w fun e w' => e = .returned (.tuple #[]) ∧ w'.ownsRow base 3 1 v (sortedL xs).length ((sortedL xs).map (.int .i64)) ∧ Below base w w' := by
  rcases hown.2 with ⟨rfl, h0⟩ | ⟨g, cap, cur, rfl, hg, hh, h1, h2, h3, h4⟩
  · refine (Sort_nil_u none 0 w).mono ?_
    rintro e w' ⟨rfl, rfl⟩
    have hx : xs = [] := List.eq_nil_of_length_eq_zero h0
    subst hx
    exact ⟨rfl, by simpa [sortedL] using World.ownsRow_nil w' base 3 1, Below.refl _ _⟩
  · have hlt : g < w.heap.size := (Array.getElem?_eq_some_iff.1 hh).1
    refine (sorts_u64 g 0 cap xs w (holds_of_blockU hh (by simpa using h4)) hlt (by omega)).mono ?_
    rintro e w' ⟨rfl, n, os, rfl⟩
    refine ⟨rfl, ⟨by simp, .inr ⟨g, cap, _, by rw [sortedL_len], hg, heap_sortedU _ hh, by rw [sortedL_len]; exact h1, h2, by simpa [putCells] using h3, ?_⟩⟩, ?_⟩
    · rw [Nat.mul_one]
      exact take_putCellsU cur _ (by rw [sortedL_len]; omega)
    · exact (Below.refl base w).grown (grownBy_sortedU _) hb (fun k e => by cases e; exact hg)
end Go.Proofs.YtplidcbfbonjlaaDoor
