/-
  Rows of rows of int; a shape in memory. No walk.
-/
import Derived.Test.YtdmfhlfhlflakaaDoorWiPow
import Derived.Test.YtdmfhlfhlflakaaDoorPlain
namespace Go.Proofs.YtdmfhlfhlflakaaDoor
open Go.RowKit
set_option linter.unusedVariables false

/-- A row of rows. -/
def rowN (ls : List (List Int)) (r : Nat) : List Int := ls.getD r []
theorem rowN_mem {ls : List (List Int)} {r : Nat} (h : r < ls.length) : rowN ls r ∈ ls := by
  unfold rowN
  rw [List.getD_eq_getElem?_getD, List.getElem?_eq_getElem h]
  exact List.getElem_mem h
theorem rowN_at {ls : List (List Int)} {r : Nat} (h : r < ls.length) : rowN ls r = ls[r] := by
  unfold rowN
  rw [List.getD_eq_getElem?_getD, List.getElem?_eq_getElem h]; rfl
theorem getD_at {xs : List Int} {r : Nat} (h : r < xs.length) : xs.getD r 0 = xs[r] := by
  rw [List.getD_eq_getElem?_getD, List.getElem?_eq_getElem h]; rfl

/-- Rows of integers of one kind. -/
def SlRK (k : IntKind) (w : World) (v : Value) (ls : List (List Int)) : Prop := ∃ rv : Nat → Value, SlC w v ((List.range ls.length).map rv) ∧ ∀ r, r < ls.length → SlI k w (rv r) (rowN ls r)
theorem SlRK.later {k : IntKind} {w w' : World} {v : Value} {ls : List (List Int)} (h : SlRK k w v ls) (hb : Below w.heap.size w w') : SlRK k w' v ls := by
  obtain ⟨rv, h1, h2⟩ := h
  exact ⟨rv, h1.later hb, fun r hr => (h2 r hr).later hb⟩
theorem SlRK.open {k : IntKind} {w : World} {v : Value} {ls : List (List Int)} (h : SlRK k w v ls) :
    ∃ (a : Option Addr) (c : Nat), v = .slice a ls.length c ∧ ls.length ≤ c ∧ c ≤ 9223372036854775807 ∧ (a = none → c = 0) ∧
      (0 < ls.length → ∃ b o, a = some ⟨b, o, none⟩ ∧ b < w.heap.size ∧ ∀ r, r < ls.length → ∃ rv, w.cell? ⟨b, o + r, none⟩ = some rv ∧ SlI k w rv (rowN ls r)) := by
  obtain ⟨rv, ⟨a, c, rfl, h1, h2, h3, h4⟩, h5⟩ := h
  refine ⟨a, c, by simp, by simpa using h1, by simpa [maxLen] using h2, h3, fun h0 => ?_⟩
  obtain ⟨b, o, rfl, hlt, hc⟩ := h4 (by rw [Ne, List.map_eq_nil_iff, List.range_eq_nil]; omega)
  exact ⟨b, o, rfl, hlt, fun r hr => ⟨rv r, hc r _ (by simp [hr]), h5 r hr⟩⟩
theorem SlRK.nil (k : IntKind) (w : World) : SlRK k w (.slice none 0 0) [] := ⟨fun _ => .slice none 0 0, SlC.nil _, fun r hr => by simp at hr⟩
theorem SlRK.len {k : IntKind} {w : World} {v : Value} {ls : List (List Int)} (h : SlRK k w v ls) : ls.length ≤ 9223372036854775807 := by
  obtain ⟨a, c, -, h1, h2, -⟩ := h.open; omega

/-- A shape. -/
structure Shp where
  many : Int
  edges : List (List Int)
  sizes : List Int
abbrev hypV (m : Int) (ev : Value) : Value := .agg #[.int .i64 m, ev]
abbrev shpV (m : Int) (ev sv : Value) : Value := .agg #[.int .i64 m, ev, sv]
/-- A shape's parts, in memory. -/
structure ShR (w : World) (ev sv : Value) (S : Shp) : Prop where
  edges : SlRK .i64 w ev S.edges
  sizes : SlI .i64 w sv S.sizes
  many : -9223372036854775808 ≤ S.many ∧ S.many ≤ 9223372036854775807
theorem ShR.later {w w' : World} {ev sv : Value} {S : Shp} (h : ShR w ev sv S) (hb : Below w.heap.size w w') : ShR w' ev sv S := ⟨h.edges.later hb, h.sizes.later hb, h.many⟩
/-- A shape in a box. -/
def SB (w : World) (x : Nat) (m : Int) (ev sv : Value) : Prop := w.heap[x]? = some (.cells #[.int .i64 m, ev, sv] 27 (0, 0))
/-- A hypergraph in a box. -/
def HB (w : World) (x : Nat) (m : Int) (ev : Value) : Prop := w.heap[x]? = some (.cells #[.int .i64 m, ev] 24 (0, 0))
end Go.Proofs.YtdmfhlfhlflakaaDoor
