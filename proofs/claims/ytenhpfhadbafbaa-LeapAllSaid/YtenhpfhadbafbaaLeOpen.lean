/-
  From the form's own reading of a slice of slices of integers to mine.
-/
import Derived.Test.YtenhpfhadbafbaaRows
import Derived.WalkKit
import Derived.Deep.Slices
import Derived.Deep.Fields
import Derived.ChangeSame
import Derived.OpenShut
import Derived.Test.YtenhpfhadbafbaaOpen
import Derived.Test.YtenhpfhadbafbaaLeRows
namespace Go.Proofs.Ytenhpfhadbafbaa
open Go.RowKit Go.ChangeShapes Go.WideShapes Go.Deep
set_option linter.unusedVariables false

/-- Rows of integers of one kind. -/
def SlRK (k : IntKind) (w : World) (v : Value) (ls : List (List Int)) : Prop := ∃ rv : Nat → Value, SlC w v ((List.range ls.length).map rv) ∧ ∀ r, r < ls.length → SlI k w (rv r) (rowN ls r)
theorem SlRK.later {k : IntKind} {w w' : World} {v : Value} {ls : List (List Int)} (h : SlRK k w v ls) (hb : Below w.heap.size w w') : SlRK k w' v ls := by
  obtain ⟨rv, h1, h2⟩ := h
  exact ⟨rv, h1.later hb, fun r hr => (h2 r hr).later hb⟩
theorem SlRK.open {k : IntKind} {w : World} {v : Value} {ls : List (List Int)} (h : SlRK k w v ls) :
    ∃ (a : Option Addr) (c : Nat), v = .slice a ls.length c ∧ ls.length ≤ c ∧ c ≤ 9223372036854775807 ∧ (a = none → c = 0) ∧
      (0 < ls.length → ∃ b o, a = some ⟨b, o, none⟩ ∧ b < w.heap.size ∧ ∀ r, r < ls.length → ∃ rv, w.cell? ⟨b, o + r, none⟩ = some rv ∧ SlI k w rv (rowN ls r)) := by
  obtain ⟨rv, ⟨a, c, rfl, h1, h2, h3, h4⟩, h5⟩ := h
  refine ⟨a, c, by simp, by simpa using h1, by simpa [maxLen] using h2, h3, fun h0 => ?_⟩
  obtain ⟨b, o, rfl, hlt, hc⟩ := h4 (by rw [Ne, List.map_eq_nil_iff, List.range_eq_nil]; omega)
  exact ⟨b, o, rfl, hlt, fun r hr => ⟨rv r, hc r _ (by simp [hr]), h5 r hr⟩⟩
theorem came_ints {H : Type} {enc : TypeId × Value → H} {W : World} {base : Nat} {held : Bool} {fuel : Nat} {v : Value} {x : DataW H × List MemPlace} (h : DataW.trod enc Try.prog W base (fun _ => true) held fuel 32 [v] = some x) : ∃ zs, SlI .u64 W v zs := by
  rcases open_ints Try.underlying32 Try.underlying40 (by kernel_rfl) h with ⟨hcs, _⟩ | ⟨x, l, c, zs, hcs, _, hl, hm, hz, _, hcell, hwz⟩
  · simp at hcs
    subst hcs
    exact ⟨[], SlI.nil _ _⟩
  · simp at hcs
    subst hcs
    exact ⟨_, SlI.of_came hl hm (by simpa using hz) hcell hwz⟩
theorem came_intsI {H : Type} {enc : TypeId × Value → H} {W : World} {base : Nat} {held : Bool} {fuel : Nat} {v : Value} {x : DataW H × List MemPlace} (h : DataW.trod enc Try.prog W base (fun _ => true) held fuel 27 [v] = some x) : ∃ zs, SlI .i64 W v zs := by
  rcases open_ints Try.underlying27 Try.underlying3 (by kernel_rfl) h with ⟨hcs, _⟩ | ⟨x, l, c, zs, hcs, _, hl, hm, hz, _, hcell, hwz⟩
  · simp at hcs
    subst hcs
    exact ⟨[], SlI.nil _ _⟩
  · simp at hcs
    subst hcs
    exact ⟨_, SlI.of_came hl hm (by simpa using hz) hcell hwz⟩

theorem came_rowsK {H : Type} {enc : TypeId × Value → H} {W : World} {base : Nat} {held : Bool} {fuel : Nat} {a : Option Addr} {len cap : Nat} {x : DataW H × List MemPlace} {T R : TypeId} {k : IntKind} (hT : Try.prog.underlying T = some (.slice R)) (hR1 : Try.prog.cellsOf R = 1)
    (hone : ∀ {fuel : Nat} {v : Value} {x : DataW H × List MemPlace}, DataW.trod enc Try.prog W base (fun _ => true) held fuel R [v] = some x → ∃ zs, SlI k W v zs)
    (h : DataW.trod enc Try.prog W base (fun _ => true) held fuel T [.slice a len cap] = some x) : ∃ ls, SlRK k W (.slice a len cap) ls := by
  rcases open_slice1 hT hR1 h with ⟨h0, _⟩ | ⟨ad, len', cap', m, n, V, D, Pl, hcs, hb, hl, hm, hmm, hx, hi⟩
  · simp at h0
    obtain ⟨rfl, rfl, rfl⟩ := h0
    exact ⟨[], fun _ => .slice none 0 0, SlC.nil _, fun r hr => by simp at hr⟩
  · simp at hcs
    obtain ⟨rfl, rfl, rfl⟩ := hcs
    have key : ∀ i, ∃ zs : List Int, i < len → SlI k W (V i) zs := by
      intro i
      by_cases hil : i < len
      · obtain ⟨zs, hz⟩ := hone (hi i (by rw [hmm]; split <;> omega)).2
        exact ⟨zs, fun _ => hz⟩
      · exact ⟨[], fun h => absurd h hil⟩
    obtain ⟨f, hf⟩ : ∃ f : Nat → List Int, ∀ i, i < len → SlI k W (V i) (f i) := ⟨fun i => Classical.choose (key i), fun i => Classical.choose_spec (key i)⟩
    refine ⟨(List.range len).map f, V, ⟨some ad, cap, by simp, by simpa using hl, hm, fun h => (by cases h), fun hne => ?_⟩, fun r hr => ?_⟩
    · have hl0 : 0 < len := by
        rcases Nat.eq_zero_or_pos len with e | e
        · subst e; simp at hne
        · exact e
      have h0 := (hi 0 (by rw [hmm]; split <;> omega)).1
      obtain ⟨b, off, spot⟩ := ad
      have hspot : spot = none := by simpa [Addr.add] using World.cell?_spot h0
      subst hspot
      refine ⟨b, off, rfl, lt_of_cell (o := off) (by simpa [Addr.add] using h0), fun i u hu => ?_⟩
      have hil : i < len := by have := (List.getElem?_eq_some_iff.1 hu).1; simpa using this
      have h1 := (hi i (by rw [hmm]; split <;> omega)).1
      rw [add_mk] at h1
      simp [hil] at hu
      rw [← hu]
      exact h1
    · have hr' : r < len := by simpa using hr
      have e : rowN ((List.range len).map f) r = f r := by simp [rowN, List.getD, hr']
      rw [e]
      exact hf r hr'
theorem came_rows {H : Type} {enc : TypeId × Value → H} {W : World} {base : Nat} {held : Bool} {fuel : Nat} {a : Option Addr} {len cap : Nat} {x : DataW H × List MemPlace}
    (h : DataW.trod enc Try.prog W base (fun _ => true) held fuel 22 [.slice a len cap] = some x) : ∃ ls, SlR W (.slice a len cap) ls :=
  came_rowsK (k := .u64) Try.underlying22 (by kernel_rfl) (fun h => came_ints h) h
theorem came_rowsI {H : Type} {enc : TypeId × Value → H} {W : World} {base : Nat} {held : Bool} {fuel : Nat} {a : Option Addr} {len cap : Nat} {x : DataW H × List MemPlace}
    (h : DataW.trod enc Try.prog W base (fun _ => true) held fuel 23 [.slice a len cap] = some x) : ∃ ls, SlRK .i64 W (.slice a len cap) ls :=
  came_rowsK (k := .i64) Try.underlying23 (by kernel_rfl) (fun h => came_intsI h) h
end Go.Proofs.Ytenhpfhadbafbaa
