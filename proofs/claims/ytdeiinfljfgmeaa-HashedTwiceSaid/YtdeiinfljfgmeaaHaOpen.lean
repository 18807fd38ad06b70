/-
  From the form's own reading of a relation to mine.
-/
import Derived.Test.YtdeiinfljfgmeaaRows
import Derived.WalkKit
import Derived.ProofKit
import Derived.Deep.Slices
import Derived.Deep.Fields
import Derived.ChangeSame
import Derived.OpenShut
import Derived.Test.YtdeiinfljfgmeaaOpen
import Derived.Test.YtdeiinfljfgmeaaHaChk
namespace Go.Proofs.Ytdeiinfljfgmeaa
open Go.RowKit Go.ChangeShapes Go.WideShapes Go.Deep
set_option linter.unusedVariables false

theorem came_intsU {H : Type} {enc : TypeId × Value → H} {W : World} {base : Nat} {held : Bool} {fuel : Nat} {v : Value} {x : DataW H × List MemPlace} (h : DataW.trod enc Try.prog W base (fun _ => true) held fuel 26 [v] = some x) : ∃ zs, SlI .u64 W v zs := by
  rcases open_ints Try.underlying26 Try.underlying38 (by kernel_rfl) h with ⟨hcs, _⟩ | ⟨x, l, c, zs, hcs, _, hl, hm, hz, _, hcell, hwz⟩
  · simp at hcs
    subst hcs
    exact ⟨[], SlI.nil _ _⟩
  · simp at hcs
    subst hcs
    exact ⟨_, SlI.of_came hl hm (by simpa using hz) hcell hwz⟩
theorem came_intsI {H : Type} {enc : TypeId × Value → H} {W : World} {base : Nat} {held : Bool} {fuel : Nat} {v : Value} {x : DataW H × List MemPlace} (h : DataW.trod enc Try.prog W base (fun _ => true) held fuel 22 [v] = some x) : ∃ zs, SlI .i64 W v zs := by
  rcases open_ints Try.underlying22 Try.underlying3 (by kernel_rfl) h with ⟨hcs, _⟩ | ⟨x, l, c, zs, hcs, _, hl, hm, hz, _, hcell, hwz⟩
  · simp at hcs
    subst hcs
    exact ⟨[], SlI.nil _ _⟩
  · simp at hcs
    subst hcs
    exact ⟨_, SlI.of_came hl hm (by simpa using hz) hcell hwz⟩

theorem came_rowsK {H : Type} {enc : TypeId × Value → H} {W : World} {base : Nat} {held : Bool} {fuel : Nat} {v : Value} {x : DataW H × List MemPlace} {T R : TypeId} {k : IntKind} (hT : Try.prog.underlying T = some (.slice R)) (hR1 : Try.prog.cellsOf R = 1)
    (hone : ∀ {fuel : Nat} {v : Value} {x : DataW H × List MemPlace}, DataW.trod enc Try.prog W base (fun _ => true) held fuel R [v] = some x → ∃ zs, SlI k W v zs)
    (h : DataW.trod enc Try.prog W base (fun _ => true) held fuel T [v] = some x) : ∃ ls, SlRK k W v ls := by
  rcases open_slice1 hT hR1 h with ⟨h0, _⟩ | ⟨ad, len, cap, m, n, V, D, Pl, hcs, hb, hl, hm, hmm, hx, hi⟩
  · simp at h0
    subst h0
    exact ⟨[], fun _ => .slice none 0 0, SlC.nil _, fun r hr => by simp at hr⟩
  · simp at hcs
    subst hcs
    have key : ∀ i, ∃ zs : List Int, i < len → SlI k W (V i) zs := by
      intro i
      by_cases hil : i < len
      · obtain ⟨zs, hz⟩ := hone (hi i (by rw [hmm]; split <;> omega)).2
        exact ⟨zs, fun _ => hz⟩
      · exact ⟨[], fun h => absurd h hil⟩
    obtain ⟨f, hf⟩ : ∃ f : Nat → List Int, ∀ i, i < len → SlI k W (V i) (f i) := ⟨fun i => Classical.choose (key i), fun i => Classical.choose_spec (key i)⟩
    refine ⟨(List.range len).map f, V, ⟨some ad, cap, by simp, by simpa using hl, hm, fun h => (by cases h), fun hne => ?_⟩, fun r hr => ?_⟩
    · have hl0 : 0 < len := by
        rcases Nat.eq_zero_or_pos len with e | e
        · subst e; simp at hne
        · exact e
      have h0 := (hi 0 (by rw [hmm]; split <;> omega)).1
      obtain ⟨b, off, spot⟩ := ad
      have hspot : spot = none := by simpa [Addr.add] using World.cell?_spot h0
      subst hspot
      refine ⟨b, off, rfl, lt_of_cell (o := off) (by simpa [Addr.add] using h0), fun i u hu => ?_⟩
      have hil : i < len := by have := (List.getElem?_eq_some_iff.1 hu).1; simpa using this
      have h1 := (hi i (by rw [hmm]; split <;> omega)).1
      rw [add_mk] at h1
      simp [hil] at hu
      rw [← hu]
      exact h1
    · have hr' : r < len := by simpa using hr
      have e : rowN ((List.range len).map f) r = f r := by simp [rowN, List.getD, hr']
      rw [e]
      exact hf r hr'
theorem came_rowsU {H : Type} {enc : TypeId × Value → H} {W : World} {base : Nat} {held : Bool} {fuel : Nat} {v : Value} {x : DataW H × List MemPlace}
    (h : DataW.trod enc Try.prog W base (fun _ => true) held fuel 23 [v] = some x) : ∃ ls, SlRK .u64 W v ls :=
  came_rowsK (k := .u64) Try.underlying23 (by kernel_rfl) (fun h => came_intsU h) h
theorem arr2 {cs : Array Value} (h : cs.size = 2) : ∃ a b, cs = #[a, b] := by
  obtain ⟨l⟩ := cs
  match l, h with
  | [a, b], _ => exact ⟨a, b, rfl⟩
set_option maxRecDepth 100000 in
theorem came_rel {H : Type} {enc : TypeId × Value → H} {W : World} {b0 base : Nat} {r : Reach} {held : Bool} {v : Value} {d : DataW H} {p : List MemPlace} (hv : Value.okWide Try.prog W r b0 25 v) (h : DataW.Trod enc Try.prog W base (fun _ => true) held 25 v d p) : ∃ (R : Rl) (vv rv : Value), v = relV vv rv ∧ RlR W vv rv R := by
  have hC : Try.prog.cellsOf 25 = 2 := by kernel_rfl
  have hCs : Try.prog.cellsOf 22 = 1 := by kernel_rfl
  have hCr : Try.prog.cellsOf 23 = 1 := by kernel_rfl
  obtain ⟨cs, rfl, hsz⟩ := okWide_struct Try.underlying25 hv
  obtain ⟨c0, c1, rfl⟩ := arr2 (hsz.trans hC)
  obtain ⟨fuel, hf⟩ := h
  obtain ⟨y0, y1, n, _, _, g0, g1⟩ := trod_struct2 Try.underlying25 hf
  simp [hCr, hCs, Value.cells] at g0 g1
  obtain ⟨zs, hzs⟩ := came_intsI g0
  obtain ⟨ls, hls⟩ := came_rowsU g1
  exact ⟨⟨zs, ls⟩, c0, c1, rfl, hzs, hls⟩
end Go.Proofs.Ytdeiinfljfgmeaa
