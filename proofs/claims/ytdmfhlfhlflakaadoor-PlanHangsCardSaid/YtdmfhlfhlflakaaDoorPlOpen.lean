/-
  From the form's own reading of a shape and of a cover to mine.
-/
import Derived.Test.YtdmfhlfhlflakaaDoorRows
import Derived.WalkKit
import Derived.ProofKit
import Derived.Deep.Slices
import Derived.Deep.Fields
import Derived.ChangeSame
import Derived.OpenShut
import Derived.Test.YtdmfhlfhlflakaaDoorOpen
import Derived.Test.YtdmfhlfhlflakaaDoorPlCov
namespace Go.Proofs.YtdmfhlfhlflakaaDoor
open Go.RowKit Go.ChangeShapes Go.WideShapes Go.Deep
set_option linter.unusedVariables false

theorem came_intsI {H : Type} {enc : TypeId × Value → H} {W : World} {base : Nat} {held : Bool} {fuel : Nat} {v : Value} {x : DataW H × List MemPlace} (h : DataW.trod enc Tryd.prog W base (fun _ => true) held fuel 25 [v] = some x) : ∃ zs, SlI .i64 W v zs := by
  rcases open_ints Tryd.underlying25 Tryd.underlying3 (by kernel_rfl) h with ⟨hcs, _⟩ | ⟨x, l, c, zs, hcs, _, hl, hm, hz, _, hcell, hwz⟩
  · simp at hcs
    subst hcs
    exact ⟨[], SlI.nil _ _⟩
  · simp at hcs
    subst hcs
    exact ⟨_, SlI.of_came hl hm (by simpa using hz) hcell hwz⟩

theorem came_rowsK {H : Type} {enc : TypeId × Value → H} {W : World} {base : Nat} {held : Bool} {fuel : Nat} {v : Value} {x : DataW H × List MemPlace} {T R : TypeId} {k : IntKind} (hT : Tryd.prog.underlying T = some (.slice R)) (hR1 : Tryd.prog.cellsOf R = 1)
    (hone : ∀ {fuel : Nat} {v : Value} {x : DataW H × List MemPlace}, DataW.trod enc Tryd.prog W base (fun _ => true) held fuel R [v] = some x → ∃ zs, SlI k W v zs)
    (h : DataW.trod enc Tryd.prog W base (fun _ => true) held fuel T [v] = some x) : ∃ ls, SlRK k W v ls := by
  rcases open_slice1 hT hR1 h with ⟨h0, _⟩ | ⟨ad, len, cap, m, n, V, D, Pl, hcs, hb, hl, hm, hmm, hx, hi⟩
  · simp at h0
    subst h0
    exact ⟨[], fun _ => .slice none 0 0, SlC.nil _, fun r hr => by simp at hr⟩
  · simp at hcs
    subst hcs
    have key : ∀ i, ∃ zs : List Int, i < len → SlI k W (V i) zs := by
      intro i
      by_cases hil : i < len
      · obtain ⟨zs, hz⟩ := hone (hi i (by rw [hmm]; split <;> omega)).2
        exact ⟨zs, fun _ => hz⟩
      · exact ⟨[], fun h => absurd h hil⟩
    obtain ⟨f, hf⟩ : ∃ f : Nat → List Int, ∀ i, i < len → SlI k W (V i) (f i) := ⟨fun i => Classical.choose (key i), fun i => Classical.choose_spec (key i)⟩
    refine ⟨(List.range len).map f, V, ⟨some ad, cap, by simp, by simpa using hl, hm, fun h => (by cases h), fun hne => ?_⟩, fun r hr => ?_⟩
    · have hl0 : 0 < len := by
        rcases Nat.eq_zero_or_pos len with e | e
        · subst e; simp at hne
        · exact e
      have h0 := (hi 0 (by rw [hmm]; split <;> omega)).1
      obtain ⟨b, off, spot⟩ := ad
      have hspot : spot = none := by simpa [Addr.add] using World.cell?_spot h0
      subst hspot
      refine ⟨b, off, rfl, lt_of_cell (o := off) (by simpa [Addr.add] using h0), fun i u hu => ?_⟩
      have hil : i < len := by have := (List.getElem?_eq_some_iff.1 hu).1; simpa using this
      have h1 := (hi i (by rw [hmm]; split <;> omega)).1
      rw [add_mk] at h1
      simp [hil] at hu
      rw [← hu]
      exact h1
    · have hr' : r < len := by simpa using hr
      have e : rowN ((List.range len).map f) r = f r := by simp [rowN, List.getD, hr']
      rw [e]
      exact hf r hr'
theorem came_rowsI {H : Type} {enc : TypeId × Value → H} {W : World} {base : Nat} {held : Bool} {fuel : Nat} {v : Value} {x : DataW H × List MemPlace}
    (h : DataW.trod enc Tryd.prog W base (fun _ => true) held fuel 22 [v] = some x) : ∃ ls, SlRK .i64 W v ls :=
  came_rowsK (k := .i64) Tryd.underlying22 (by kernel_rfl) (fun h => came_intsI h) h
theorem arr3 {cs : Array Value} (h : cs.size = 3) : ∃ a b c, cs = #[a, b, c] := by
  obtain ⟨l⟩ := cs
  match l, h with
  | [a, b, c], _ => exact ⟨a, b, c, rfl⟩
theorem arr2 {cs : Array Value} (h : cs.size = 2) : ∃ a b, cs = #[a, b] := by
  obtain ⟨l⟩ := cs
  match l, h with
  | [a, b], _ => exact ⟨a, b, rfl⟩
set_option maxRecDepth 100000 in
theorem came_shape {H : Type} {enc : TypeId × Value → H} {W : World} {b0 base : Nat} {r : Reach} {held : Bool} {v : Value} {d : DataW H} {p : List MemPlace} (hv : Value.okWide Tryd.prog W r b0 27 v) (h : DataW.Trod enc Tryd.prog W base (fun _ => true) held 27 v d p) : ∃ (S : Shp) (ev sv : Value), v = shpV S.many ev sv ∧ ShR W ev sv S := by
  have hC : Tryd.prog.cellsOf 27 = 3 := by kernel_rfl
  have hCh : Tryd.prog.cellsOf 24 = 2 := by kernel_rfl
  have hCs : Tryd.prog.cellsOf 25 = 1 := by kernel_rfl
  have hCr : Tryd.prog.cellsOf 22 = 1 := by kernel_rfl
  have hCi : Tryd.prog.cellsOf 3 = 1 := by kernel_rfl
  obtain ⟨cs, rfl, hsz⟩ := okWide_struct Tryd.underlying27 hv
  obtain ⟨c0, c1, c2, rfl⟩ := arr3 (hsz.trans hC)
  obtain ⟨fuel, hf⟩ := h
  obtain ⟨y0, y1, n, _, _, g0, g1⟩ := trod_struct2 Tryd.underlying27 hf
  simp [hCh, hCs, Value.cells] at g0 g1
  obtain ⟨z0, z1, n', _, _, k0, k1⟩ := trod_struct2 Tryd.underlying24 g0
  simp [hCr, hCi] at k0 k1
  obtain ⟨m, e0, -, hm⟩ := DataW.trod_int Tryd.underlying3 k0
  obtain ⟨ls, hls⟩ := came_rowsI k1
  obtain ⟨zs, hzs⟩ := came_intsI g1
  simp at e0
  subst e0
  exact ⟨⟨m, ls, zs⟩, c1, c2, rfl, hls, hzs, by simpa [Lit.wf, IntKind.min, IntKind.max, IntKind.wrap, IntKind.signed, IntKind.bits] using hm⟩
set_option maxRecDepth 100000 in
theorem came_cover {H : Type} {enc : TypeId × Value → H} {W : World} {b0 base : Nat} {r : Reach} {held : Bool} {v : Value} {d : DataW H} {p : List MemPlace} (hv : Value.okWide Tryd.prog W r b0 29 v) (h : DataW.Trod enc Tryd.prog W base (fun _ => true) held 29 v d p) : ∃ (c : Cov) (wv : Value), v = covV wv c.of ∧ SlI .i64 W wv c.ws ∧ (Lit.int .i64 c.of).wf = true := by
  have hC : Tryd.prog.cellsOf 29 = 2 := by kernel_rfl
  have hCs : Tryd.prog.cellsOf 25 = 1 := by kernel_rfl
  have hCi : Tryd.prog.cellsOf 3 = 1 := by kernel_rfl
  obtain ⟨cs, rfl, hsz⟩ := okWide_struct Tryd.underlying29 hv
  obtain ⟨c0, c1, rfl⟩ := arr2 (hsz.trans hC)
  obtain ⟨fuel, hf⟩ := h
  obtain ⟨y0, y1, n, _, _, g0, g1⟩ := trod_struct2 Tryd.underlying29 hf
  simp [hCi, hCs, Value.cells] at g0 g1
  obtain ⟨zs, hzs⟩ := came_intsI g0
  obtain ⟨o, e0, -, ho⟩ := DataW.trod_int Tryd.underlying3 g1
  simp at e0
  subst e0
  exact ⟨⟨zs, o⟩, c0, rfl, hzs, ho⟩
end Go.Proofs.YtdmfhlfhlflakaaDoor
