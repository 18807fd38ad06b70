/-
  From the form's own reading of a hypergraph to mine; the table deBruijn64tab as the rows list it. (Printed by mkhzopen.py.)
-/
import Derived.Test.YtplidcbfbonjlaaDoorRows
import Derived.WalkKit
import Derived.ProofKit
import Derived.Deep.Slices
import Derived.Deep.Fields
import Derived.ChangeSame
import Derived.OpenShut
import Derived.LaidMore
import Derived.Lay
import Derived.Stop.Joined
import Derived.Test.YtplidcbfbonjlaaDoorOpen
import Derived.Test.YtplidcbfbonjlaaDoorHzW
namespace Go.Proofs.YtplidcbfbonjlaaDoor
open Go.RowKit Go.ChangeShapes Go.WideShapes Go.ChangeAt Go.Deep Go.Lib
set_option linter.unusedVariables false

theorem came_intsI {H : Type} {enc : TypeId × Value → H} {W : World} {base : Nat} {held : Bool} {fuel : Nat} {v : Value} {x : DataW H × List MemPlace} (h : DataW.trod enc Tryd.prog W base (fun _ => true) held fuel 27 [v] = some x) : ∃ zs, SlI .i64 W v zs := by
  rcases open_ints Tryd.underlying27 Tryd.underlying3 (by kernel_rfl) h with ⟨hcs, _⟩ | ⟨x, l, c, zs, hcs, _, hl, hm, hz, _, hcell, hwz⟩
  · simp at hcs
    subst hcs
    exact ⟨[], SlI.nil _ _⟩
  · simp at hcs
    subst hcs
    exact ⟨_, SlI.of_came hl hm (by simpa using hz) hcell hwz⟩

theorem came_rowsK {H : Type} {enc : TypeId × Value → H} {W : World} {base : Nat} {held : Bool} {fuel : Nat} {v : Value} {x : DataW H × List MemPlace} {T R : TypeId} {k : IntKind} (hT : Tryd.prog.underlying T = some (.slice R)) (hR1 : Tryd.prog.cellsOf R = 1)
    (hone : ∀ {fuel : Nat} {v : Value} {x : DataW H × List MemPlace}, DataW.trod enc Tryd.prog W base (fun _ => true) held fuel R [v] = some x → ∃ zs, SlI k W v zs)
    (h : DataW.trod enc Tryd.prog W base (fun _ => true) held fuel T [v] = some x) : ∃ ls, SlRK k W v ls := by
  rcases open_slice1 hT hR1 h with ⟨h0, _⟩ | ⟨ad, len, cap, m, n, V, D, Pl, hcs, hb, hl, hm, hmm, hx, hi⟩
  · simp at h0
    subst h0
    exact ⟨[], fun _ => .slice none 0 0, SlC.nil _, fun r hr => by simp at hr⟩
  · simp at hcs
    subst hcs
    have key : ∀ i, ∃ zs : List Int, i < len → SlI k W (V i) zs := by
      intro i
      by_cases hil : i < len
      · obtain ⟨zs, hz⟩ := hone (hi i (by rw [hmm]; split <;> omega)).2
        exact ⟨zs, fun _ => hz⟩
      · exact ⟨[], fun h => absurd h hil⟩
    obtain ⟨f, hf⟩ : ∃ f : Nat → List Int, ∀ i, i < len → SlI k W (V i) (f i) := ⟨fun i => Classical.choose (key i), fun i => Classical.choose_spec (key i)⟩
    refine ⟨(List.range len).map f, V, ⟨some ad, cap, by simp, by simpa using hl, hm, fun h => (by cases h), fun hne => ?_⟩, fun r hr => ?_⟩
    · have hl0 : 0 < len := by
        rcases Nat.eq_zero_or_pos len with e | e
        · subst e; simp at hne
        · exact e
      have h0 := (hi 0 (by rw [hmm]; split <;> omega)).1
      obtain ⟨b, off, spot⟩ := ad
      have hspot : spot = none := by simpa [Addr.add] using World.cell?_spot h0
      subst hspot
      refine ⟨b, off, rfl, lt_of_cell (o := off) (by simpa [Addr.add] using h0), fun i u hu => ?_⟩
      have hil : i < len := by have := (List.getElem?_eq_some_iff.1 hu).1; simpa using this
      have h1 := (hi i (by rw [hmm]; split <;> omega)).1
      rw [add_mk] at h1
      simp [hil] at hu
      rw [← hu]
      exact h1
    · have hr' : r < len := by simpa using hr
      have e : rowN ((List.range len).map f) r = f r := by simp [rowN, List.getD, hr']
      rw [e]
      exact hf r hr'
theorem came_rowsI {H : Type} {enc : TypeId × Value → H} {W : World} {base : Nat} {held : Bool} {fuel : Nat} {v : Value} {x : DataW H × List MemPlace}
    (h : DataW.trod enc Tryd.prog W base (fun _ => true) held fuel 22 [v] = some x) : ∃ ls, SlRK .i64 W v ls :=
  came_rowsK (k := .i64) Tryd.underlying22 (by kernel_rfl) (fun h => came_intsI h) h
theorem arr2 {cs : Array Value} (h : cs.size = 2) : ∃ a b, cs = #[a, b] := by
  obtain ⟨l⟩ := cs
  match l, h with
  | [a, b], _ => exact ⟨a, b, rfl⟩
set_option maxRecDepth 100000 in
theorem came_hyper {H : Type} {enc : TypeId × Value → H} {W : World} {b0 base : Nat} {r : Go.Reach} {held : Bool} {v : Value} {d : DataW H} {p : List MemPlace} (hv : Value.okWide Tryd.prog W r b0 24 v) (h : DataW.Trod enc Tryd.prog W base (fun _ => true) held 24 v d p) : ∃ (m : Int) (ev : Value) (ls : List (List Int)), v = hypV m ev ∧ SlRK .i64 W ev ls ∧ (Lit.int .i64 m).wf = true := by
  have hCh : Tryd.prog.cellsOf 24 = 2 := by kernel_rfl
  have hCr : Tryd.prog.cellsOf 22 = 1 := by kernel_rfl
  have hCi : Tryd.prog.cellsOf 3 = 1 := by kernel_rfl
  obtain ⟨cs, rfl, hsz⟩ := okWide_struct Tryd.underlying24 hv
  obtain ⟨c0, c1, rfl⟩ := arr2 (hsz.trans hCh)
  obtain ⟨fuel, hf⟩ := h
  obtain ⟨z0, z1, n', _, _, k0, k1⟩ := trod_struct2 Tryd.underlying24 hf
  simp [hCr, hCi, Value.cells] at k0 k1
  obtain ⟨m, e0, -, hm⟩ := DataW.trod_int Tryd.underlying3 k0
  obtain ⟨ls, hls⟩ := came_rowsI k1
  simp at e0
  subst e0
  exact ⟨m, c1, ls, rfl, hls, by simpa [Lit.wf, IntKind.min, IntKind.max, IntKind.wrap, IntKind.signed, IntKind.bits] using hm⟩
def laidH : List (String × DataW Unit) := [("math/bits.deBruijn64tab", Rows.laid_math_bits_deBruijn64tab)]
theorem gTab : Tryd.prog.globalNamed "math/bits.deBruijn64tab" = some 0 := by kernel_rfl
theorem tTab : (Tryd.prog.globals[0]?).map (·.type) = some 95 := by kernel_rfl
theorem tab_laid : (Rows.laid_math_bits_deBruijn64tab : DataW Unit) = .agg (deBruijn64tab.map fun (n : Nat) => .lit (.int .u8 (n : Int))) := by kernel_rfl
theorem tab_cells {W : World} {cs : List Value} {fuel : Nat} {q : List MemPlace} {s : Nat → Bool} {b : Bool} {base : Nat} {enc : TypeId × Value → Unit}
    (hd : DataW.trod enc Tryd.prog W base s b fuel 95 cs = some (Rows.laid_math_bits_deBruijn64tab, q)) : ∀ j, j < 64 → cs[j]? = some (.int .u8 ((deBruijn64tab.getD j 0 : Nat) : Int)) := by
  have c5 : Tryd.prog.cellsOf 5 = 1 := by kernel_rfl
  obtain ⟨xs, m, _, ex, hlen, hl, hel⟩ := DataW.trod_array Tryd.underlying95 hd
  intro j hj
  have k := hel j hj
  rw [c5, Nat.mul_one] at k
  obtain ⟨x, hx⟩ : ∃ x, xs[j]? = some x := ⟨xs[j]'(by omega), List.getElem?_eq_getElem _⟩
  rw [hx] at k
  obtain ⟨x1, x2⟩ := x
  obtain ⟨n, a, f, _⟩ := DataW.trod_int Tryd.underlying5 k
  have e3 := (Prod.mk.inj ex).1
  rw [tab_laid] at e3
  have e4 := DataW.agg.inj e3
  have e5 : (xs.map (·.1))[j]? = some x1 := by rw [List.getElem?_map, hx]; rfl
  rw [← e4, List.getElem?_map] at e5
  have hd0 : (deBruijn64tab[j]?) = some (deBruijn64tab.getD j 0) := by
    rw [List.getD_eq_getElem?_getD, List.getElem?_eq_getElem (show j < deBruijn64tab.length from hj)]
    rfl
  rw [hd0] at e5
  simp only [Option.map_some, Option.some.injEq] at e5
  subst e5
  obtain rfl : ((deBruijn64tab.getD j 0 : Nat) : Int) = n := by
    have := (Prod.mk.inj f).1
    simpa using this
  have h0 : (List.take 1 (List.drop j cs))[0]? = some (.int .u8 ((deBruijn64tab.getD j 0 : Nat) : Int)) := by rw [a]; rfl
  rw [List.getElem?_take, if_pos (by omega), List.getElem?_drop, Nat.add_zero] at h0
  exact h0
set_option maxRecDepth 100000 in
theorem tab_of {W : World} (h : laidMetH Tryd.prog laidH W) : TabW W := by
  rw [MakeChecks.laidMetH_plain _ _ _ (by kernel_rfl)] at h
  obtain ⟨ps, ⟨g, t, cs, fuel, p, q, hg, ht, hv, hd, -, -⟩, -, -⟩ := h
  have eg := Option.some.inj (gTab.symm.trans hg)
  subst eg
  obtain rfl := Option.some.inj (tTab.symm.trans ht)
  intro j hj
  have := tab_cells hd j (by exact hj)
  rw [World.var?_cell gTab hv j, ← this]
  simp
end Go.Proofs.YtplidcbfbonjlaaDoor
