/-
  The package variables wide.one and bits.deBruijn64tab, as the rows list them.
-/
import Derived.Test.YtdmfhlfhlflakaaDoorPlOne
import Derived.Test.YtdmfhlfhlflakaaDoorHys
namespace Go.Proofs.YtdmfhlfhlflakaaDoor
open Go.ChangeShapes Go.WideShapes Go.ChangeAt Go.RowKit Go.Lib

def laidH : List (String × DataW Unit) := [("math/bits.deBruijn64tab", Rows.laid_math_bits_deBruijn64tab), ("colander/wide.one", Rows.laid_colander_wide_one)]
theorem gTab : Tryd.prog.globalNamed "math/bits.deBruijn64tab" = some 1 := by kernel_rfl
theorem tTab : (Tryd.prog.globals[1]?).map (·.type) = some 134 := by kernel_rfl
theorem tab_laid : (Rows.laid_math_bits_deBruijn64tab : DataW Unit) = .agg (deBruijn64tab.map fun (n : Nat) => .lit (.int .u8 (n : Int))) := by kernel_rfl
theorem tab_cells {W : World} {cs : List Value} {fuel : Nat} {q : List MemPlace} {s : Nat → Bool} {b : Bool} {base : Nat} {enc : TypeId × Value → Unit}
    (hd : DataW.trod enc Tryd.prog W base s b fuel 134 cs = some (Rows.laid_math_bits_deBruijn64tab, q)) : ∀ j, j < 64 → cs[j]? = some (.int .u8 ((deBruijn64tab.getD j 0 : Nat) : Int)) := by
  have c5 : Tryd.prog.cellsOf 5 = 1 := by kernel_rfl
  obtain ⟨xs, m, _, ex, hlen, hl, hel⟩ := DataW.trod_array Tryd.underlying134 hd
  intro j hj
  have k := hel j hj
  rw [c5, Nat.mul_one] at k
  obtain ⟨x, hx⟩ : ∃ x, xs[j]? = some x := ⟨xs[j]'(by omega), List.getElem?_eq_getElem _⟩
  rw [hx] at k
  obtain ⟨x1, x2⟩ := x
  obtain ⟨n, a, f, _⟩ := DataW.trod_int Tryd.underlying5 k
  have e3 := (Prod.mk.inj ex).1
  rw [tab_laid] at e3
  have e4 := DataW.agg.inj e3
  have e5 : (xs.map (·.1))[j]? = some x1 := by rw [List.getElem?_map, hx]; rfl
  rw [← e4, List.getElem?_map] at e5
  have hd0 : (deBruijn64tab[j]?) = some (deBruijn64tab.getD j 0) := by
    rw [List.getD_eq_getElem?_getD, List.getElem?_eq_getElem (show j < deBruijn64tab.length from hj)]
    rfl
  rw [hd0] at e5
  simp only [Option.map_some, Option.some.injEq] at e5
  subst e5
  obtain rfl : ((deBruijn64tab.getD j 0 : Nat) : Int) = n := by
    have := (Prod.mk.inj f).1
    simpa using this
  have h0 : (List.take 1 (List.drop j cs))[0]? = some (.int .u8 ((deBruijn64tab.getD j 0 : Nat) : Int)) := by rw [a]; rfl
  rw [List.getElem?_take, if_pos (by omega), List.getElem?_drop, Nat.add_zero] at h0
  exact h0
set_option maxRecDepth 100000 in
theorem tab_one_of {W : World} (h : laidMetH Tryd.prog laidH W) : TabW W ∧ One W := by
  rw [MakeChecks.laidMetH_plain _ _ _ (by kernel_rfl)] at h
  obtain ⟨ps, ⟨g, t, cs, fuel, p, q, hg, ht, hv, hd, ⟨g', t', cs', fuel', p', q', hg', ht', hv', hd', -, -⟩, -⟩, -, -⟩ := h
  obtain rfl := Option.some.inj (gTab.symm.trans hg)
  obtain rfl := Option.some.inj (tTab.symm.trans ht)
  obtain rfl := Option.some.inj (gOne.symm.trans hg')
  obtain rfl := Option.some.inj (tOne.symm.trans ht')
  refine ⟨fun j hj => ?_, ?_⟩
  · have := tab_cells hd j (by exact hj)
    rw [World.var?_cell gTab hv j, ← this]
    simp
  · have hCi : Tryd.prog.cellsOf 33 = 1 := by kernel_rfl
    have hC : Tryd.prog.cellsOf 35 = 2 := by kernel_rfl
    obtain ⟨y0, y1, n, ex, hl, g0, g1⟩ := trod_struct2 Tryd.underlying35 hd'
    simp only [Prod.mk.injEq] at ex
    have ex1 := ex.1
    obtain ⟨l⟩ := cs'
    rw [hC] at hl
    match l, hl with
    | [a, b], _ =>
      simp [hCi] at g0 g1
      obtain ⟨n0, e0, f0, _⟩ := DataW.trod_int Tryd.underlying33 g0
      obtain ⟨n1, e1, f1, _⟩ := DataW.trod_int Tryd.underlying33 g1
      simp only [List.cons.injEq, and_true] at e0 e1
      subst e0 e1 f0 f1
      simp only [Rows.laid_colander_wide_one, DataW.agg.injEq, List.cons.injEq, DataW.lit.injEq, Lit.int.injEq, true_and, and_true] at ex1
      obtain ⟨rfl, rfl⟩ := ex1
      exact ⟨by rw [World.var?_cell gOne hv' 0]; rfl, by rw [World.var?_cell gOne hv' 1]; rfl⟩
end Go.Proofs.YtdmfhlfhlflakaaDoor
