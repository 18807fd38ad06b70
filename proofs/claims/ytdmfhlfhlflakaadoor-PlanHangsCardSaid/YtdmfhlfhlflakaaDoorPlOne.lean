/-
  The package variable wide.one, as the rows list it.
-/
import Derived.Test.YtdmfhlfhlflakaaDoorRows
import Derived.ProofKit
import Derived.OpenShut
import Derived.LaidMore
import Derived.Lay
import Derived.Stop.Joined
import Derived.Test.YtdmfhlfhlflakaaDoorPlBase
namespace Go.Proofs.YtdmfhlfhlflakaaDoor
open Go.ChangeShapes Go.WideShapes Go.ChangeAt Go.RowKit

def laidL : List (String × DataW Unit) := [("colander/wide.one", Rows.laid_colander_wide_one)]
theorem gOne : Tryd.prog.globalNamed "colander/wide.one" = some 0 := by kernel_rfl
theorem tOne : (Tryd.prog.globals[0]?).map (·.type) = some 35 := by kernel_rfl
set_option maxRecDepth 100000 in
theorem one_of {W : World} (h : laidMetH Tryd.prog laidL W) : One W := by
  rw [MakeChecks.laidMetH_plain _ _ _ (by kernel_rfl)] at h
  obtain ⟨ps, ⟨g, t, cs, fuel, p, q, hg, ht, hv, hd, _, _⟩, _, _⟩ := h
  obtain rfl := Option.some.inj (gOne.symm.trans hg)
  obtain rfl := Option.some.inj (tOne.symm.trans ht)
  have hCi : Tryd.prog.cellsOf 33 = 1 := by kernel_rfl
  have hC : Tryd.prog.cellsOf 35 = 2 := by kernel_rfl
  obtain ⟨y0, y1, n, ex, hl, g0, g1⟩ := trod_struct2 Tryd.underlying35 hd
  simp only [Prod.mk.injEq] at ex
  have ex1 := ex.1
  obtain ⟨l⟩ := cs
  rw [hC] at hl
  match l, hl with
  | [a, b], _ =>
    simp [hCi] at g0 g1
    obtain ⟨n0, e0, f0, _⟩ := DataW.trod_int Tryd.underlying33 g0
    obtain ⟨n1, e1, f1, _⟩ := DataW.trod_int Tryd.underlying33 g1
    simp only [List.cons.injEq, and_true] at e0 e1
    subst e0 e1 f0 f1
    simp only [Rows.laid_colander_wide_one, DataW.agg.injEq, List.cons.injEq, DataW.lit.injEq, Lit.int.injEq, true_and, and_true] at ex1
    obtain ⟨rfl, rfl⟩ := ex1
    exact ⟨by rw [World.var?_cell gOne hv 0]; rfl, by rw [World.var?_cell gOne hv 1]; rfl⟩
end Go.Proofs.YtdmfhlfhlflakaaDoor
