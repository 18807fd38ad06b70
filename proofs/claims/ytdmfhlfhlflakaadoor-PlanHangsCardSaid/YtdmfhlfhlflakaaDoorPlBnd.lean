/-
  plan.Bound, walked.
-/
import Derived.Deep.RegionHeld3
import Derived.Deep.DeepCutAuto
import Derived.Test.YtdmfhlfhlflakaaDoorPlBndP
namespace Go.Proofs.YtdmfhlfhlflakaaDoor
open Go.RowKit
set_option linter.unusedVariables false
set_option linter.unusedSimpArgs false

set_option maxRecDepth 100000 in
set_option maxHeartbeats 4000000 in
theorem bound_no1 (S : Shp) (c : Cov) (ev sv wv : Value) (w : World) (h : ShR w ev sv S) (hw : SlI .i64 w wv c.ws) (hok : shpB S = false) :
    Calls Tryd.prog 12 #[shpV S.many ev sv, covV wv c.of] w fun e w' => e = .returned (.tuple #[.agg #[.int .u64 0, .int .u64 0], .int .i64 320]) ∧ Below w.heap.size w w' := by
  have hS := BndW.start (w := w) (m := S.many) (ev := ev) (sv := sv) (wv := wv) (o := c.of)
  have hC := Check_any S ev sv _ (h.later hS.bel)
  rw [if_neg (by rw [hok]; decide)] at hC
  have HC := Lib.hid hC
  have HS := Lib.hid hS
  obtain ⟨m, ls, zs⟩ := S
  obtain ⟨ws, o⟩ := c
  obtain ⟨ae, ce, rfl, -⟩ := h.edges.open
  obtain ⟨az, cz, rfl, -⟩ := h.sizes.open
  obtain ⟨aw, cw, rfl, -⟩ := hw.open
  simp only at HC HS ⊢
  clear h hw hok hC hS
  go_enter Tryd.func12, Tryd.ntmps12
  go_wp2_with fail
  go_step3
  go_wp2_with fail
  refine HC.out.mono ?_
  rintro e w1 ⟨rfl, hb1⟩
  have H1 := Lib.hid (HS.out.later hb1)
  obtain ⟨r0, r1, f0, f1, lr⟩ := H1.out.res
  clear hb1
  go_wp2_with fail
  rw [Exit.noGoto_ret]
  refine bodyPost_ret (v := .tuple #[.agg #[.int .u64 0, .int .u64 0], .int .i64 320]) (by simp [results, Tryd.results12, go_sem, r0, r1]) rfl ?_
  exact ⟨rfl, H1.out.done _ _⟩

/-- What Check's yes gives. -/
theorem shpB_yes {S : Shp} (h : shpB S = true) : 0 ≤ S.many ∧ S.many ≤ 32 ∧ S.edges.length ≤ 40 ∧ S.sizes.length = S.edges.length ∧ S.sizes.any (badB 1048576) = false := by
  unfold shpB hypB sizesB at h
  simp only [Bool.and_eq_true, decide_eq_true_eq, Bool.not_eq_true'] at h
  obtain ⟨⟨⟨⟨⟨h1, h2⟩, h3⟩, -⟩, h4⟩, h5⟩ := h
  exact ⟨h1, h2, by omega, h4, h5⟩
theorem covers_any (S : Shp) (c : Cov) (ev sv wv : Value) (w : World) (h : ShR w ev sv S) (hw : SlI .i64 w wv c.ws) (hok : shpB S = true) :
    Calls Tryd.prog 49 #[shpV S.many ev sv, covV wv c.of] w fun e w' => e = .returned (.bool (coversB S c)) ∧ Below w.heap.size w w' := by
  obtain ⟨h1, h2, h3, -, -⟩ := shpB_yes hok
  by_cases hp : coverPre S c = true
  · exact covers_pre S c ev sv wv w h hw hp h1 h2 h3
  · rw [coversB_pre, Bool.eq_false_iff.2 hp, Bool.false_and]
    exact covers_no S c ev sv wv w h hw (Bool.eq_false_iff.2 hp)

set_option maxRecDepth 100000 in
set_option maxHeartbeats 4000000 in
theorem bound_no2 (S : Shp) (c : Cov) (ev sv wv : Value) (w : World) (h : ShR w ev sv S) (hw : SlI .i64 w wv c.ws) (hok : shpB S = true) (hcv : coversB S c = false) :
    Calls Tryd.prog 12 #[shpV S.many ev sv, covV wv c.of] w fun e w' => e = .returned (.tuple #[.agg #[.int .u64 0, .int .u64 0], .int .i64 321]) ∧ Below w.heap.size w w' := by
  have hS := BndW.start (w := w) (m := S.many) (ev := ev) (sv := sv) (wv := wv) (o := c.of)
  have hC := Check_any S ev sv _ (h.later hS.bel)
  rw [if_pos hok] at hC
  have hV := fun W (hb : Below _ _ W) => covers_any S c ev sv wv W ((h.later hS.bel).later hb) ((SlI.later hw hS.bel).later hb) hok
  simp only [hcv] at hV
  have HC := Lib.hid hC
  have HV := Lib.hid hV
  have HS := Lib.hid hS
  obtain ⟨m, ls, zs⟩ := S
  obtain ⟨ws, o⟩ := c
  obtain ⟨ae, ce, rfl, -⟩ := h.edges.open
  obtain ⟨az, cz, rfl, -⟩ := h.sizes.open
  obtain ⟨aw, cw, rfl, -⟩ := hw.open
  simp only at HC HS HV ⊢
  clear h hw hok hC hS hV hcv
  go_enter Tryd.func12, Tryd.ntmps12
  go_wp2_with fail
  go_step3
  go_wp2_with fail
  refine HC.out.mono ?_
  rintro e w1 ⟨rfl, hb1⟩
  have HB1 := Lib.hid hb1
  have H1 := Lib.hid (HS.out.later hb1)
  obtain ⟨c0, c1, c2, c3, c4⟩ := H1.out.cells
  clear hb1
  go_wp2_with fail
  refine (HV.out _ HB1.out).mono ?_
  rintro e w2 ⟨rfl, hb2⟩
  have H2 := Lib.hid (H1.out.later hb2)
  obtain ⟨r0, r1, f0, f1, lr⟩ := H2.out.res
  clear hb2
  go_wp2_with fail
  rw [Exit.noGoto_ret]
  refine bodyPost_ret (v := .tuple #[.agg #[.int .u64 0, .int .u64 0], .int .i64 321]) (by simp [results, Tryd.results12, go_sem, r0, r1]) rfl ?_
  exact ⟨rfl, H2.out.done _ _⟩
end Go.Proofs.YtdmfhlfhlflakaaDoor
