/-
  plan.Covers, walked.
-/
import Derived.Test.YtdmfhlfhlflakaaDoorPlOwn
namespace Go.Proofs.YtdmfhlfhlflakaaDoor
open Go.RowKit
set_option linter.unusedVariables false
set_option linter.unusedSimpArgs false

set_option maxRecDepth 100000 in
set_option maxHeartbeats 2000000 in
theorem Covers_any (S : Shp) (c : Cov) (ev sv wv : Value) (w : World) (h : ShR w ev sv S) (hw : SlI .i64 w wv c.ws) :
    Calls Tryd.prog 13 #[shpV S.many ev sv, covV wv c.of] w fun e w' => e = .returned (.bool (shpB S && coversB S c)) ∧ Below w.heap.size w w' := by
  have hl : Below w.heap.size w ((w.alloc (.cells #[.int .i64 S.many, ev, sv] 27)).alloc (.cells #[wv, .int .i64 c.of] 29)) := later_trans (later_alloc _ _) (later_alloc _ _)
  have hbS : SB ((w.alloc (.cells #[.int .i64 S.many, ev, sv] 27)).alloc (.cells #[wv, .int .i64 c.of] 29)) w.heap.size S.many ev sv := box_alloc (box_new _ _ _) _
  have hbC : CB ((w.alloc (.cells #[.int .i64 S.many, ev, sv] 27)).alloc (.cells #[wv, .int .i64 c.of] 29)) (w.heap.size + 1) wv c.of := by have h := box_new (w.alloc (.cells #[.int .i64 S.many, ev, sv] 27)) #[wv, .int .i64 c.of] 29; rw [World.size_alloc] at h; exact h
  have hC := Check_any S ev sv _ (h.later hl)
  have H0 := Lib.hid (And.intro hl (And.intro hbS hbC))
  have HSh := Lib.hid (And.intro h hw)
  by_cases hok : shpB S = true
  · rw [if_pos hok] at hC
    have hV := fun W (hb : Below w.heap.size w W) => covers_any S c ev sv wv W (h.later hb) (SlI.later hw hb) hok
    have HC := Lib.hid hC
    have HV := Lib.hid hV
    rw [hok, Bool.true_and]
    obtain ⟨q, hq⟩ : ∃ q, coversB S c = q := ⟨_, rfl⟩
    rw [hq] at HV ⊢
    obtain ⟨m, ls, zs⟩ := S
    obtain ⟨ws, o⟩ := c
    obtain ⟨ae, ce, rfl, -⟩ := h.edges.open
    obtain ⟨az, cz, rfl, -⟩ := h.sizes.open
    obtain ⟨aw, cw, rfl, -⟩ := hw.open
    simp only at HC H0 HV HSh ⊢
    clear h hw hok hC hV hq hl hbS hbC
    go_enter Tryd.func13, Tryd.ntmps13
    go_wp2_with fail
    refine HC.out.mono ?_
    rintro e w1 ⟨rfl, hb1⟩
    have H1 := Lib.hid (later_trans H0.out.1 hb1)
    obtain ⟨c0, c1, c2, -, -, -, lS⟩ := three_of (kept hb1 H0.out.2.1)
    obtain ⟨d0, d1, -, -, lC⟩ := two_of (kept hb1 H0.out.2.2)
    clear hb1
    go_wp2_with fail
    refine (HV.out _ H1.out).mono ?_
    rintro e w2 ⟨rfl, hb2⟩
    have H2 := Lib.hid (later_trans H1.out hb2)
    clear hb2
    go_wp2_with fail
    go_ret
    exact ⟨rfl, H2.out⟩
  · rw [if_neg hok] at hC
    have hokf : shpB S = false := Bool.eq_false_iff.2 hok
    have HC := Lib.hid hC
    rw [hokf, Bool.false_and]
    obtain ⟨m, ls, zs⟩ := S
    obtain ⟨ws, o⟩ := c
    obtain ⟨ae, ce, rfl, -⟩ := h.edges.open
    obtain ⟨az, cz, rfl, -⟩ := h.sizes.open
    obtain ⟨aw, cw, rfl, -⟩ := hw.open
    simp only at HC H0 HSh ⊢
    clear h hw hok hC hokf hl hbS hbC
    go_enter Tryd.func13, Tryd.ntmps13
    go_wp2_with fail
    refine HC.out.mono ?_
    rintro e w1 ⟨rfl, hb1⟩
    have H1 := Lib.hid (later_trans H0.out.1 hb1)
    clear hb1
    go_wp2_with fail
    go_ret
    exact ⟨rfl, H1.out⟩
end Go.Proofs.YtdmfhlfhlflakaaDoor
