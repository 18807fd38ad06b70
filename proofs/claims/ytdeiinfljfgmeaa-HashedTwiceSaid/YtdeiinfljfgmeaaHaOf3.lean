/-
  hashed.Of, walked.
-/
import Derived.Test.YtdeiinfljfgmeaaHaOf2
namespace Go.Proofs.Ytdeiinfljfgmeaa
open Go.RowKit
set_option linter.unusedVariables false
set_option linter.unusedSimpArgs false

theorem OwnRl.set {base : Nat} {W : World} {vv rv : Value} {R : Rl} (h : OwnRl base W vv rv R) {X i : Nat} {a b : Value} (hX : W.heap[X]? = some (.cells #[a, b] 25 (0, 0))) (u : Value) : OwnRl base (W.setCell ⟨X, i, none⟩ u) vv rv R := by
  obtain ⟨ps, h1, h2⟩ := h.rows
  exact ⟨own_set h.vars hX (by decide) u, h.wf, ps, ⟨own_set h1.own hX (by decide) u, fun p hp => ⟨own_set (h1.rows p hp).1 hX (by decide) u, (h1.rows p hp).2⟩⟩, h2⟩
theorem OwnRl.down {base base' : Nat} {W : World} {vv rv : Value} {R : Rl} (h : OwnRl base W vv rv R) (hb : base' ≤ base) : OwnRl base' W vv rv R := by
  obtain ⟨ps, h1, h2⟩ := h.rows
  exact ⟨owns_down h.vars hb, h.wf, ps, h1.down hb, h2⟩
/-- Rows of another width than the variables. -/
def badL (n : Nat) (rs : List (List Int)) : Bool := rs.any fun r => decide (r.length ≠ n)
theorem badL_no {n : Nat} {rs : List (List Int)} (h : badL n rs = false) : Wd n rs := fun r hr => by
  unfold badL at h
  have := List.any_eq_false.1 h r hr
  simpa using this
set_option maxHeartbeats 1000000 in
theorem ofBad_any {x : Nat} {vv rv : Value} {vs : List Int} {r : List Int} {W : World} (hx : W.heap[x]? = some (.cells #[vv] 22 (0, 0))) (hV : SlI .i64 W vv vs) (h : SlI .u64 W rv r) :
    Calls Try.prog 58 #[rv, .pointer (some ⟨x, 0, none⟩)] W fun e w' => e = .returned (.bool (decide (r.length ≠ vs.length))) ∧ Below W.heap.size W w' := by
  have c0 : W.cell? ⟨x, 0, none⟩ = some vv := by simpa using box_cell (i := 0) hx
  obtain ⟨a, c, rfl, h1, h2, -⟩ := h.open
  obtain ⟨av, cv, rfl, h3, h4, -⟩ := hV.open
  clear hx h hV
  go_enter Try.func58, Try.ntmps58
  go_wp2_with fail
  have e : ((r.length : Int) != (vs.length : Int)) = decide (r.length ≠ vs.length) := by
    by_cases q : r.length = vs.length
    · rw [q]; simp
    · rw [decide_eq_true q]
      simp
      omega
  go_ret
  exact ⟨by rw [← e]; rfl, Below.refl _ _⟩
set_option maxRecDepth 100000 in
set_option maxHeartbeats 4000000 in
theorem Of_any (vv rv : Value) (vs : List Int) (rs : List (List Int)) (w : World) (hV : SlI .i64 w vv vs) (hR : SlRK .u64 w rv rs) (hvl : vs.length ≤ 1048576) (hrl : rs.length ≤ 1048576) :
    Calls Try.prog 29 #[vv, rv] w fun e w' => Below w.heap.size w w' ∧ ∃ v1 v2 no, e = .returned (.tuple #[relV v1 v2, .int .i64 no]) ∧
      ((colB vs && !badL vs.length rs) = true → no = 0 ∧ OwnRl w.heap.size w' v1 v2 ⟨vs, ofL rs⟩) ∧ ((colB vs && !badL vs.length rs) = false → no = 2 ∧ v1 = .slice none 0 0 ∧ v2 = .slice none 0 0) := by
  have hE : Enters 58 := enters_of Try.func58 (by kernel_rfl) rfl
  obtain ⟨W0, hW0⟩ : ∃ W, W = (w.alloc (.cells #[vv] 22)).alloc (.cells #[.slice none 0 0, .slice none 0 0] 25) := ⟨_, rfl⟩
  have s0 : W0.heap.size = w.heap.size + 1 + 1 := by rw [hW0, World.size_alloc, World.size_alloc]
  have b0 : Below w.heap.size w W0 := by rw [hW0]; exact later_trans (later_alloc _ _) (later_alloc _ _)
  have bV : W0.heap[w.heap.size]? = some (.cells #[vv] 22 (0, 0)) := by rw [hW0]; exact box_alloc (box_new _ _ _) _
  have bX : RB W0 (w.heap.size + 1) (.slice none 0 0) (.slice none 0 0) := by
    rw [hW0]
    have h := box_new (w.alloc (.cells #[vv] 22)) #[.slice none 0 0, .slice none 0 0] 25
    rw [World.size_alloc] at h
    exact h
  have hC1 := columns_any vv vs W0 (SlI.later hV b0)
  have hC2 : ∀ W, Below W0.heap.size W0 W → Calls Try.prog 57 #[rv, .func (.func 58) #[] #[.pointer (some ⟨w.heap.size, 0, none⟩)]] W fun e w' => e = .returned (.bool (badL vs.length rs)) ∧ Below W.heap.size W w' := fun W hb =>
    ContainsFuncU_any hE (hR.later (later_trans b0 hb)) (fun r hr rv' W' hb' hS => ofBad_any (kept hb' (kept hb bV)) (SlI.later hV (later_trans (later_trans b0 hb) hb')) hS)
  have hC3 : ∀ W, Below W0.heap.size W0 W → badL vs.length rs = false → Calls Try.prog 40 #[vv, rv] W fun e w' => ∃ v1 v2, e = .returned (.tuple #[relV v1 v2, .int .i64 0]) ∧ OwnRl W.heap.size w' v1 v2 ⟨vs, ofL rs⟩ ∧ Below W.heap.size W w' := fun W hb hbad =>
    of_any vv rv vs rs W (SlI.later hV (later_trans b0 hb)) (hR.later (later_trans b0 hb)) (badL_no hbad) hvl hrl
  have cV := box_cell (i := 0) bV
  simp at cV
  obtain ⟨av, cv, rfl, -⟩ := hV.open
  obtain ⟨ar, cr, rfl, -⟩ := hR.open
  have HC1 := Lib.hid hC1
  have HC2 := Lib.hid hC2
  have HC3 := Lib.hid hC3
  have H0 := Lib.hid (And.intro bV (And.intro bX (And.intro b0 s0)))
  obtain ⟨cb, hcb⟩ : ∃ b, colB vs = b := ⟨_, rfl⟩
  obtain ⟨bb, hbb⟩ : ∃ b, badL vs.length rs = b := ⟨_, rfl⟩
  rw [hcb, hbb]
  clear hC1 hC2 hC3 bV bX b0 hV hR hE
  go_enter Try.func29, Try.ntmps29
  go_wp2_with fail
  rw [← hW0]
  clear hW0
  refine HC1.out.mono ?_
  rintro e W1 ⟨rfl, b1⟩
  rw [hcb]
  have HX1 := Lib.hid (kept b1 H0.out.2.1)
  have HB1 := Lib.hid (later_trans H0.out.2.2.1 b1)
  cases cb with
  | false =>
    obtain ⟨x0, x1, lX⟩ := two_of2 HX1.out
    have fX0 := box_frozen (i := 0) HX1.out
    have fX1 := box_frozen (i := 1) HX1.out
    have hb3 := box_set (i := 1) (box_set (i := 0) HX1.out (.slice none 0 0)) (.slice none 0 0)
    have d0 := box_cell (i := 0) hb3
    have d1 := box_cell (i := 1) hb3
    simp at d0 d1
    have hB' := below_set (i := 1) (u := .slice none 0 0) (below_set (i := 0) (u := .slice none 0 0) HB1.out (show w.heap.size ≤ w.heap.size + 1 by omega)) (show w.heap.size ≤ w.heap.size + 1 by omega)
    have HB' := Lib.hid hB'
    clear hB' hb3
    go_wp2_with fail
    refine bodyPost_ret (v := .tuple #[relV (.slice none 0 0) (.slice none 0 0), .int .i64 2]) (by simp [results, Try.results29, go_sem, d0, d1]) rfl ?_
    exact ⟨HB'.out, _, _, 2, rfl, fun h => by simp at h, fun _ => ⟨rfl, rfl, rfl⟩⟩
  | true =>
    have cV1 := cell_next b1 cV
    go_wp2_with fail
    refine (HC2.out W1 b1).mono ?_
    rintro e W2 ⟨rfl, b2⟩
    rw [hbb]
    have HX1 := Lib.hid (kept b2 HX1.out)
    have HB1 := Lib.hid (later_trans HB1.out b2)
    cases bb with
    | true =>
      obtain ⟨x0, x1, lX⟩ := two_of2 HX1.out
      have fX0 := box_frozen (i := 0) HX1.out
      have fX1 := box_frozen (i := 1) HX1.out
      have hb3 := box_set (i := 1) (box_set (i := 0) HX1.out (.slice none 0 0)) (.slice none 0 0)
      have d0 := box_cell (i := 0) hb3
      have d1 := box_cell (i := 1) hb3
      simp at d0 d1
      have hB' := below_set (i := 1) (u := .slice none 0 0) (below_set (i := 0) (u := .slice none 0 0) HB1.out (show w.heap.size ≤ w.heap.size + 1 by omega)) (show w.heap.size ≤ w.heap.size + 1 by omega)
      have HB' := Lib.hid hB'
      clear hB' hb3
      go_wp2_with fail
      refine bodyPost_ret (v := .tuple #[relV (.slice none 0 0) (.slice none 0 0), .int .i64 2]) (by simp [results, Try.results29, go_sem, d0, d1]) rfl ?_
      exact ⟨HB'.out, _, _, 2, rfl, fun h => by simp at h, fun _ => ⟨rfl, rfl, rfl⟩⟩
    | false =>
      have cV2 := cell_next b2 cV1
      have s1 := b1.size
      have s2 := b2.size
      go_wp2_with fail
      refine (HC3.out W2 (later_trans b1 b2) hbb).mono ?_
      rintro e W3 ⟨v1, v2, rfl, hO, b3⟩
      have hX3 := kept b3 HX1.out
      obtain ⟨x0, x1, lX⟩ := two_of2 hX3
      have fX0 := box_frozen (i := 0) hX3
      have fX1 := box_frozen (i := 1) hX3
      have hb3 := box_set (i := 1) (box_set (i := 0) hX3 v1) v2
      have d0 := box_cell (i := 0) hb3
      have d1 := box_cell (i := 1) hb3
      simp at d0 d1
      have hB' := below_set (i := 1) (u := v2) (below_set (i := 0) (u := v1) (later_trans HB1.out b3) (show w.heap.size ≤ w.heap.size + 1 by omega)) (show w.heap.size ≤ w.heap.size + 1 by omega)
      have hO' := (hO.set hX3 (i := 0) v1).set (box_set hX3 _) (i := 1) v2
      have HB' := Lib.hid (And.intro hB' (hO'.down (show w.heap.size ≤ W2.heap.size by omega)))
      obtain ⟨a1, c1, rfl⟩ := owns_shape2 hO.vars
      obtain ⟨ps, h1, h2⟩ := hO.rows
      obtain ⟨a2, c2, rfl⟩ := owns_shape2 h1.own
      clear hB' hO' hb3 hO hX3 h1 h2
      go_wp2_with fail
      refine bodyPost_ret (v := .tuple #[relV (.slice a1 vs.length c1) (.slice a2 ps.length c2), .int .i64 0]) (by simp [results, Try.results29, go_sem, d0, d1]) rfl ?_
      exact ⟨HB'.out.1, _, _, 0, rfl, fun _ => ⟨rfl, HB'.out.2⟩, fun h => by simp at h⟩
end Go.Proofs.Ytdeiinfljfgmeaa
