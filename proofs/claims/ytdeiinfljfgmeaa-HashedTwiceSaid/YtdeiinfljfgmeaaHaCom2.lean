/-
  hashed.common, walked.
-/
import Derived.Test.YtdeiinfljfgmeaaHaTwo
namespace Go.Proofs.Ytdeiinfljfgmeaa
open Go.RowKit
set_option linter.unusedVariables false
set_option linter.unusedSimpArgs false

def sharedL (A B : Rl) : List Int := A.vars.filter fun z => decide (z ∈ B.vars)
def aloneL (A B : Rl) : List Int := B.vars.filter fun z => !decide (z ∈ A.vars)
theorem hasL_sub {vs o : List Int} (h : ∀ x ∈ o, x ∈ vs) : hasL vs o = true := List.all_eq_true.2 fun x hx => decide_eq_true (h x hx)
set_option maxRecDepth 100000 in
set_option maxHeartbeats 2000000 in
theorem placesOk_any (vv rv v : Value) (vs o : List Int) (w : World) (h : SlI .i64 w vv vs) (hr : ∃ a n c, rv = .slice a n c) (ho : SlI .i64 w v o) (hl : o.length ≤ 1099511627776) (hin : ∀ x ∈ o, x ∈ vs) :
    Calls Try.prog 38 #[relV vv rv, v] w fun e w' => ∃ v', e = .returned (.tuple #[v', .bool true]) ∧ w'.ownsRow w.heap.size 3 1 v' o.length ((placesL vs o).map (.int .i64)) ∧ Below w.heap.size w w' := by
  have hh := hasL_sub hin
  refine (places_any vv rv v vs o w h hr ho hl).mono ?_
  rintro e w' ⟨v', rfl, h1, -, h3⟩
  exact ⟨v', by rw [show (o.all fun x => decide (x ∈ vs)) = true from hh], h1 hh, h3⟩
set_option maxRecDepth 100000 in
set_option maxHeartbeats 2000000 in
theorem common_any (va ra vb rb : Value) (A B : Rl) (w : World) (hA : RlR w va ra A) (hB : RlR w vb rb B) (hAl : A.vars.length ≤ 1048576) (hBl : B.vars.length ≤ 1048576) :
    Calls Try.prog 47 #[relV va ra, relV vb rb] w fun e w' => ∃ p q r, e = .returned (.tuple #[p, q, r]) ∧ w'.ownsRow w.heap.size 3 1 p (sharedL A B).length ((placesL A.vars (sharedL A B)).map (.int .i64)) ∧
      w'.ownsRow w.heap.size 3 1 q (sharedL A B).length ((placesL B.vars (sharedL A B)).map (.int .i64)) ∧ w'.ownsRow w.heap.size 3 1 r (aloneL A B).length ((placesL B.vars (aloneL A B)).map (.int .i64)) ∧ Below w.heap.size w w' := by
  have hE1 : Enters 66 := enters_of Try.func66 (by kernel_rfl) rfl
  have hE2 : Enters 67 := enters_of Try.func67 (by kernel_rfl) rfl
  obtain ⟨W0, hW0⟩ : ∃ W, W = (w.alloc (.cells #[va, ra] 25)).alloc (.cells #[vb, rb] 25) := ⟨_, rfl⟩
  have s0 : W0.heap.size = w.heap.size + 1 + 1 := by rw [hW0, World.size_alloc, World.size_alloc]
  have b0 : Below w.heap.size w W0 := by rw [hW0]; exact later_trans (later_alloc _ _) (later_alloc _ _)
  have bA : RB W0 w.heap.size va ra := by rw [hW0]; exact box_alloc (box_new _ _ _) _
  have bB : RB W0 (w.heap.size + 1) vb rb := by
    rw [hW0]
    have h := box_new (w.alloc (.cells #[va, ra] 25)) #[vb, rb] 25
    rw [World.size_alloc] at h
    exact h
  have hSl : (sharedL A B).length ≤ 1048576 := Nat.le_trans (List.length_filter_le _ _) hAl
  have hLl : (aloneL A B).length ≤ 1048576 := Nat.le_trans (List.length_filter_le _ _) hBl
  have sA : ∀ x ∈ sharedL A B, x ∈ A.vars := fun x hx => (List.mem_filter.1 hx).1
  have sB : ∀ x ∈ sharedL A B, x ∈ B.vars := fun x hx => of_decide_eq_true (List.mem_filter.1 hx).2
  have lB : ∀ x ∈ aloneL A B, x ∈ B.vars := fun x hx => (List.mem_filter.1 hx).1
  have hK1 : Calls Try.prog 65 #[va, .func (.func 66) #[] #[.pointer (some ⟨w.heap.size + 1, 0, none⟩)]] W0 fun e w' => ∃ v', e = .returned v' ∧ w'.ownsRow W0.heap.size 3 1 v' (sharedL A B).length ((sharedL A B).map (.int .i64)) ∧ Below W0.heap.size W0 w' :=
    keptI_any hE1 (SlI.later hA.vars b0) (by omega) (fun x hx W hb => com1_any (kept hb bB) (SlI.later hB.vars (later_trans b0 hb)))
  have hK2 : ∀ W, Below W0.heap.size W0 W → Calls Try.prog 65 #[vb, .func (.func 67) #[] #[.pointer (some ⟨w.heap.size, 0, none⟩)]] W fun e w' => ∃ v', e = .returned v' ∧ w'.ownsRow W.heap.size 3 1 v' (aloneL A B).length ((aloneL A B).map (.int .i64)) ∧ Below W.heap.size W w' := fun W hb0 =>
    keptI_any hE2 (SlI.later hB.vars (later_trans b0 hb0)) (by omega) (fun x hx W' hb => com2_any (kept hb (kept hb0 bA)) (SlI.later hA.vars (later_trans (later_trans b0 hb0) hb)))
  have wfA : ∀ x ∈ sharedL A B, (Lit.int .i64 x).wf = true := fun x hx => hA.vars.2 x (sA x hx)
  have wfB : ∀ x ∈ aloneL A B, (Lit.int .i64 x).wf = true := fun x hx => hB.vars.2 x (lB x hx)
  obtain ⟨a1, c1, e1, -⟩ := hA.vars.open
  obtain ⟨a2, c2, e2, -⟩ := hA.rows.open
  obtain ⟨a3, c3, e3, -⟩ := hB.vars.open
  obtain ⟨a4, c4, e4, -⟩ := hB.rows.open
  subst e1 e2 e3 e4
  obtain ⟨x0, x1, -⟩ := two_of2 bA
  obtain ⟨y0, y1, -⟩ := two_of2 bB
  have HK1 := Lib.hid hK1
  have HK2 := Lib.hid hK2
  have H0 := Lib.hid (And.intro b0 (And.intro hA (And.intro hB (And.intro wfA (And.intro wfB (And.intro sA (And.intro sB lB)))))))
  clear hK1 hK2 bA bB b0 hA hB wfA wfB sA sB lB hE1 hE2
  go_enter Try.func47, Try.ntmps47
  go_wp2_with fail
  rw [← hW0]
  clear hW0
  refine HK1.out.mono ?_
  rintro e W1 ⟨v1, rfl, o1, b1⟩
  have x0' := cell_next b1 x0
  have x1' := cell_next b1 x1
  have y0' := cell_next b1 y0
  have y1' := cell_next b1 y1
  have H1 := Lib.hid (And.intro o1 b1)
  clear x0 x1 y0 y1
  clear o1 b1
  go_wp2_with fail
  refine (HK2.out W1 H1.out.2).mono ?_
  rintro e W2 ⟨v2, rfl, o2, b2⟩
  have x0 := cell_next b2 x0'
  have x1 := cell_next b2 x1'
  have y0 := cell_next b2 y0'
  have y1 := cell_next b2 y1'
  have b02 := later_trans H0.out.1 (later_trans H1.out.2 b2)
  have hP3 := placesOk_any (.slice a1 A.vars.length c1) (.slice a2 A.rows.length c2) v1 A.vars (sharedL A B) W2 (SlI.later H0.out.2.1.vars b02) ⟨_, _, _, rfl⟩ (SlI.of_owns (owns_later H1.out.1 b2) H0.out.2.2.2.1) (by omega) H0.out.2.2.2.2.2.1
  have HP3 := Lib.hid hP3
  have H2 := Lib.hid (And.intro o2 (And.intro b2 b02))
  have z1 := H1.out.2.size
  have z2 := b2.size
  clear x0' x1' y0' y1' o2 b2 b02 hP3
  go_wp2_with fail
  refine HP3.out.mono ?_
  rintro e W3 ⟨v3, rfl, o3, b3⟩
  have y0' := cell_next b3 y0
  have y1' := cell_next b3 y1
  have b03 := later_trans H2.out.2.2 b3
  have HP4 := Lib.hid (placesOk_any (.slice a3 B.vars.length c3) (.slice a4 B.rows.length c4) v1 B.vars (sharedL A B) W3 (SlI.later H0.out.2.2.1.vars b03) ⟨_, _, _, rfl⟩ (SlI.of_owns (owns_later (owns_later H1.out.1 H2.out.2.1) b3) H0.out.2.2.2.1) (by omega) H0.out.2.2.2.2.2.2.1)
  have H3 := Lib.hid (And.intro o3 (And.intro b3 b03))
  have z3 := b3.size
  clear x0 x1 y0 y1 o3 b3 b03
  go_wp2_with fail
  refine HP4.out.mono ?_
  rintro e W4 ⟨v4, rfl, o4, b4⟩
  have y0 := cell_next b4 y0'
  have y1 := cell_next b4 y1'
  have b04 := later_trans H3.out.2.2 b4
  have HP5 := Lib.hid (placesOk_any (.slice a3 B.vars.length c3) (.slice a4 B.rows.length c4) v2 B.vars (aloneL A B) W4 (SlI.later H0.out.2.2.1.vars b04) ⟨_, _, _, rfl⟩ (SlI.of_owns (owns_later (owns_later H2.out.1 H3.out.2.1) b4) H0.out.2.2.2.2.1) (by omega) H0.out.2.2.2.2.2.2.2)
  have H4 := Lib.hid (And.intro o4 (And.intro b4 b04))
  have z4 := b4.size
  clear y0' y1' o4 b4 b04
  go_wp2_with fail
  refine HP5.out.mono ?_
  rintro e W5 ⟨v5, rfl, o5, b5⟩
  have H5 := Lib.hid (And.intro o5 b5)
  clear y0 y1 o5 b5
  go_wp2_with fail
  refine bodyPost_ret (v := .tuple #[v3, v4, v5]) (by simp [results, Try.results47, go_sem]) rfl ?_
  exact ⟨_, _, _, rfl, owns_down (owns_later (owns_later H3.out.1 H4.out.2.1) H5.out.2) (by omega), owns_down (owns_later H4.out.1 H5.out.2) (by omega), owns_down H5.out.1 (by omega), later_trans H4.out.2.2 H5.out.2⟩
end Go.Proofs.Ytdeiinfljfgmeaa
