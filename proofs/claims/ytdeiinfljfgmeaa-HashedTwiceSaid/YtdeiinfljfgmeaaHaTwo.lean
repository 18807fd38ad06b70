/-
  hashed.check, and what common asks, walked.
-/
import Derived.Test.YtdeiinfljfgmeaaHaProj
namespace Go.Proofs.Ytdeiinfljfgmeaa
open Go.RowKit
set_option linter.unusedVariables false
set_option linter.unusedSimpArgs false

set_option maxHeartbeats 1000000 in
theorem com1_any {x : Nat} {vv rv : Value} {vs : List Int} {z : Int} {W : World} (hx : RB W x vv rv) (hV : SlI .i64 W vv vs) :
    Calls Try.prog 66 #[.int .i64 z, .pointer (some ⟨x, 0, none⟩)] W fun e w' => e = .returned (.bool (decide (z ∈ vs))) ∧ Below W.heap.size W w' := by
  obtain ⟨c0, c1, -⟩ := two_of2 hx
  have HC := Lib.hid (Contains_any vv vs z W hV)
  obtain ⟨av, cv, rfl, -⟩ := hV.open
  clear hx hV
  go_enter Try.func66, Try.ntmps66
  go_wp2_with fail
  refine HC.out.mono ?_
  rintro e w2 ⟨rfl, h2⟩
  rw [h2]
  clear h2 w2
  go_wp2_with fail
  go_ret
  exact ⟨rfl, Below.refl _ _⟩
set_option maxHeartbeats 1000000 in
theorem com2_any {x : Nat} {vv rv : Value} {vs : List Int} {z : Int} {W : World} (hx : RB W x vv rv) (hV : SlI .i64 W vv vs) :
    Calls Try.prog 67 #[.int .i64 z, .pointer (some ⟨x, 0, none⟩)] W fun e w' => e = .returned (.bool (!decide (z ∈ vs))) ∧ Below W.heap.size W w' := by
  obtain ⟨c0, c1, -⟩ := two_of2 hx
  have HC := Lib.hid (Contains_any vv vs z W hV)
  obtain ⟨av, cv, rfl, -⟩ := hV.open
  clear hx hV
  go_enter Try.func67, Try.ntmps67
  go_wp2_with fail
  refine HC.out.mono ?_
  rintro e w2 ⟨rfl, h2⟩
  rw [h2]
  clear h2 w2
  go_wp2_with fail
  go_ret
  exact ⟨rfl, Below.refl _ _⟩
set_option maxRecDepth 100000 in
set_option maxHeartbeats 2000000 in
theorem check2_any (va ra vb rb : Value) (A B : Rl) (w : World) (hA : RlR w va ra A) (hB : RlR w vb rb B) :
    Calls Try.prog 46 #[relV va ra, relV vb rb] w fun e w' => ∃ no, e = .returned (.int .i64 no) ∧ no = (if (rightB A && rightB B) = true then 0 else 350) ∧ Below w.heap.size w w' := by
  obtain ⟨W0, hW0⟩ : ∃ W, W = (w.alloc (.cells #[va, ra] 25)).alloc (.cells #[vb, rb] 25) := ⟨_, rfl⟩
  have b0 : Below w.heap.size w W0 := by rw [hW0]; exact later_trans (later_alloc _ _) (later_alloc _ _)
  have bA : RB W0 w.heap.size va ra := by rw [hW0]; exact box_alloc (box_new _ _ _) _
  have bB : RB W0 (w.heap.size + 1) vb rb := by
    rw [hW0]
    have h := box_new (w.alloc (.cells #[va, ra] 25)) #[vb, rb] 25
    rw [World.size_alloc] at h
    exact h
  have HC1 := Lib.hid (Check_any va ra A W0 (hA.later b0))
  have hC2 : ∀ W, Below W0.heap.size W0 W → Calls Try.prog 28 #[relV vb rb] W fun e w' => e = .returned (.int .i64 (if rightB B = true then 0 else 350)) ∧ Below W.heap.size W w' := fun W hb => Check_any vb rb B W ((hB.later b0).later hb)
  have HC2 := Lib.hid hC2
  obtain ⟨aa, ca, e1, -⟩ := hA.vars.open
  obtain ⟨a2, c2, e2, -⟩ := hA.rows.open
  obtain ⟨a3, c3, e3, -⟩ := hB.vars.open
  obtain ⟨a4, c4, e4, -⟩ := hB.rows.open
  subst e1 e2 e3 e4
  have H0 := Lib.hid (And.intro b0 bB)
  obtain ⟨ga, hga⟩ : ∃ b, rightB A = b := ⟨_, rfl⟩
  obtain ⟨gb, hgb⟩ : ∃ b, rightB B = b := ⟨_, rfl⟩
  rw [hga, hgb]
  obtain ⟨res, hres⟩ : ∃ r : Int, (if (ga && gb) = true then (0 : Int) else 350) = r := ⟨_, rfl⟩
  rw [hres]
  have HR := Lib.hid hres
  clear hC2 bA bB b0 hA hB hres
  go_enter Try.func46, Try.ntmps46
  go_wp2_with fail
  rw [← hW0]
  clear hW0
  refine HC1.out.mono ?_
  rintro e W1 ⟨rfl, b1⟩
  rw [hga]
  obtain ⟨c0, c1, -⟩ := two_of2 (kept b1 H0.out.2)
  have HB1 := Lib.hid (later_trans H0.out.1 b1)
  cases ga with
  | false =>
    go_wp2_with fail
    go_ret
    exact ⟨_, rfl, by rw [← HR.out]; rfl, HB1.out⟩
  | true =>
    simp only [if_true]
    go_wp2_with fail
    refine (HC2.out W1 b1).mono ?_
    rintro e W2 ⟨rfl, b2⟩
    rw [hgb]
    have HB2 := Lib.hid (later_trans HB1.out b2)
    cases gb with
    | false =>
      go_wp2_with fail
      go_ret
      exact ⟨_, rfl, by rw [← HR.out]; rfl, HB2.out⟩
    | true =>
      simp only [if_true]
      go_wp2_with fail
      go_ret
      exact ⟨_, rfl, by rw [← HR.out]; rfl, HB2.out⟩
end Go.Proofs.Ytdeiinfljfgmeaa
