/-
  The law's own wakes: the layer does something.
-/
import Derived.Test.YtdfnfdgkhflonaaTCutF
import Derived.Test.YtdfnfdgkhflonaaTHas
import Derived.Test.YtdfnfdgkhflonaaTEq
namespace Go.Proofs.Ytdfnfdgkhflonaa
open Go.RowKit
set_option linter.unusedVariables false

def smallL : List Pr := [⟨1, 5⟩, ⟨2, 3⟩, ⟨2, 9⟩]
def smallB : List Br := [⟨1, 0, 1⟩, ⟨2, 1, 3⟩]
theorem small_run : RunOk smallL := ⟨by decide, fun i h1 h2 => by
  have h2' : i < 3 := h2
  have : i = 1 ∨ i = 2 := by omega
  rcases this with rfl | rfl
  · exact Or.inl (by decide)
  · exact Or.inr ⟨by decide, by decide⟩⟩
theorem small_br : brOf smallL = smallB := by decide
theorem small_trie : TrieOk smallB [5, 3, 9] := by
  refine ⟨by decide, fun i hi => ?_, by decide⟩
  have h2' : i < 2 := hi
  have : i = 0 ∨ i = 1 := by omega
  rcases this with rfl | rfl
  · refine ⟨⟨by decide, by decide, by decide, Or.inl rfl⟩, fun k h1 h2 => ?_⟩
    have e1 : (0 : Int) < k := h1
    have e2 : (k : Int) < 1 := h2
    omega
  · refine ⟨⟨by decide, by decide, by decide, Or.inr (by decide)⟩, fun k h1 h2 => ?_⟩
    have e1 : (1 : Int) < k := h1
    have e2 : (k : Int) < 3 := h2
    obtain rfl : k = 2 := by omega
    decide
theorem cut_trie : TrieOk [⟨2, 0, 2⟩] [3, 9] := by
  refine ⟨by decide, fun i hi => ?_, by decide⟩
  have h2' : i < 1 := hi
  obtain rfl : i = 0 := by omega
  refine ⟨⟨by decide, by decide, by decide, Or.inl rfl⟩, fun k h1 h2 => ?_⟩
  have e1 : (0 : Int) < k := h1
  have e2 : (k : Int) < 2 := h2
  obtain rfl : k = 1 := by omega
  decide
theorem small_wf : ∀ p ∈ smallL, p.wf := by
  intro p hp
  simp [smallL] at hp
  rcases hp with rfl | rfl | rfl <;> exact ⟨by decide, by decide⟩
theorem smallB_wf : ∀ b ∈ smallB, b.wf := by
  intro p hp
  simp [smallB] at hp
  rcases hp with rfl | rfl <;> exact ⟨by decide, by decide, by decide⟩

theorem small_any (w : World) : Calls Try.prog 77 #[] w fun e w' => e = .returned (.slice (some ⟨w.heap.size, 0, none⟩) 3 3) ∧ w' = w.alloc (.cells #[.int .u64 1, .int .u64 5, .int .u64 2, .int .u64 3, .int .u64 2, .int .u64 9] 59) := by
  go_enter Try.func77, Try.ntmps77
  go_wp2
  go_ret
  exact ⟨rfl, rfl⟩
theorem slp_small (w : World) : SlP (w.alloc (.cells #[.int .u64 1, .int .u64 5, .int .u64 2, .int .u64 3, .int .u64 2, .int .u64 9] 59)) (.slice (some ⟨w.heap.size, 0, none⟩) 3 3) smallL := by
  have h := World.ownsRow_lit (base := w.heap.size) (e := 59) (size := 2) w #[.int .u64 1, .int .u64 5, .int .u64 2, .int .u64 3, .int .u64 2, .int .u64 9] 3 (Nat.le_refl _) (by simp [maxLen]) (by simp)
  exact ⟨SlT.of_owns (xs := smallL) (cells := Pr.cells) (by simpa [smallL, Pr.cells] using h), small_wf⟩
theorem slb_lit (w : World) : SlB (w.alloc (.cells #[.int .u64 1, .int .i64 0, .int .i64 1, .int .u64 2, .int .i64 1, .int .i64 3] 40)) (.slice (some ⟨w.heap.size, 0, none⟩) 2 2) smallB := by
  have h := World.ownsRow_lit (base := w.heap.size) (e := 40) (size := 3) w #[.int .u64 1, .int .i64 0, .int .i64 1, .int .u64 2, .int .i64 1, .int .i64 3] 2 (Nat.le_refl _) (by simp [maxLen]) (by simp)
  exact ⟨SlT.of_owns (xs := smallB) (cells := Br.cells) (by simpa [smallB, Br.cells] using h), smallB_wf⟩
theorem sli_lit (k : IntKind) (w : World) (t : TypeId) (xs : List Int) (n : Nat) (hn : n = xs.length) (hm : n ≤ maxLen) (hw : ∀ x ∈ xs, (Lit.int k x).wf = true) :
    SlI k (w.alloc (.cells (xs.map (Value.int k)).toArray t)) (.slice (some ⟨w.heap.size, 0, none⟩) n n) xs := by
  subst hn
  have h := World.ownsRow_lit (base := w.heap.size) (e := t) (size := 1) w (xs.map (Value.int k)).toArray xs.length (Nat.le_refl _) hm (by simp)
  exact SlI.of_owns (n := xs.length) (by simpa using h) hw

theorem slp_tail (w : World) : SlP (w.alloc (.cells #[.int .u64 1, .int .u64 5, .int .u64 2, .int .u64 3, .int .u64 2, .int .u64 9] 59)) (.slice (some ⟨w.heap.size, 2, none⟩) 2 2) [⟨2, 3⟩, ⟨2, 9⟩] := by
  refine ⟨⟨by simp [Pr.cells], _, 2, rfl, by simp, by simp [maxLen], fun h => (by cases h), fun _ => ⟨w.heap.size, 2, rfl, by simp, fun i u hi => ?_⟩⟩, fun p hp => ?_⟩
  · have hi4 : i < 4 := by have := (List.getElem?_eq_some_iff.1 hi).1; simpa [Pr.cells] using this
    rw [World.cell?_alloc_new]
    have : i = 0 ∨ i = 1 ∨ i = 2 ∨ i = 3 := by omega
    rcases this with rfl | rfl | rfl | rfl <;> simpa [Pr.cells] using hi
  · simp at hp
    rcases hp with rfl | rfl <;> exact ⟨by decide, by decide⟩

/-- What wakes keeps. -/
def WK (w : World) (ab al ab4 al4 : Option Addr) (cb cl cb4 cl4 X1 X3 : Nat) (W : World) : Prop :=
  Below w.heap.size w W ∧ SlB W (.slice ab 2 cb) smallB ∧ SlI .u64 W (.slice al 3 cl) [5, 3, 9] ∧ SlB W (.slice ab4 1 cb4) [⟨2, 0, 2⟩] ∧ SlI .u64 W (.slice al4 2 cl4) [3, 9] ∧
    W.heap[X1]? = some (.cells #[.slice ab 2 cb, .slice al 3 cl] 25 (0, 0)) ∧ W.heap[X3]? = some (.cells #[.slice ab4 1 cb4, .slice al4 2 cl4] 25 (0, 0))
theorem WK.later {w : World} {ab al ab4 al4 : Option Addr} {cb cl cb4 cl4 X1 X3 : Nat} {W W' : World} (h : WK w ab al ab4 al4 cb cl cb4 cl4 X1 X3 W) (hb : Below W.heap.size W W') : WK w ab al ab4 al4 cb cl cb4 cl4 X1 X3 W' :=
  ⟨later_trans h.1 hb, h.2.1.later hb, h.2.2.1.later hb, h.2.2.2.1.later hb, h.2.2.2.2.1.later hb, (hb.block _ (lt_of_block h.2.2.2.2.2.1)).trans h.2.2.2.2.2.1, (hb.block _ (lt_of_block h.2.2.2.2.2.2)).trans h.2.2.2.2.2.2⟩
theorem WK.cells {w : World} {ab al ab4 al4 : Option Addr} {cb cl cb4 cl4 X1 X3 : Nat} {W : World} (h : WK w ab al ab4 al4 cb cl cb4 cl4 X1 X3 W) :
    (W.cell? ⟨X1, 0, none⟩ = some (.slice ab 2 cb) ∧ W.cell? ⟨X1, 1, none⟩ = some (.slice al 3 cl) ∧ X1 < W.heap.size) ∧ (W.cell? ⟨X3, 0, none⟩ = some (.slice ab4 1 cb4) ∧ W.cell? ⟨X3, 1, none⟩ = some (.slice al4 2 cl4) ∧ X3 < W.heap.size) := by
  obtain ⟨-, -, -, -, -, h1, h3⟩ := h
  exact ⟨⟨by simpa using box_cell (i := 0) h1, by simpa using box_cell (i := 1) h1, lt_of_block h1⟩, ⟨by simpa using box_cell (i := 0) h3, by simpa using box_cell (i := 1) h3, lt_of_block h3⟩⟩

set_option maxRecDepth 100000 in
set_option maxHeartbeats 4000000 in
theorem wakes7_any (w : World) : Calls Try.prog 34 #[] w fun e w' => e = .returned (.bool true) ∧ Below w.heap.size w w' := by
  go_enter Try.func34, Try.ntmps34
  go_wp2_with fail
  refine (small_any _).mono ?_
  rintro e w1 ⟨rfl, rfl⟩
  go_wp2_with fail
  refine (of_any _ _ _ (slp_small w)).mono ?_
  rintro e w2 ⟨vb, vl, q, rfl, hb2, hyes, -⟩
  obtain ⟨rfl, hB, hL⟩ := hyes small_run
  rw [small_br] at hB
  have hb02 := later_trans (later_alloc w _) hb2
  have hB : w2.ownsRow (w.alloc (.cells #[.int .u64 1, .int .u64 5, .int .u64 2, .int .u64 3, .int .u64 2, .int .u64 9] 59)).heap.size 40 3 vb 2 (smallB.flatMap Br.cells) := hB
  have hL : w2.ownsRow (w.alloc (.cells #[.int .u64 1, .int .u64 5, .int .u64 2, .int .u64 3, .int .u64 2, .int .u64 9] 59)).heap.size 38 1 vl 3 ([5, 3, 9].map (.int .u64)) := hL
  have sB : SlB w2 vb smallB := ⟨SlT.of_owns hB, smallB_wf⟩
  have sL : SlI .u64 w2 vl [5, 3, 9] := SlI.of_owns (n := 3) hL (by decide)
  obtain ⟨ab, cb, rfl⟩ := owns_shape2 hB
  obtain ⟨al, cl, rfl⟩ := owns_shape2 hL
  clear hyes hB hL hb2
  go_wp2_with fail
  have hbx := later_alloc w2 (.cells #[.slice ab 2 cb, .slice al 3 cl] 25)
  have hX1 := box_new w2 #[.slice ab 2 cb, .slice al 3 cl] 25
  obtain ⟨W3, hW3⟩ : ∃ W, w2.alloc (.cells #[.slice ab 2 cb, .slice al 3 cl] 25) = W := ⟨_, rfl⟩
  obtain ⟨X1, hX1e⟩ : ∃ X, w2.heap.size = X := ⟨_, rfl⟩
  rw [hW3] at hbx hX1 ⊢
  have sB := sB.later hbx
  have sL := sL.later hbx
  have hb03 := later_trans hb02 hbx
  simp only [hX1e] at hX1 ⊢
  clear hW3 hX1e hbx hb02
  refine (cut_any _ _ smallB [5, 3, 9] 2 9 W3 sB sL).mono ?_
  rintro e w4 ⟨vb4, vl4, q4, rfl, hb4, hyes4, -, -⟩
  obtain ⟨rfl, hB4, hL4⟩ := hyes4 small_trie (by decide)
  rw [show (runOf smallB [5, 3, 9]).filter (fun p => !cutB 2 9 p) = [⟨2, 3⟩, ⟨2, 9⟩] from by decide] at hB4 hL4
  rw [show brOf [⟨2, 3⟩, ⟨2, 9⟩] = [⟨2, 0, 2⟩] from by decide] at hB4
  have hB4 : w4.ownsRow W3.heap.size 40 3 vb4 1 (([⟨2, 0, 2⟩] : List Br).flatMap Br.cells) := hB4
  have hL4 : w4.ownsRow W3.heap.size 38 1 vl4 2 ([3, 9].map (.int .u64)) := hL4
  have sB4 : SlB w4 vb4 [⟨2, 0, 2⟩] := ⟨SlT.of_owns hB4, fun b hb => by simp at hb; subst hb; exact ⟨by decide, by decide, by decide⟩⟩
  have sL4 : SlI .u64 w4 vl4 [3, 9] := SlI.of_owns (n := 2) hL4 (by decide)
  obtain ⟨ab4, cb4, rfl⟩ := owns_shape2 hB4
  obtain ⟨al4, cl4, rfl⟩ := owns_shape2 hL4
  have hX14 := (hb4.block _ (lt_of_block hX1)).trans hX1
  have sB := sB.later hb4
  have sL := sL.later hb4
  have hb04 := later_trans hb03 hb4
  have x0 := box_cell (i := 0) hX14
  have x1 := box_cell (i := 1) hX14
  simp at x0 x1
  have hx1l := lt_of_block hX14
  clear hyes4 hB4 hL4 hX1 hb4 hb03
  go_wp2_with fail
  have hbx := later_alloc w4 (.cells #[.slice ab4 1 cb4, .slice al4 2 cl4] 25)
  have hX3 := box_new w4 #[.slice ab4 1 cb4, .slice al4 2 cl4] 25
  have hX1 := box_alloc hX14 (.cells #[.slice ab4 1 cb4, .slice al4 2 cl4] 25)
  obtain ⟨W5, hW5⟩ : ∃ W, w4.alloc (.cells #[.slice ab4 1 cb4, .slice al4 2 cl4] 25) = W := ⟨_, rfl⟩
  obtain ⟨X3, hX3e⟩ : ∃ X, w4.heap.size = X := ⟨_, rfl⟩
  rw [hW5] at hbx hX3 hX1 ⊢
  have sB := sB.later hbx
  have sL := sL.later hbx
  have sB4 := sB4.later hbx
  have sL4 := sL4.later hbx
  have hb05 := later_trans hb04 hbx
  simp only [hX3e] at hX3 ⊢
  clear hW5 hX3e hbx hb04 x0 x1 hx1l hX14
  refine (cut_any _ _ smallB [5, 3, 9] 3 2 W5 sB sL).mono ?_
  rintro e w6 ⟨vb6, vl6, q6, rfl, hb6, -, hyes6, -⟩
  obtain ⟨rfl, rfl, rfl⟩ := hyes6 small_trie (by decide)
  have hX1 := (hb6.block _ (lt_of_block hX1)).trans hX1
  have hX3 := (hb6.block _ (lt_of_block hX3)).trans hX3
  have sB := sB.later hb6
  have sL := sL.later hb6
  have sB4 := sB4.later hb6
  have sL4 := sL4.later hb6
  have hb06 := later_trans hb05 hb6
  have k6 : WK w ab al ab4 al4 cb cl cb4 cl4 X1 X3 w6 := ⟨hb06, sB, sL, sB4, sL4, hX1, hX3⟩
  clear hyes6 hb6 hb05 hb06 sB sL sB4 sL4 hX1 hX3
  clear hB hL hB4 hL4
  obtain ⟨⟨x0, x1, hx1l⟩, z0, z1, hx3l⟩ := k6.cells
  go_wp2_with fail
  have hb7 : Below w6.heap.size w6 ((w6.alloc (.cells #[.slice none 0 0, .slice none 0 0] 25)).alloc (.cells #[.int .u64 5, .int .u64 3, .int .u64 9] 38)) := later_trans (later_alloc w6 _) (later_alloc _ _)
  have k7 := k6.later hb7
  refine (equal_any _ _ [5, 3, 9] [5, 3, 9] _ k7.2.2.1 (by simpa using sli_lit .u64 (w6.alloc (.cells #[.slice none 0 0, .slice none 0 0] 25)) 38 [5, 3, 9] 3 rfl (by simp [maxLen]) (by decide))).mono ?_
  rintro e w7 ⟨rfl, n7, hw7⟩
  rw [show decide (([5, 3, 9] : List Int) = [5, 3, 9]) = true from by decide]
  have k7 : WK w ab al ab4 al4 cb cl cb4 cl4 X1 X3 w7 := k6.later (by rw [hw7]; exact later_trans hb7 (later_drewN _ _))
  clear hw7 hb7 x0 x1 hx1l z0 z1 hx3l k6
  obtain ⟨⟨x0, x1, hx1l⟩, z0, z1, hx3l⟩ := k7.cells
  go_wp2_with fail
  have hb8 := later_alloc w7 (.cells #[.int .u64 1, .int .i64 0, .int .i64 1, .int .u64 2, .int .i64 1, .int .i64 3] 40)
  refine (equalB_any _ _ smallB smallB _ (k7.2.1.later hb8) (slb_lit w7)).mono ?_
  rintro e w8 ⟨rfl, n8, hw8⟩
  rw [show decide (smallB = smallB) = true from by decide]
  have k8 : WK w ab al ab4 al4 cb cl cb4 cl4 X1 X3 w8 := k7.later (by rw [hw8]; exact later_trans hb8 (later_drewN _ _))
  clear hw8 hb8 x0 x1 hx1l z0 z1 hx3l k7
  obtain ⟨⟨x0, x1, hx1l⟩, z0, z1, hx3l⟩ := k8.cells
  go_wp2_with fail
  refine (run_any _ _ [⟨2, 0, 2⟩] [3, 9] w8 k8.2.2.2.1 k8.2.2.2.2.1 cut_trie).mono ?_
  rintro e w9 ⟨v9, rfl, hown9, hb9⟩
  rw [show runOf [⟨2, 0, 2⟩] [3, 9] = [⟨2, 3⟩, ⟨2, 9⟩] from by decide] at hown9
  have hown9 : w9.ownsRow w8.heap.size 59 2 v9 2 (([⟨2, 3⟩, ⟨2, 9⟩] : List Pr).flatMap Pr.cells) := hown9
  have s9 : SlP w9 v9 [⟨2, 3⟩, ⟨2, 9⟩] := ⟨SlT.of_owns hown9, fun p hp => by simp at hp; rcases hp with rfl | rfl <;> exact ⟨by decide, by decide⟩⟩
  obtain ⟨a9, c9, rfl⟩ := owns_shape2 hown9
  have k9 := k8.later hb9
  clear hown9 hb9 x0 x1 hx1l z0 z1 hx3l k8
  obtain ⟨⟨x0, x1, hx1l⟩, z0, z1, hx3l⟩ := k9.cells
  go_wp2_with fail
  refine (small_any _).mono ?_
  rintro e w10 ⟨rfl, hw10⟩
  subst hw10
  have hb10 := later_alloc w9 (.cells #[.int .u64 1, .int .u64 5, .int .u64 2, .int .u64 3, .int .u64 2, .int .u64 9] 59)
  go_wp2_with fail
  refine (equalP_any _ _ [⟨2, 3⟩, ⟨2, 9⟩] [⟨2, 3⟩, ⟨2, 9⟩] _ (s9.later hb10) (slp_tail w9)).mono ?_
  rintro e w11 ⟨rfl, n11, hw11⟩
  rw [show decide (([⟨2, 3⟩, ⟨2, 9⟩] : List Pr) = [⟨2, 3⟩, ⟨2, 9⟩]) = true from by decide]
  have k11 : WK w ab al ab4 al4 cb cl cb4 cl4 X1 X3 w11 := k9.later (by rw [hw11]; exact later_trans hb10 (later_drewN _ _))
  clear hw11 hb10 x0 x1 hx1l z0 z1 hx3l k9 s9
  obtain ⟨⟨x0, x1, hx1l⟩, z0, z1, hx3l⟩ := k11.cells
  go_wp2_with fail
  have hb12 := later_alloc w11 (.cells #[.int .u64 2] 38)
  have k12 := k11.later hb12
  refine (keys1_any _ _ _ _ _ smallB [5, 3, 9] 2 _ k12.2.1 k12.2.2.1 small_trie (by decide) (by simp)).mono ?_
  rintro e w13 ⟨v13, rfl, hown13, hb13⟩
  have hown13 : w13.ownsRow (w11.alloc (.cells #[.int .u64 2] 38)).heap.size 38 1 v13 2 ([3, 9].map (.int .u64)) := by
    rw [show underL smallB [5, 3, 9] 2 = [3, 9] from by decide] at hown13; exact hown13
  have s13 : SlI .u64 w13 v13 [3, 9] := SlI.of_owns (n := 2) hown13 (by decide)
  obtain ⟨a13, c13, rfl⟩ := owns_shape2 hown13
  have k13 := k12.later hb13
  clear hown13 hb13 hb12 x0 x1 hx1l z0 z1 hx3l k11 k12
  obtain ⟨⟨x0, x1, hx1l⟩, z0, z1, hx3l⟩ := k13.cells
  go_wp2_with fail
  have hb14 := later_alloc w13 (.cells #[.int .u64 3, .int .u64 9] 38)
  refine (equal_any _ _ [3, 9] [3, 9] _ (s13.later hb14) (by simpa using sli_lit .u64 w13 38 [3, 9] 2 rfl (by simp [maxLen]) (by decide))).mono ?_
  rintro e w14 ⟨rfl, n14, hw14⟩
  rw [show decide (([3, 9] : List Int) = [3, 9]) = true from by decide]
  have k14 : WK w ab al ab4 al4 cb cl cb4 cl4 X1 X3 w14 := k13.later (by rw [hw14]; exact later_trans hb14 (later_drewN _ _))
  clear hw14 hb14 x0 x1 hx1l z0 z1 hx3l k13 s13
  obtain ⟨⟨x0, x1, hx1l⟩, z0, z1, hx3l⟩ := k14.cells
  go_wp2_with fail
  have hb15 := later_alloc w14 (.cells #[.int .u64 2, .int .u64 9] 38)
  have k15 := k14.later hb15
  refine (has2_any _ _ _ _ _ smallB [5, 3, 9] 2 9 _ k15.2.1 k15.2.2.1 small_trie (by decide) (by simp) (by simp)).mono ?_
  rintro e w16 ⟨rfl, hb16⟩
  rw [show decide ((9 : Int) ∈ underL smallB [5, 3, 9] 2) = true from by decide]
  have k16 := k15.later hb16
  clear x0 x1 hx1l z0 z1 hx3l k14 k15 hb15 hb16
  go_wp2_with fail
  go_ret
  exact ⟨rfl, k16.1⟩
end Go.Proofs.Ytdfnfdgkhflonaa
