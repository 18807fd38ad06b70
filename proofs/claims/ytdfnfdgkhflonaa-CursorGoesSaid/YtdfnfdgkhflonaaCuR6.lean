/-
  The document's answer for the cursor (colanderref08), walked: Move, on. (Printed by mkcur5.py.)
-/
import Derived.Test.YtdfnfdgkhflonaaCuR5
import Derived.Deep.RegionLaw
namespace Go.Proofs.Ytdfnfdgkhflonaa
open Go.RowKit
set_option linter.unusedVariables false

section
variable {ab al : Option Addr} {nb cb nl cl : Nat} {w : World} {z1 z2 le mo kind key q : Int}

set_option maxRecDepth 100000 in
set_option maxHeartbeats 1000000 in
theorem move08_next1 (hz0 : 0 ≤ z1) (hz1 : z1 ≤ 1048576) (hW : WhyIs #[.slice ab nb cb, .slice al nl cl, .int .i64 1, .int .i64 0, .int .i64 z1, .int .i64 z2, .int .i64 le, .int .i64 mo] 3 key 0 w) (hl0 : 0 ≤ le) (hl1 : le ≤ 1000000) (hm0 : 0 ≤ mo) (hm1 : mo ≤ 1000000) :
    Calls Try.prog 18 #[.agg #[.slice ab nb cb, .slice al nl cl, .int .i64 1, .int .i64 0, .int .i64 z1, .int .i64 z2, .int .i64 le, .int .i64 mo], .agg #[.int .i64 3, .int .u64 key]] w fun e w' => e = .returned (.tuple #[.agg #[.slice ab nb cb, .slice al nl cl, .int .i64 1, .int .i64 0, .int .i64 (z1 + 1), .int .i64 z2, .int .i64 (le + 1), .int .i64 (mo + 1)], .int .i64 0]) ∧ Below w.heap.size w w' := by
  have HW := Lib.hid hW
  clear hW
  go_enter Try.func18, Try.ntmps18
  go_wp2_with fail
  obtain ⟨bX, bM, bR, bb⟩ := three_boxes w #[.slice ab nb cb, .slice al nl cl, .int .i64 1, .int .i64 0, .int .i64 z1, .int .i64 z2, .int .i64 le, .int .i64 mo] #[.int .i64 3, .int .u64 key] #[.slice none 0 0, .slice none 0 0, .int .i64 0, .int .i64 0, .int .i64 0, .int .i64 0, .int .i64 0, .int .i64 0] 36 42 36
  refine (HW.out _ bb).mono ?_
  rintro e w2 ⟨rfl, hb2⟩
  have hX := (hb2.block _ (lt_of_block bX)).trans bX
  have hM := (hb2.block _ (lt_of_block bM)).trans bM
  have hR := (hb2.block _ (lt_of_block bR)).trans bR
  have hb := later_trans bb hb2
  obtain ⟨x0, x1, x2, x3, x4, x5, x6, x7⟩ := box8 hX
  have fX : ∀ i, w2.frozen? ⟨w.heap.size, i, none⟩ = false := fun i => box_frozen hX
  have fR : ∀ i, w2.frozen? ⟨w.heap.size + 2, i, none⟩ = false := fun i => box_frozen hR
  obtain ⟨r0, r1, r2, r3, r4, r5, r6, r7⟩ := box8 hR
  have m0 := box_cell (i := 0) hM
  have m1 := box_cell (i := 1) hM
  simp only [List.getElem?_toArray, List.getElem?_cons_zero, List.getElem?_cons_succ] at m0 m1
  have HX := Lib.hid hX
  have HM := Lib.hid hM
  have HR := Lib.hid hR
  have HB := Lib.hid hb
  clear bX bM bR bb hb2 hX hM hR hb
  have hne : w.heap.size + 2 ≠ w.heap.size := by omega
  have hne1 : w.heap.size + 1 ≠ w.heap.size := by omega
  go_wp2_with fail
  go_region
  have hX0 := (box_set (i := 4) HX.out (.int .i64 (z1 + 1)))
  have hR : (w2.setCell ⟨w.heap.size, 4, none⟩ (.int .i64 (z1 + 1))).drew.heap[w.heap.size + 2]? = _ := (box_other HR.out hne (.int .i64 (z1 + 1)))
  have hM : (w2.setCell ⟨w.heap.size, 4, none⟩ (.int .i64 (z1 + 1))).drew.heap[w.heap.size + 1]? = _ := (box_other HM.out hne1 (.int .i64 (z1 + 1)))
  have hb : Below w.heap.size w (w2.setCell ⟨w.heap.size, 4, none⟩ (.int .i64 (z1 + 1))).drew := (HB.out.setCell (p := ⟨w.heap.size, 4, none⟩) (Nat.le_refl _) (.int .i64 (z1 + 1))).drew
  simp only [List.setIfInBounds_toArray, List.set_cons_zero, List.set_cons_succ] at hX0
  have hX : (w2.setCell ⟨w.heap.size, 4, none⟩ (.int .i64 (z1 + 1))).drew.heap[w.heap.size]? = _ := hX0
  clear hX0 HX HM HR HB x0 x1 x2 x3 x4 x5 x6 x7 fX fR r0 r1 r2 r3 r4 r5 r6 r7 m0 m1
  generalize (w2.setCell ⟨w.heap.size, 4, none⟩ (.int .i64 (z1 + 1))).drew = w3 at hX hR hM hb ⊢
  obtain ⟨x0, x1, x2, x3, x4, x5, x6, x7⟩ := box8 hX
  have fX : ∀ i, w3.frozen? ⟨w.heap.size, i, none⟩ = false := fun i => box_frozen hX
  have fR : ∀ i, w3.frozen? ⟨w.heap.size + 2, i, none⟩ = false := fun i => box_frozen hR
  obtain ⟨r0, r1, r2, r3, r4, r5, r6, r7⟩ := box8 hR
  have m0 := box_cell (i := 0) hM
  have m1 := box_cell (i := 1) hM
  simp only [List.getElem?_toArray, List.getElem?_cons_zero, List.getElem?_cons_succ] at m0 m1
  have HX := Lib.hid hX
  have HM := Lib.hid hM
  have HR := Lib.hid hR
  have HB := Lib.hid hb
  clear hX hM hR hb
  go_wp2_with fail
  exact end_cell_tmp (g := w.heap.size + 2) (u := .int .i64 0) Try.results18 rfl rfl (box_set8 (box_other (box_other HR.out hne _) hne _) _ _ _ _ _ _ _ _) Try.underlying36 rfl place_size rfl ⟨rfl, below_set8 ((HB.out.setCell (p := ⟨w.heap.size, 6, none⟩) (Nat.le_refl _) _).setCell (p := ⟨w.heap.size, 7, none⟩) (Nat.le_refl _) _) (by omega) _ _ _ _ _ _ _ _⟩

set_option maxRecDepth 100000 in
set_option maxHeartbeats 1000000 in
theorem move08_next2 (hz0 : 0 ≤ z2) (hz1 : z2 ≤ 1048576) (hW : WhyIs #[.slice ab nb cb, .slice al nl cl, .int .i64 2, .int .i64 0, .int .i64 z1, .int .i64 z2, .int .i64 le, .int .i64 mo] 3 key 0 w) (hl0 : 0 ≤ le) (hl1 : le ≤ 1000000) (hm0 : 0 ≤ mo) (hm1 : mo ≤ 1000000) :
    Calls Try.prog 18 #[.agg #[.slice ab nb cb, .slice al nl cl, .int .i64 2, .int .i64 0, .int .i64 z1, .int .i64 z2, .int .i64 le, .int .i64 mo], .agg #[.int .i64 3, .int .u64 key]] w fun e w' => e = .returned (.tuple #[.agg #[.slice ab nb cb, .slice al nl cl, .int .i64 2, .int .i64 0, .int .i64 z1, .int .i64 (z2 + 1), .int .i64 (le + 1), .int .i64 (mo + 1)], .int .i64 0]) ∧ Below w.heap.size w w' := by
  have HW := Lib.hid hW
  clear hW
  go_enter Try.func18, Try.ntmps18
  go_wp2_with fail
  obtain ⟨bX, bM, bR, bb⟩ := three_boxes w #[.slice ab nb cb, .slice al nl cl, .int .i64 2, .int .i64 0, .int .i64 z1, .int .i64 z2, .int .i64 le, .int .i64 mo] #[.int .i64 3, .int .u64 key] #[.slice none 0 0, .slice none 0 0, .int .i64 0, .int .i64 0, .int .i64 0, .int .i64 0, .int .i64 0, .int .i64 0] 36 42 36
  refine (HW.out _ bb).mono ?_
  rintro e w2 ⟨rfl, hb2⟩
  have hX := (hb2.block _ (lt_of_block bX)).trans bX
  have hM := (hb2.block _ (lt_of_block bM)).trans bM
  have hR := (hb2.block _ (lt_of_block bR)).trans bR
  have hb := later_trans bb hb2
  obtain ⟨x0, x1, x2, x3, x4, x5, x6, x7⟩ := box8 hX
  have fX : ∀ i, w2.frozen? ⟨w.heap.size, i, none⟩ = false := fun i => box_frozen hX
  have fR : ∀ i, w2.frozen? ⟨w.heap.size + 2, i, none⟩ = false := fun i => box_frozen hR
  obtain ⟨r0, r1, r2, r3, r4, r5, r6, r7⟩ := box8 hR
  have m0 := box_cell (i := 0) hM
  have m1 := box_cell (i := 1) hM
  simp only [List.getElem?_toArray, List.getElem?_cons_zero, List.getElem?_cons_succ] at m0 m1
  have HX := Lib.hid hX
  have HM := Lib.hid hM
  have HR := Lib.hid hR
  have HB := Lib.hid hb
  clear bX bM bR bb hb2 hX hM hR hb
  have hne : w.heap.size + 2 ≠ w.heap.size := by omega
  have hne1 : w.heap.size + 1 ≠ w.heap.size := by omega
  go_wp2_with fail
  go_region
  have hX0 := (box_set (i := 5) HX.out (.int .i64 (z2 + 1)))
  have hR : (w2.setCell ⟨w.heap.size, 5, none⟩ (.int .i64 (z2 + 1))).drew.heap[w.heap.size + 2]? = _ := (box_other HR.out hne (.int .i64 (z2 + 1)))
  have hM : (w2.setCell ⟨w.heap.size, 5, none⟩ (.int .i64 (z2 + 1))).drew.heap[w.heap.size + 1]? = _ := (box_other HM.out hne1 (.int .i64 (z2 + 1)))
  have hb : Below w.heap.size w (w2.setCell ⟨w.heap.size, 5, none⟩ (.int .i64 (z2 + 1))).drew := (HB.out.setCell (p := ⟨w.heap.size, 5, none⟩) (Nat.le_refl _) (.int .i64 (z2 + 1))).drew
  simp only [List.setIfInBounds_toArray, List.set_cons_zero, List.set_cons_succ] at hX0
  have hX : (w2.setCell ⟨w.heap.size, 5, none⟩ (.int .i64 (z2 + 1))).drew.heap[w.heap.size]? = _ := hX0
  clear hX0 HX HM HR HB x0 x1 x2 x3 x4 x5 x6 x7 fX fR r0 r1 r2 r3 r4 r5 r6 r7 m0 m1
  generalize (w2.setCell ⟨w.heap.size, 5, none⟩ (.int .i64 (z2 + 1))).drew = w3 at hX hR hM hb ⊢
  obtain ⟨x0, x1, x2, x3, x4, x5, x6, x7⟩ := box8 hX
  have fX : ∀ i, w3.frozen? ⟨w.heap.size, i, none⟩ = false := fun i => box_frozen hX
  have fR : ∀ i, w3.frozen? ⟨w.heap.size + 2, i, none⟩ = false := fun i => box_frozen hR
  obtain ⟨r0, r1, r2, r3, r4, r5, r6, r7⟩ := box8 hR
  have m0 := box_cell (i := 0) hM
  have m1 := box_cell (i := 1) hM
  simp only [List.getElem?_toArray, List.getElem?_cons_zero, List.getElem?_cons_succ] at m0 m1
  have HX := Lib.hid hX
  have HM := Lib.hid hM
  have HR := Lib.hid hR
  have HB := Lib.hid hb
  clear hX hM hR hb
  go_wp2_with fail
  exact end_cell_tmp (g := w.heap.size + 2) (u := .int .i64 0) Try.results18 rfl rfl (box_set8 (box_other (box_other HR.out hne _) hne _) _ _ _ _ _ _ _ _) Try.underlying36 rfl place_size rfl ⟨rfl, below_set8 ((HB.out.setCell (p := ⟨w.heap.size, 6, none⟩) (Nat.le_refl _) _).setCell (p := ⟨w.heap.size, 7, none⟩) (Nat.le_refl _) _) (by omega) _ _ _ _ _ _ _ _⟩
end
end Go.Proofs.Ytdfnfdgkhflonaa
