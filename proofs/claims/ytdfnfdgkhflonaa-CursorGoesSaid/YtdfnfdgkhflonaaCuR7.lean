/-
  The document's answer for the cursor (colanderref08), walked: Move, on. (Printed by mkcur5.py.)
-/
import Derived.Test.YtdfnfdgkhflonaaCuR6
import Derived.Deep.RegionLaw
namespace Go.Proofs.Ytdfnfdgkhflonaa
open Go.RowKit
set_option linter.unusedVariables false

section
variable {ab al : Option Addr} {nb cb nl cl : Nat} {w : World} {z1 z2 le mo kind key q : Int}

set_option maxRecDepth 100000 in
set_option maxHeartbeats 2000000 in
theorem move08_seek1 {xs : List Int} {r : Nat} (hW : WhyIs #[.slice ab nb cb, .slice al nl cl, .int .i64 1, .int .i64 0, .int .i64 r, .int .i64 z2, .int .i64 le, .int .i64 mo] 4 key 0 w) (hRow : RowIs #[.slice ab nb cb, .slice al nl cl, .int .i64 1, .int .i64 0, .int .i64 r, .int .i64 z2, .int .i64 le, .int .i64 mo] 1 xs w) (hr : r ≤ xs.length) (hxl : xs.length ≤ 1048576) (hl0 : 0 ≤ le) (hl1 : le ≤ 1000000) (hm0 : 0 ≤ mo) (hm1 : mo ≤ 1000000) :
    Calls Try.prog 18 #[.agg #[.slice ab nb cb, .slice al nl cl, .int .i64 1, .int .i64 0, .int .i64 r, .int .i64 z2, .int .i64 le, .int .i64 mo], .agg #[.int .i64 4, .int .u64 key]] w fun e w' => e = .returned (.tuple #[.agg #[.slice ab nb cb, .slice al nl cl, .int .i64 1, .int .i64 0, .int .i64 (place xs r (geB key) : Nat), .int .i64 z2, .int .i64 (le + 1), .int .i64 (mo + 2 + 2 * (lg (1 + (place xs r (geB key) : Nat) - (r : Int)) : Nat))], .int .i64 0]) ∧ Below w.heap.size w w' := by
  have HRow := Lib.hid hRow
  clear hRow
  obtain ⟨pl, hpl⟩ : ∃ pl, place xs r (geB key) = pl := ⟨_, rfl⟩
  have hple : pl ≤ xs.length := by rw [← hpl]; exact place_le hr
  have hplg : r ≤ pl := by rw [← hpl]; exact place_ge
  have HPL := Lib.hid hpl
  rw [hpl]
  clear hpl
  obtain ⟨lv, hlv⟩ : ∃ lv, lg (1 + (pl : Int) - r) = lv := ⟨_, rfl⟩
  have hlvb : lv ≤ 62 := by rw [← hlv]; exact lg_le _ (by omega)
  have hlog := fun W => reflog_any (1 + (pl : Int) - r) (by omega) (by omega) W
  rw [hlv] at hlog ⊢
  have HLOG := Lib.hid hlog
  clear hlog hlv
  have HW := Lib.hid hW
  clear hW
  go_enter Try.func18, Try.ntmps18
  go_wp2_with fail
  obtain ⟨bX, bM, bR, bb⟩ := three_boxes w #[.slice ab nb cb, .slice al nl cl, .int .i64 1, .int .i64 0, .int .i64 r, .int .i64 z2, .int .i64 le, .int .i64 mo] #[.int .i64 4, .int .u64 key] #[.slice none 0 0, .slice none 0 0, .int .i64 0, .int .i64 0, .int .i64 0, .int .i64 0, .int .i64 0, .int .i64 0] 36 42 36
  refine (HW.out _ bb).mono ?_
  rintro e w2 ⟨rfl, hb2⟩
  have hX := (hb2.block _ (lt_of_block bX)).trans bX
  have hM := (hb2.block _ (lt_of_block bM)).trans bM
  have hR := (hb2.block _ (lt_of_block bR)).trans bR
  have hb := later_trans bb hb2
  obtain ⟨x0, x1, x2, x3, x4, x5, x6, x7⟩ := box8 hX
  have fX : ∀ i, w2.frozen? ⟨w.heap.size, i, none⟩ = false := fun i => box_frozen hX
  have fR : ∀ i, w2.frozen? ⟨w.heap.size + 2, i, none⟩ = false := fun i => box_frozen hR
  obtain ⟨r0, r1, r2, r3, r4, r5, r6, r7⟩ := box8 hR
  have m0 := box_cell (i := 0) hM
  have m1 := box_cell (i := 1) hM
  simp only [List.getElem?_toArray, List.getElem?_cons_zero, List.getElem?_cons_succ] at m0 m1
  have HX := Lib.hid hX
  have HM := Lib.hid hM
  have HR := Lib.hid hR
  have HB := Lib.hid hb
  clear bX bM bR bb hb2 hX hM hR hb
  have hne : w.heap.size + 2 ≠ w.heap.size := by omega
  have hne1 : w.heap.size + 1 ≠ w.heap.size := by omega
  go_wp2_with fail
  go_region_held3 (fun W => W.cell? ⟨w.heap.size, 0, none⟩ = some (.slice ab nb cb) ∧ W.cell? ⟨w.heap.size, 1, none⟩ = some (.slice al nl cl) ∧ W.cell? ⟨w.heap.size, 2, none⟩ = some (.int .i64 1) ∧ W.cell? ⟨w.heap.size, 3, none⟩ = some (.int .i64 0) ∧ W.cell? ⟨w.heap.size, 4, none⟩ = some (.int .i64 r) ∧ W.cell? ⟨w.heap.size, 5, none⟩ = some (.int .i64 z2) ∧ W.cell? ⟨w.heap.size, 6, none⟩ = some (.int .i64 le) ∧ W.cell? ⟨w.heap.size, 7, none⟩ = some (.int .i64 mo) ∧ W.cell? ⟨w.heap.size + 1, 1, none⟩ = some (.int .u64 key))
    (first | exact ⟨x0, x1, x2, x3, x4, x5, x6, x7, m1⟩ | exact ⟨(box8 hXE).1, (box8 hXE).2.1, (box8 hXE).2.2.1, (box8 hXE).2.2.2.1, (box8 hXE).2.2.2.2.1, (box8 hXE).2.2.2.2.2.1, (box8 hXE).2.2.2.2.2.2.1, (box8 hXE).2.2.2.2.2.2.2, hmE⟩ | assumption)
    (first
      | (go_at_call 67; refine (HRow.out _ (later_trans HB.out (later_drew _))).mono ?_; rintro e wE ⟨ar, cr, rfl, sr, hE⟩; have hbE := later_trans (later_trans HB.out (later_drew _)) hE; have hXE := (hE.block w.heap.size (lt_of_block HX.out)).trans HX.out; have hME := (hE.block _ (lt_of_block HM.out)).trans HM.out; have hRE := (hE.block _ (lt_of_block HR.out)).trans HR.out; have hmE := box_cell (i := 1) hME; simp only [List.getElem?_toArray, List.getElem?_cons_zero, List.getElem?_cons_succ] at hmE)
      | (go_at_call 66; refine (refseek_any _ xs r key _ sr hr).mono ?_; rintro e wF ⟨rfl, rfl⟩; rw [HPL.out]))
  rename_i hHeld
  clear hHeld x0 x1 x2 x3 x4 x5 x6 x7 fX fR r0 r1 r2 r3 r4 r5 r6 r7 m0 m1
  clear HX HM HR HB
  have hX := hXE
  have hM := hME
  have hR := hRE
  have hb := hbE
  clear hXE hME hRE hbE hmE
  obtain ⟨x0, x1, x2, x3, x4, x5, x6, x7⟩ := box8 hX
  have fX : ∀ i, wE.frozen? ⟨w.heap.size, i, none⟩ = false := fun i => box_frozen hX
  have fR : ∀ i, wE.frozen? ⟨w.heap.size + 2, i, none⟩ = false := fun i => box_frozen hR
  obtain ⟨r0, r1, r2, r3, r4, r5, r6, r7⟩ := box8 hR
  have m0 := box_cell (i := 0) hM
  have m1 := box_cell (i := 1) hM
  simp only [List.getElem?_toArray, List.getElem?_cons_zero, List.getElem?_cons_succ] at m0 m1
  have HX := Lib.hid hX
  have HM := Lib.hid hM
  have HR := Lib.hid hR
  have HB := Lib.hid hb
  clear hX hM hR hb
  go_wp2_with fail
  have hX0 := (box_set (i := 4) HX.out (.int .i64 pl))
  have hR : (wE.setCell ⟨w.heap.size, 4, none⟩ (.int .i64 pl)).heap[w.heap.size + 2]? = _ := (box_other HR.out hne (.int .i64 pl))
  have hM : (wE.setCell ⟨w.heap.size, 4, none⟩ (.int .i64 pl)).heap[w.heap.size + 1]? = _ := (box_other HM.out hne1 (.int .i64 pl))
  have hb : Below w.heap.size w (wE.setCell ⟨w.heap.size, 4, none⟩ (.int .i64 pl)) := (HB.out.setCell (p := ⟨w.heap.size, 4, none⟩) (Nat.le_refl _) (.int .i64 pl))
  simp only [List.setIfInBounds_toArray, List.set_cons_zero, List.set_cons_succ] at hX0
  have hX : (wE.setCell ⟨w.heap.size, 4, none⟩ (.int .i64 pl)).heap[w.heap.size]? = _ := hX0
  clear hX0 HX HM HR HB x0 x1 x2 x3 x4 x5 x6 x7 fX fR r0 r1 r2 r3 r4 r5 r6 r7 m0 m1
  generalize (wE.setCell ⟨w.heap.size, 4, none⟩ (.int .i64 pl)) = w4 at hX hR hM hb ⊢
  obtain ⟨x0, x1, x2, x3, x4, x5, x6, x7⟩ := box8 hX
  have fX : ∀ i, w4.frozen? ⟨w.heap.size, i, none⟩ = false := fun i => box_frozen hX
  have fR : ∀ i, w4.frozen? ⟨w.heap.size + 2, i, none⟩ = false := fun i => box_frozen hR
  obtain ⟨r0, r1, r2, r3, r4, r5, r6, r7⟩ := box8 hR
  have m0 := box_cell (i := 0) hM
  have m1 := box_cell (i := 1) hM
  simp only [List.getElem?_toArray, List.getElem?_cons_zero, List.getElem?_cons_succ] at m0 m1
  have HX := Lib.hid hX
  have HM := Lib.hid hM
  have HR := Lib.hid hR
  have HB := Lib.hid hb
  clear hX hM hR hb
  have hw1 : IntKind.i64.wrap (1 + (pl : Int)) = 1 + (pl : Int) := wrap_i64 (by omega) (by omega)
  have hw2 : IntKind.i64.wrap (1 + (pl : Int) - r) = 1 + (pl : Int) - r := wrap_i64 (by omega) (by omega)
  have hw3 : IntKind.i64.wrap (le + 1) = le + 1 := wrap_i64 (by omega) (by omega)
  have hw4 : IntKind.i64.wrap (mo + 2) = mo + 2 := wrap_i64 (by omega) (by omega)
  have hw5 : IntKind.i64.wrap (2 * (lv : Int)) = 2 * (lv : Int) := wrap_i64 (by omega) (by omega)
  have hw6 : IntKind.i64.wrap (mo + 2 + 2 * (lv : Int)) = mo + 2 + 2 * (lv : Int) := wrap_i64 (by omega) (by omega)
  go_region_with (go_at_call 68; refine (HLOG.out _).mono ?_; rintro e wG ⟨rfl, rfl⟩)
  all_goals (
    have hX0 := (box_set (i := 7) (box_set (i := 6) HX.out (.int .i64 (le + 1))) (.int .i64 (mo + 2 + 2 * (lv : Int))))
    have hR : ((w4.setCell ⟨w.heap.size, 6, none⟩ (.int .i64 (le + 1))).setCell ⟨w.heap.size, 7, none⟩ (.int .i64 (mo + 2 + 2 * (lv : Int)))).drew.heap[w.heap.size + 2]? = _ := (box_other (box_other HR.out hne (.int .i64 (le + 1))) hne (.int .i64 (mo + 2 + 2 * (lv : Int))))
    have hM : ((w4.setCell ⟨w.heap.size, 6, none⟩ (.int .i64 (le + 1))).setCell ⟨w.heap.size, 7, none⟩ (.int .i64 (mo + 2 + 2 * (lv : Int)))).drew.heap[w.heap.size + 1]? = _ := (box_other (box_other HM.out hne1 (.int .i64 (le + 1))) hne1 (.int .i64 (mo + 2 + 2 * (lv : Int))))
    have hb : Below w.heap.size w ((w4.setCell ⟨w.heap.size, 6, none⟩ (.int .i64 (le + 1))).setCell ⟨w.heap.size, 7, none⟩ (.int .i64 (mo + 2 + 2 * (lv : Int)))).drew := ((HB.out.setCell (p := ⟨w.heap.size, 6, none⟩) (Nat.le_refl _) (.int .i64 (le + 1))).setCell (p := ⟨w.heap.size, 7, none⟩) (Nat.le_refl _) (.int .i64 (mo + 2 + 2 * (lv : Int)))).drew
    simp only [List.setIfInBounds_toArray, List.set_cons_zero, List.set_cons_succ] at hX0
    have hX : ((w4.setCell ⟨w.heap.size, 6, none⟩ (.int .i64 (le + 1))).setCell ⟨w.heap.size, 7, none⟩ (.int .i64 (mo + 2 + 2 * (lv : Int)))).drew.heap[w.heap.size]? = _ := hX0
    clear hX0 HX HM HR HB x0 x1 x2 x3 x4 x5 x6 x7 fX fR r0 r1 r2 r3 r4 r5 r6 r7 m0 m1
    generalize ((w4.setCell ⟨w.heap.size, 6, none⟩ (.int .i64 (le + 1))).setCell ⟨w.heap.size, 7, none⟩ (.int .i64 (mo + 2 + 2 * (lv : Int)))).drew = w5 at hX hR hM hb ⊢
    obtain ⟨x0, x1, x2, x3, x4, x5, x6, x7⟩ := box8 hX
    have fX : ∀ i, w5.frozen? ⟨w.heap.size, i, none⟩ = false := fun i => box_frozen hX
    have fR : ∀ i, w5.frozen? ⟨w.heap.size + 2, i, none⟩ = false := fun i => box_frozen hR
    obtain ⟨r0, r1, r2, r3, r4, r5, r6, r7⟩ := box8 hR
    have m0 := box_cell (i := 0) hM
    have m1 := box_cell (i := 1) hM
    simp only [List.getElem?_toArray, List.getElem?_cons_zero, List.getElem?_cons_succ] at m0 m1
    have HX := Lib.hid hX
    have HM := Lib.hid hM
    have HR := Lib.hid hR
    have HB := Lib.hid hb
    clear hX hM hR hb
    go_wp2_with fail
    exact end_cell_tmp (g := w.heap.size + 2) (u := .int .i64 0) Try.results18 rfl rfl (box_set8 HR.out _ _ _ _ _ _ _ _) Try.underlying36 rfl place_size rfl ⟨rfl, below_set8 HB.out (by omega) _ _ _ _ _ _ _ _⟩)

set_option maxRecDepth 100000 in
set_option maxHeartbeats 2000000 in
theorem move08_seek2 {xs : List Int} {r : Nat} (hW : WhyIs #[.slice ab nb cb, .slice al nl cl, .int .i64 2, .int .i64 0, .int .i64 z1, .int .i64 r, .int .i64 le, .int .i64 mo] 4 key 0 w) (hRow : RowIs #[.slice ab nb cb, .slice al nl cl, .int .i64 2, .int .i64 0, .int .i64 z1, .int .i64 r, .int .i64 le, .int .i64 mo] 2 xs w) (hr : r ≤ xs.length) (hxl : xs.length ≤ 1048576) (hl0 : 0 ≤ le) (hl1 : le ≤ 1000000) (hm0 : 0 ≤ mo) (hm1 : mo ≤ 1000000) :
    Calls Try.prog 18 #[.agg #[.slice ab nb cb, .slice al nl cl, .int .i64 2, .int .i64 0, .int .i64 z1, .int .i64 r, .int .i64 le, .int .i64 mo], .agg #[.int .i64 4, .int .u64 key]] w fun e w' => e = .returned (.tuple #[.agg #[.slice ab nb cb, .slice al nl cl, .int .i64 2, .int .i64 0, .int .i64 z1, .int .i64 (place xs r (geB key) : Nat), .int .i64 (le + 1), .int .i64 (mo + 2 + 2 * (lg (1 + (place xs r (geB key) : Nat) - (r : Int)) : Nat))], .int .i64 0]) ∧ Below w.heap.size w w' := by
  have HRow := Lib.hid hRow
  clear hRow
  obtain ⟨pl, hpl⟩ : ∃ pl, place xs r (geB key) = pl := ⟨_, rfl⟩
  have hple : pl ≤ xs.length := by rw [← hpl]; exact place_le hr
  have hplg : r ≤ pl := by rw [← hpl]; exact place_ge
  have HPL := Lib.hid hpl
  rw [hpl]
  clear hpl
  obtain ⟨lv, hlv⟩ : ∃ lv, lg (1 + (pl : Int) - r) = lv := ⟨_, rfl⟩
  have hlvb : lv ≤ 62 := by rw [← hlv]; exact lg_le _ (by omega)
  have hlog := fun W => reflog_any (1 + (pl : Int) - r) (by omega) (by omega) W
  rw [hlv] at hlog ⊢
  have HLOG := Lib.hid hlog
  clear hlog hlv
  have HW := Lib.hid hW
  clear hW
  go_enter Try.func18, Try.ntmps18
  go_wp2_with fail
  obtain ⟨bX, bM, bR, bb⟩ := three_boxes w #[.slice ab nb cb, .slice al nl cl, .int .i64 2, .int .i64 0, .int .i64 z1, .int .i64 r, .int .i64 le, .int .i64 mo] #[.int .i64 4, .int .u64 key] #[.slice none 0 0, .slice none 0 0, .int .i64 0, .int .i64 0, .int .i64 0, .int .i64 0, .int .i64 0, .int .i64 0] 36 42 36
  refine (HW.out _ bb).mono ?_
  rintro e w2 ⟨rfl, hb2⟩
  have hX := (hb2.block _ (lt_of_block bX)).trans bX
  have hM := (hb2.block _ (lt_of_block bM)).trans bM
  have hR := (hb2.block _ (lt_of_block bR)).trans bR
  have hb := later_trans bb hb2
  obtain ⟨x0, x1, x2, x3, x4, x5, x6, x7⟩ := box8 hX
  have fX : ∀ i, w2.frozen? ⟨w.heap.size, i, none⟩ = false := fun i => box_frozen hX
  have fR : ∀ i, w2.frozen? ⟨w.heap.size + 2, i, none⟩ = false := fun i => box_frozen hR
  obtain ⟨r0, r1, r2, r3, r4, r5, r6, r7⟩ := box8 hR
  have m0 := box_cell (i := 0) hM
  have m1 := box_cell (i := 1) hM
  simp only [List.getElem?_toArray, List.getElem?_cons_zero, List.getElem?_cons_succ] at m0 m1
  have HX := Lib.hid hX
  have HM := Lib.hid hM
  have HR := Lib.hid hR
  have HB := Lib.hid hb
  clear bX bM bR bb hb2 hX hM hR hb
  have hne : w.heap.size + 2 ≠ w.heap.size := by omega
  have hne1 : w.heap.size + 1 ≠ w.heap.size := by omega
  go_wp2_with fail
  go_region_held3 (fun W => W.cell? ⟨w.heap.size, 0, none⟩ = some (.slice ab nb cb) ∧ W.cell? ⟨w.heap.size, 1, none⟩ = some (.slice al nl cl) ∧ W.cell? ⟨w.heap.size, 2, none⟩ = some (.int .i64 2) ∧ W.cell? ⟨w.heap.size, 3, none⟩ = some (.int .i64 0) ∧ W.cell? ⟨w.heap.size, 4, none⟩ = some (.int .i64 z1) ∧ W.cell? ⟨w.heap.size, 5, none⟩ = some (.int .i64 r) ∧ W.cell? ⟨w.heap.size, 6, none⟩ = some (.int .i64 le) ∧ W.cell? ⟨w.heap.size, 7, none⟩ = some (.int .i64 mo) ∧ W.cell? ⟨w.heap.size + 1, 1, none⟩ = some (.int .u64 key))
    (first | exact ⟨x0, x1, x2, x3, x4, x5, x6, x7, m1⟩ | exact ⟨(box8 hXE).1, (box8 hXE).2.1, (box8 hXE).2.2.1, (box8 hXE).2.2.2.1, (box8 hXE).2.2.2.2.1, (box8 hXE).2.2.2.2.2.1, (box8 hXE).2.2.2.2.2.2.1, (box8 hXE).2.2.2.2.2.2.2, hmE⟩ | assumption)
    (first
      | (go_at_call 67; refine (HRow.out _ (later_trans HB.out (later_drew _))).mono ?_; rintro e wE ⟨ar, cr, rfl, sr, hE⟩; have hbE := later_trans (later_trans HB.out (later_drew _)) hE; have hXE := (hE.block w.heap.size (lt_of_block HX.out)).trans HX.out; have hME := (hE.block _ (lt_of_block HM.out)).trans HM.out; have hRE := (hE.block _ (lt_of_block HR.out)).trans HR.out; have hmE := box_cell (i := 1) hME; simp only [List.getElem?_toArray, List.getElem?_cons_zero, List.getElem?_cons_succ] at hmE)
      | (go_at_call 66; refine (refseek_any _ xs r key _ sr hr).mono ?_; rintro e wF ⟨rfl, rfl⟩; rw [HPL.out]))
  rename_i hHeld
  clear hHeld x0 x1 x2 x3 x4 x5 x6 x7 fX fR r0 r1 r2 r3 r4 r5 r6 r7 m0 m1
  clear HX HM HR HB
  have hX := hXE
  have hM := hME
  have hR := hRE
  have hb := hbE
  clear hXE hME hRE hbE hmE
  obtain ⟨x0, x1, x2, x3, x4, x5, x6, x7⟩ := box8 hX
  have fX : ∀ i, wE.frozen? ⟨w.heap.size, i, none⟩ = false := fun i => box_frozen hX
  have fR : ∀ i, wE.frozen? ⟨w.heap.size + 2, i, none⟩ = false := fun i => box_frozen hR
  obtain ⟨r0, r1, r2, r3, r4, r5, r6, r7⟩ := box8 hR
  have m0 := box_cell (i := 0) hM
  have m1 := box_cell (i := 1) hM
  simp only [List.getElem?_toArray, List.getElem?_cons_zero, List.getElem?_cons_succ] at m0 m1
  have HX := Lib.hid hX
  have HM := Lib.hid hM
  have HR := Lib.hid hR
  have HB := Lib.hid hb
  clear hX hM hR hb
  go_wp2_with fail
  have hX0 := (box_set (i := 5) HX.out (.int .i64 pl))
  have hR : (wE.setCell ⟨w.heap.size, 5, none⟩ (.int .i64 pl)).heap[w.heap.size + 2]? = _ := (box_other HR.out hne (.int .i64 pl))
  have hM : (wE.setCell ⟨w.heap.size, 5, none⟩ (.int .i64 pl)).heap[w.heap.size + 1]? = _ := (box_other HM.out hne1 (.int .i64 pl))
  have hb : Below w.heap.size w (wE.setCell ⟨w.heap.size, 5, none⟩ (.int .i64 pl)) := (HB.out.setCell (p := ⟨w.heap.size, 5, none⟩) (Nat.le_refl _) (.int .i64 pl))
  simp only [List.setIfInBounds_toArray, List.set_cons_zero, List.set_cons_succ] at hX0
  have hX : (wE.setCell ⟨w.heap.size, 5, none⟩ (.int .i64 pl)).heap[w.heap.size]? = _ := hX0
  clear hX0 HX HM HR HB x0 x1 x2 x3 x4 x5 x6 x7 fX fR r0 r1 r2 r3 r4 r5 r6 r7 m0 m1
  generalize (wE.setCell ⟨w.heap.size, 5, none⟩ (.int .i64 pl)) = w4 at hX hR hM hb ⊢
  obtain ⟨x0, x1, x2, x3, x4, x5, x6, x7⟩ := box8 hX
  have fX : ∀ i, w4.frozen? ⟨w.heap.size, i, none⟩ = false := fun i => box_frozen hX
  have fR : ∀ i, w4.frozen? ⟨w.heap.size + 2, i, none⟩ = false := fun i => box_frozen hR
  obtain ⟨r0, r1, r2, r3, r4, r5, r6, r7⟩ := box8 hR
  have m0 := box_cell (i := 0) hM
  have m1 := box_cell (i := 1) hM
  simp only [List.getElem?_toArray, List.getElem?_cons_zero, List.getElem?_cons_succ] at m0 m1
  have HX := Lib.hid hX
  have HM := Lib.hid hM
  have HR := Lib.hid hR
  have HB := Lib.hid hb
  clear hX hM hR hb
  have hw1 : IntKind.i64.wrap (1 + (pl : Int)) = 1 + (pl : Int) := wrap_i64 (by omega) (by omega)
  have hw2 : IntKind.i64.wrap (1 + (pl : Int) - r) = 1 + (pl : Int) - r := wrap_i64 (by omega) (by omega)
  have hw3 : IntKind.i64.wrap (le + 1) = le + 1 := wrap_i64 (by omega) (by omega)
  have hw4 : IntKind.i64.wrap (mo + 2) = mo + 2 := wrap_i64 (by omega) (by omega)
  have hw5 : IntKind.i64.wrap (2 * (lv : Int)) = 2 * (lv : Int) := wrap_i64 (by omega) (by omega)
  have hw6 : IntKind.i64.wrap (mo + 2 + 2 * (lv : Int)) = mo + 2 + 2 * (lv : Int) := wrap_i64 (by omega) (by omega)
  go_region_with (go_at_call 68; refine (HLOG.out _).mono ?_; rintro e wG ⟨rfl, rfl⟩)
  all_goals (
    have hX0 := (box_set (i := 7) (box_set (i := 6) HX.out (.int .i64 (le + 1))) (.int .i64 (mo + 2 + 2 * (lv : Int))))
    have hR : ((w4.setCell ⟨w.heap.size, 6, none⟩ (.int .i64 (le + 1))).setCell ⟨w.heap.size, 7, none⟩ (.int .i64 (mo + 2 + 2 * (lv : Int)))).drew.heap[w.heap.size + 2]? = _ := (box_other (box_other HR.out hne (.int .i64 (le + 1))) hne (.int .i64 (mo + 2 + 2 * (lv : Int))))
    have hM : ((w4.setCell ⟨w.heap.size, 6, none⟩ (.int .i64 (le + 1))).setCell ⟨w.heap.size, 7, none⟩ (.int .i64 (mo + 2 + 2 * (lv : Int)))).drew.heap[w.heap.size + 1]? = _ := (box_other (box_other HM.out hne1 (.int .i64 (le + 1))) hne1 (.int .i64 (mo + 2 + 2 * (lv : Int))))
    have hb : Below w.heap.size w ((w4.setCell ⟨w.heap.size, 6, none⟩ (.int .i64 (le + 1))).setCell ⟨w.heap.size, 7, none⟩ (.int .i64 (mo + 2 + 2 * (lv : Int)))).drew := ((HB.out.setCell (p := ⟨w.heap.size, 6, none⟩) (Nat.le_refl _) (.int .i64 (le + 1))).setCell (p := ⟨w.heap.size, 7, none⟩) (Nat.le_refl _) (.int .i64 (mo + 2 + 2 * (lv : Int)))).drew
    simp only [List.setIfInBounds_toArray, List.set_cons_zero, List.set_cons_succ] at hX0
    have hX : ((w4.setCell ⟨w.heap.size, 6, none⟩ (.int .i64 (le + 1))).setCell ⟨w.heap.size, 7, none⟩ (.int .i64 (mo + 2 + 2 * (lv : Int)))).drew.heap[w.heap.size]? = _ := hX0
    clear hX0 HX HM HR HB x0 x1 x2 x3 x4 x5 x6 x7 fX fR r0 r1 r2 r3 r4 r5 r6 r7 m0 m1
    generalize ((w4.setCell ⟨w.heap.size, 6, none⟩ (.int .i64 (le + 1))).setCell ⟨w.heap.size, 7, none⟩ (.int .i64 (mo + 2 + 2 * (lv : Int)))).drew = w5 at hX hR hM hb ⊢
    obtain ⟨x0, x1, x2, x3, x4, x5, x6, x7⟩ := box8 hX
    have fX : ∀ i, w5.frozen? ⟨w.heap.size, i, none⟩ = false := fun i => box_frozen hX
    have fR : ∀ i, w5.frozen? ⟨w.heap.size + 2, i, none⟩ = false := fun i => box_frozen hR
    obtain ⟨r0, r1, r2, r3, r4, r5, r6, r7⟩ := box8 hR
    have m0 := box_cell (i := 0) hM
    have m1 := box_cell (i := 1) hM
    simp only [List.getElem?_toArray, List.getElem?_cons_zero, List.getElem?_cons_succ] at m0 m1
    have HX := Lib.hid hX
    have HM := Lib.hid hM
    have HR := Lib.hid hR
    have HB := Lib.hid hb
    clear hX hM hR hb
    go_wp2_with fail
    exact end_cell_tmp (g := w.heap.size + 2) (u := .int .i64 0) Try.results18 rfl rfl (box_set8 HR.out _ _ _ _ _ _ _ _) Try.underlying36 rfl place_size rfl ⟨rfl, below_set8 HB.out (by omega) _ _ _ _ _ _ _ _⟩)
end
end Go.Proofs.Ytdfnfdgkhflonaa
