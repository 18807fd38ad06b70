/-
  The document's answer for the cursor (colanderref08), walked: Move. (Printed by mkcur5.py.)
-/
import Derived.Test.YtdfnfdgkhflonaaCuR4
import Derived.Laws.ResultCell
namespace Go.Proofs.Ytdfnfdgkhflonaa
open Go.RowKit
set_option linter.unusedVariables false

theorem end_cell_tmp {P : Program} {fn : Func} {R : Ending → World → Prop} {act : Act} {W : World} {g : Nat} {u : Value} {t : TypeId} {cs : Array Value} {fr : Nat × Nat} {d : TypeDesc} {p q : Tmp} {ty : TypeId} (h : fn.results = #[.cell p ty, .tmp q])
    (hp : act.tmps.getD p undef = .pointer (some ⟨g, 0, none⟩)) (hq : act.tmps.getD q undef = u) (hg : W.heap[g]? = some (.cells cs t fr)) (hu : P.underlying ty = some d) (hd : (match d with | .struct _ | .array _ _ => true | _ => false) = true) (hi : (P.info? ty).map (·.size) = some cs.size)
    (hdf : act.defers = []) (hR : R (.returned (.tuple #[.agg cs, u])) W) : bodyPost P fn R .ret act W := by
  refine bodyPost_ret (v := .tuple #[.agg cs, u]) ?_ hdf hR
  rw [results_cell_tmp h, hp, hq]
  simp [asAddr, Result.andThen, run_loadVar_row W g t ty cs fr d hg hu hd hi]
/-- Eight stores into a box. -/
theorem box_set8 {W : World} {X : Nat} {T : TypeId} {c0 c1 c2 c3 c4 c5 c6 c7 : Value} (hn : W.heap[X]? = some (.cells #[c0, c1, c2, c3, c4, c5, c6, c7] T (0, 0))) (a b c d e f g h : Value) :
    ((((((((W.setCell ⟨X, 0, none⟩ a).setCell ⟨X, 1, none⟩ b).setCell ⟨X, 2, none⟩ c).setCell ⟨X, 3, none⟩ d).setCell ⟨X, 4, none⟩ e).setCell ⟨X, 5, none⟩ f).setCell ⟨X, 6, none⟩ g).setCell ⟨X, 7, none⟩ h).heap[X]? = some (.cells #[a, b, c, d, e, f, g, h] T (0, 0)) := by
  have k0 := box_set (i := 0) hn a
  simp only [List.setIfInBounds_toArray, List.set_cons_zero] at k0
  have k1 := box_set (i := 1) k0 b
  simp only [List.setIfInBounds_toArray, List.set_cons_zero, List.set_cons_succ] at k1
  have k2 := box_set (i := 2) k1 c
  simp only [List.setIfInBounds_toArray, List.set_cons_zero, List.set_cons_succ] at k2
  have k3 := box_set (i := 3) k2 d
  simp only [List.setIfInBounds_toArray, List.set_cons_zero, List.set_cons_succ] at k3
  have k4 := box_set (i := 4) k3 e
  simp only [List.setIfInBounds_toArray, List.set_cons_zero, List.set_cons_succ] at k4
  have k5 := box_set (i := 5) k4 f
  simp only [List.setIfInBounds_toArray, List.set_cons_zero, List.set_cons_succ] at k5
  have k6 := box_set (i := 6) k5 g
  simp only [List.setIfInBounds_toArray, List.set_cons_zero, List.set_cons_succ] at k6
  have k7 := box_set (i := 7) k6 h
  simp only [List.setIfInBounds_toArray, List.set_cons_zero, List.set_cons_succ] at k7
  exact k7
theorem below_set8 {B X : Nat} {w W : World} (hb : Below B w W) (hX : B ≤ X) (a b c d e f g h : Value) :
    Below B w ((((((((W.setCell ⟨X, 0, none⟩ a).setCell ⟨X, 1, none⟩ b).setCell ⟨X, 2, none⟩ c).setCell ⟨X, 3, none⟩ d).setCell ⟨X, 4, none⟩ e).setCell ⟨X, 5, none⟩ f).setCell ⟨X, 6, none⟩ g).setCell ⟨X, 7, none⟩ h) :=
  (((((((hb.setCell (p := ⟨X, 0, none⟩) hX _).setCell (p := ⟨X, 1, none⟩) hX _).setCell (p := ⟨X, 2, none⟩) hX _).setCell (p := ⟨X, 3, none⟩) hX _).setCell (p := ⟨X, 4, none⟩) hX _).setCell (p := ⟨X, 5, none⟩) hX _).setCell (p := ⟨X, 6, none⟩) hX _).setCell (p := ⟨X, 7, none⟩) hX _
theorem place_desc : ∃ d, Try.prog.underlying 36 = some d ∧ (match d with | .struct _ | .array _ _ => true | _ => false) = true := ⟨_, Try.underlying36, rfl⟩
theorem place_size : (Try.prog.info? 36).map (·.size) = some 8 := by kernel_rfl

/-- What Why hands back. -/
def WhyIs (p : Array Value) (kind key q : Int) (w : World) : Prop := ∀ W, Below w.heap.size w W → Calls Try.prog 65 #[.agg p, .agg #[.int .i64 kind, .int .u64 key]] W fun e w' => e = .returned (.int .i64 q) ∧ Below W.heap.size W w'
/-- Three boxes: the place, the move, the result. -/
theorem three_boxes (w : World) (p m r : Array Value) (T1 T2 T3 : TypeId) :
    (((w.alloc (.cells p T1)).alloc (.cells m T2)).alloc (.cells r T3)).heap[w.heap.size]? = some (.cells p T1 (0, 0)) ∧ (((w.alloc (.cells p T1)).alloc (.cells m T2)).alloc (.cells r T3)).heap[w.heap.size + 1]? = some (.cells m T2 (0, 0)) ∧
      (((w.alloc (.cells p T1)).alloc (.cells m T2)).alloc (.cells r T3)).heap[w.heap.size + 2]? = some (.cells r T3 (0, 0)) ∧ Below w.heap.size w (((w.alloc (.cells p T1)).alloc (.cells m T2)).alloc (.cells r T3)) := by
  refine ⟨box_alloc (box_alloc (box_new w p T1) _) _, ?_, ?_, later_trans (later_alloc w _) (later_trans (later_alloc _ _) (later_alloc _ _))⟩
  · have := box_alloc (box_new (w.alloc (.cells p T1)) m T2) (.cells r T3)
    simpa using this
  · have := box_new ((w.alloc (.cells p T1)).alloc (.cells m T2)) r T3
    simpa using this

section
variable {ab al : Option Addr} {nb cb nl cl : Nat} {w : World} {z1 z2 le mo kind key q : Int}

set_option maxRecDepth 100000 in
set_option maxHeartbeats 4000000 in
theorem move08_err {d : Nat} (hW : WhyIs #[.slice ab nb cb, .slice al nl cl, .int .i64 d, .int .i64 0, .int .i64 z1, .int .i64 z2, .int .i64 le, .int .i64 mo] kind key q w) (hq : q ≠ 0) :
    Calls Try.prog 18 #[.agg #[.slice ab nb cb, .slice al nl cl, .int .i64 d, .int .i64 0, .int .i64 z1, .int .i64 z2, .int .i64 le, .int .i64 mo], .agg #[.int .i64 kind, .int .u64 key]] w fun e w' => e = .returned (.tuple #[.agg #[.slice ab nb cb, .slice al nl cl, .int .i64 d, .int .i64 0, .int .i64 z1, .int .i64 z2, .int .i64 le, .int .i64 mo], .int .i64 q]) ∧ Below w.heap.size w w' := by
  have hq0 : (q != 0) = true := by rw [bne_iff_ne]; exact hq
  have HW := Lib.hid hW
  clear hW
  go_enter Try.func18, Try.ntmps18
  go_wp2_with fail
  obtain ⟨bX, bM, bR, bb⟩ := three_boxes w #[.slice ab nb cb, .slice al nl cl, .int .i64 d, .int .i64 0, .int .i64 z1, .int .i64 z2, .int .i64 le, .int .i64 mo] #[.int .i64 kind, .int .u64 key] #[.slice none 0 0, .slice none 0 0, .int .i64 0, .int .i64 0, .int .i64 0, .int .i64 0, .int .i64 0, .int .i64 0] 36 42 36
  refine (HW.out _ bb).mono ?_
  rintro e w2 ⟨rfl, hb2⟩
  have hX := (hb2.block _ (lt_of_block bX)).trans bX
  have hM := (hb2.block _ (lt_of_block bM)).trans bM
  have hR := (hb2.block _ (lt_of_block bR)).trans bR
  have hb := later_trans bb hb2
  obtain ⟨x0, x1, x2, x3, x4, x5, x6, x7⟩ := box8 hX
  have fX : ∀ i, w2.frozen? ⟨w.heap.size, i, none⟩ = false := fun i => box_frozen hX
  have fR : ∀ i, w2.frozen? ⟨w.heap.size + 2, i, none⟩ = false := fun i => box_frozen hR
  obtain ⟨r0, r1, r2, r3, r4, r5, r6, r7⟩ := box8 hR
  have m0 := box_cell (i := 0) hM
  have m1 := box_cell (i := 1) hM
  simp only [List.getElem?_toArray, List.getElem?_cons_zero, List.getElem?_cons_succ] at m0 m1
  have HX := Lib.hid hX
  have HM := Lib.hid hM
  have HR := Lib.hid hR
  have HB := Lib.hid hb
  clear bX bM bR bb hb2 hX hM hR hb
  clear hq
  go_wp2_with fail
  exact end_cell_tmp (g := w.heap.size + 2) (u := .int .i64 q) Try.results18 rfl rfl (box_set8 HR.out _ _ _ _ _ _ _ _) Try.underlying36 rfl place_size rfl ⟨rfl, below_set8 HB.out (by omega) _ _ _ _ _ _ _ _⟩

set_option maxRecDepth 100000 in
set_option maxHeartbeats 4000000 in
theorem move08_open0 (hW : WhyIs #[.slice ab nb cb, .slice al nl cl, .int .i64 0, .int .i64 0, .int .i64 z1, .int .i64 z2, .int .i64 le, .int .i64 mo] 1 key 0 w) (hl0 : 0 ≤ le) (hl1 : le ≤ 1000000) (hm0 : 0 ≤ mo) (hm1 : mo ≤ 1000000) :
    Calls Try.prog 18 #[.agg #[.slice ab nb cb, .slice al nl cl, .int .i64 0, .int .i64 0, .int .i64 z1, .int .i64 z2, .int .i64 le, .int .i64 mo], .agg #[.int .i64 1, .int .u64 key]] w fun e w' => e = .returned (.tuple #[.agg #[.slice ab nb cb, .slice al nl cl, .int .i64 1, .int .i64 0, .int .i64 0, .int .i64 z2, .int .i64 (le + 1), .int .i64 (mo + 1)], .int .i64 0]) ∧ Below w.heap.size w w' := by
  have HW := Lib.hid hW
  clear hW
  go_enter Try.func18, Try.ntmps18
  go_wp2_with fail
  obtain ⟨bX, bM, bR, bb⟩ := three_boxes w #[.slice ab nb cb, .slice al nl cl, .int .i64 0, .int .i64 0, .int .i64 z1, .int .i64 z2, .int .i64 le, .int .i64 mo] #[.int .i64 1, .int .u64 key] #[.slice none 0 0, .slice none 0 0, .int .i64 0, .int .i64 0, .int .i64 0, .int .i64 0, .int .i64 0, .int .i64 0] 36 42 36
  refine (HW.out _ bb).mono ?_
  rintro e w2 ⟨rfl, hb2⟩
  have hX := (hb2.block _ (lt_of_block bX)).trans bX
  have hM := (hb2.block _ (lt_of_block bM)).trans bM
  have hR := (hb2.block _ (lt_of_block bR)).trans bR
  have hb := later_trans bb hb2
  obtain ⟨x0, x1, x2, x3, x4, x5, x6, x7⟩ := box8 hX
  have fX : ∀ i, w2.frozen? ⟨w.heap.size, i, none⟩ = false := fun i => box_frozen hX
  have fR : ∀ i, w2.frozen? ⟨w.heap.size + 2, i, none⟩ = false := fun i => box_frozen hR
  obtain ⟨r0, r1, r2, r3, r4, r5, r6, r7⟩ := box8 hR
  have m0 := box_cell (i := 0) hM
  have m1 := box_cell (i := 1) hM
  simp only [List.getElem?_toArray, List.getElem?_cons_zero, List.getElem?_cons_succ] at m0 m1
  have HX := Lib.hid hX
  have HM := Lib.hid hM
  have HR := Lib.hid hR
  have HB := Lib.hid hb
  clear bX bM bR bb hb2 hX hM hR hb
  have hne : w.heap.size + 2 ≠ w.heap.size := by omega
  go_wp2_with fail
  exact end_cell_tmp (g := w.heap.size + 2) (u := .int .i64 0) Try.results18 rfl rfl (box_set8 (box_other (box_other (box_other (box_other HR.out hne _) hne _) hne _) hne _) _ _ _ _ _ _ _ _) Try.underlying36 rfl place_size rfl ⟨rfl, below_set8 ((((HB.out.setCell (p := ⟨w.heap.size, 2, none⟩) (Nat.le_refl _) _).setCell (p := ⟨w.heap.size, 4, none⟩) (Nat.le_refl _) _).setCell (p := ⟨w.heap.size, 6, none⟩) (Nat.le_refl _) _).setCell (p := ⟨w.heap.size, 7, none⟩) (Nat.le_refl _) _) (by omega) _ _ _ _ _ _ _ _⟩

set_option maxRecDepth 100000 in
set_option maxHeartbeats 4000000 in
theorem move08_open1 (hW : WhyIs #[.slice ab nb cb, .slice al nl cl, .int .i64 1, .int .i64 0, .int .i64 z1, .int .i64 z2, .int .i64 le, .int .i64 mo] 1 key 0 w) (hl0 : 0 ≤ le) (hl1 : le ≤ 1000000) (hm0 : 0 ≤ mo) (hm1 : mo ≤ 1000000) :
    Calls Try.prog 18 #[.agg #[.slice ab nb cb, .slice al nl cl, .int .i64 1, .int .i64 0, .int .i64 z1, .int .i64 z2, .int .i64 le, .int .i64 mo], .agg #[.int .i64 1, .int .u64 key]] w fun e w' => e = .returned (.tuple #[.agg #[.slice ab nb cb, .slice al nl cl, .int .i64 2, .int .i64 0, .int .i64 z1, .int .i64 0, .int .i64 (le + 1), .int .i64 (mo + 1)], .int .i64 0]) ∧ Below w.heap.size w w' := by
  have HW := Lib.hid hW
  clear hW
  go_enter Try.func18, Try.ntmps18
  go_wp2_with fail
  obtain ⟨bX, bM, bR, bb⟩ := three_boxes w #[.slice ab nb cb, .slice al nl cl, .int .i64 1, .int .i64 0, .int .i64 z1, .int .i64 z2, .int .i64 le, .int .i64 mo] #[.int .i64 1, .int .u64 key] #[.slice none 0 0, .slice none 0 0, .int .i64 0, .int .i64 0, .int .i64 0, .int .i64 0, .int .i64 0, .int .i64 0] 36 42 36
  refine (HW.out _ bb).mono ?_
  rintro e w2 ⟨rfl, hb2⟩
  have hX := (hb2.block _ (lt_of_block bX)).trans bX
  have hM := (hb2.block _ (lt_of_block bM)).trans bM
  have hR := (hb2.block _ (lt_of_block bR)).trans bR
  have hb := later_trans bb hb2
  obtain ⟨x0, x1, x2, x3, x4, x5, x6, x7⟩ := box8 hX
  have fX : ∀ i, w2.frozen? ⟨w.heap.size, i, none⟩ = false := fun i => box_frozen hX
  have fR : ∀ i, w2.frozen? ⟨w.heap.size + 2, i, none⟩ = false := fun i => box_frozen hR
  obtain ⟨r0, r1, r2, r3, r4, r5, r6, r7⟩ := box8 hR
  have m0 := box_cell (i := 0) hM
  have m1 := box_cell (i := 1) hM
  simp only [List.getElem?_toArray, List.getElem?_cons_zero, List.getElem?_cons_succ] at m0 m1
  have HX := Lib.hid hX
  have HM := Lib.hid hM
  have HR := Lib.hid hR
  have HB := Lib.hid hb
  clear bX bM bR bb hb2 hX hM hR hb
  have hne : w.heap.size + 2 ≠ w.heap.size := by omega
  go_wp2_with fail
  exact end_cell_tmp (g := w.heap.size + 2) (u := .int .i64 0) Try.results18 rfl rfl (box_set8 (box_other (box_other (box_other (box_other HR.out hne _) hne _) hne _) hne _) _ _ _ _ _ _ _ _) Try.underlying36 rfl place_size rfl ⟨rfl, below_set8 ((((HB.out.setCell (p := ⟨w.heap.size, 2, none⟩) (Nat.le_refl _) _).setCell (p := ⟨w.heap.size, 5, none⟩) (Nat.le_refl _) _).setCell (p := ⟨w.heap.size, 6, none⟩) (Nat.le_refl _) _).setCell (p := ⟨w.heap.size, 7, none⟩) (Nat.le_refl _) _) (by omega) _ _ _ _ _ _ _ _⟩

set_option maxRecDepth 100000 in
set_option maxHeartbeats 4000000 in
theorem move08_up1 (hW : WhyIs #[.slice ab nb cb, .slice al nl cl, .int .i64 1, .int .i64 0, .int .i64 z1, .int .i64 z2, .int .i64 le, .int .i64 mo] 2 key 0 w) (hl0 : 0 ≤ le) (hl1 : le ≤ 1000000) (hm0 : 0 ≤ mo) (hm1 : mo ≤ 1000000) :
    Calls Try.prog 18 #[.agg #[.slice ab nb cb, .slice al nl cl, .int .i64 1, .int .i64 0, .int .i64 z1, .int .i64 z2, .int .i64 le, .int .i64 mo], .agg #[.int .i64 2, .int .u64 key]] w fun e w' => e = .returned (.tuple #[.agg #[.slice ab nb cb, .slice al nl cl, .int .i64 0, .int .i64 0, .int .i64 z1, .int .i64 z2, .int .i64 le, .int .i64 mo], .int .i64 0]) ∧ Below w.heap.size w w' := by
  have HW := Lib.hid hW
  clear hW
  go_enter Try.func18, Try.ntmps18
  go_wp2_with fail
  obtain ⟨bX, bM, bR, bb⟩ := three_boxes w #[.slice ab nb cb, .slice al nl cl, .int .i64 1, .int .i64 0, .int .i64 z1, .int .i64 z2, .int .i64 le, .int .i64 mo] #[.int .i64 2, .int .u64 key] #[.slice none 0 0, .slice none 0 0, .int .i64 0, .int .i64 0, .int .i64 0, .int .i64 0, .int .i64 0, .int .i64 0] 36 42 36
  refine (HW.out _ bb).mono ?_
  rintro e w2 ⟨rfl, hb2⟩
  have hX := (hb2.block _ (lt_of_block bX)).trans bX
  have hM := (hb2.block _ (lt_of_block bM)).trans bM
  have hR := (hb2.block _ (lt_of_block bR)).trans bR
  have hb := later_trans bb hb2
  obtain ⟨x0, x1, x2, x3, x4, x5, x6, x7⟩ := box8 hX
  have fX : ∀ i, w2.frozen? ⟨w.heap.size, i, none⟩ = false := fun i => box_frozen hX
  have fR : ∀ i, w2.frozen? ⟨w.heap.size + 2, i, none⟩ = false := fun i => box_frozen hR
  obtain ⟨r0, r1, r2, r3, r4, r5, r6, r7⟩ := box8 hR
  have m0 := box_cell (i := 0) hM
  have m1 := box_cell (i := 1) hM
  simp only [List.getElem?_toArray, List.getElem?_cons_zero, List.getElem?_cons_succ] at m0 m1
  have HX := Lib.hid hX
  have HM := Lib.hid hM
  have HR := Lib.hid hR
  have HB := Lib.hid hb
  clear bX bM bR bb hb2 hX hM hR hb
  have hne : w.heap.size + 2 ≠ w.heap.size := by omega
  go_wp2_with fail
  exact end_cell_tmp (g := w.heap.size + 2) (u := .int .i64 0) Try.results18 rfl rfl (box_set8 (box_other HR.out hne _) _ _ _ _ _ _ _ _) Try.underlying36 rfl place_size rfl ⟨rfl, below_set8 (HB.out.setCell (p := ⟨w.heap.size, 2, none⟩) (Nat.le_refl _) _) (by omega) _ _ _ _ _ _ _ _⟩

set_option maxRecDepth 100000 in
set_option maxHeartbeats 4000000 in
theorem move08_up2 (hW : WhyIs #[.slice ab nb cb, .slice al nl cl, .int .i64 2, .int .i64 0, .int .i64 z1, .int .i64 z2, .int .i64 le, .int .i64 mo] 2 key 0 w) (hl0 : 0 ≤ le) (hl1 : le ≤ 1000000) (hm0 : 0 ≤ mo) (hm1 : mo ≤ 1000000) :
    Calls Try.prog 18 #[.agg #[.slice ab nb cb, .slice al nl cl, .int .i64 2, .int .i64 0, .int .i64 z1, .int .i64 z2, .int .i64 le, .int .i64 mo], .agg #[.int .i64 2, .int .u64 key]] w fun e w' => e = .returned (.tuple #[.agg #[.slice ab nb cb, .slice al nl cl, .int .i64 1, .int .i64 0, .int .i64 z1, .int .i64 z2, .int .i64 le, .int .i64 mo], .int .i64 0]) ∧ Below w.heap.size w w' := by
  have HW := Lib.hid hW
  clear hW
  go_enter Try.func18, Try.ntmps18
  go_wp2_with fail
  obtain ⟨bX, bM, bR, bb⟩ := three_boxes w #[.slice ab nb cb, .slice al nl cl, .int .i64 2, .int .i64 0, .int .i64 z1, .int .i64 z2, .int .i64 le, .int .i64 mo] #[.int .i64 2, .int .u64 key] #[.slice none 0 0, .slice none 0 0, .int .i64 0, .int .i64 0, .int .i64 0, .int .i64 0, .int .i64 0, .int .i64 0] 36 42 36
  refine (HW.out _ bb).mono ?_
  rintro e w2 ⟨rfl, hb2⟩
  have hX := (hb2.block _ (lt_of_block bX)).trans bX
  have hM := (hb2.block _ (lt_of_block bM)).trans bM
  have hR := (hb2.block _ (lt_of_block bR)).trans bR
  have hb := later_trans bb hb2
  obtain ⟨x0, x1, x2, x3, x4, x5, x6, x7⟩ := box8 hX
  have fX : ∀ i, w2.frozen? ⟨w.heap.size, i, none⟩ = false := fun i => box_frozen hX
  have fR : ∀ i, w2.frozen? ⟨w.heap.size + 2, i, none⟩ = false := fun i => box_frozen hR
  obtain ⟨r0, r1, r2, r3, r4, r5, r6, r7⟩ := box8 hR
  have m0 := box_cell (i := 0) hM
  have m1 := box_cell (i := 1) hM
  simp only [List.getElem?_toArray, List.getElem?_cons_zero, List.getElem?_cons_succ] at m0 m1
  have HX := Lib.hid hX
  have HM := Lib.hid hM
  have HR := Lib.hid hR
  have HB := Lib.hid hb
  clear bX bM bR bb hb2 hX hM hR hb
  have hne : w.heap.size + 2 ≠ w.heap.size := by omega
  go_wp2_with fail
  exact end_cell_tmp (g := w.heap.size + 2) (u := .int .i64 0) Try.results18 rfl rfl (box_set8 (box_other HR.out hne _) _ _ _ _ _ _ _ _) Try.underlying36 rfl place_size rfl ⟨rfl, below_set8 (HB.out.setCell (p := ⟨w.heap.size, 2, none⟩) (Nat.le_refl _) _) (by omega) _ _ _ _ _ _ _ _⟩
end
end Go.Proofs.Ytdfnfdgkhflonaa
