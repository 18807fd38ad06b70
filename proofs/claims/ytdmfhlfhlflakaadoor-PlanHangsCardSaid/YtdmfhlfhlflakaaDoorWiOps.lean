/-
  wide.Of, Compare, Add, Mul, Sub, walked.
-/
import Derived.Test.YtdmfhlfhlflakaaDoorPlBase
namespace Go.Proofs.YtdmfhlfhlflakaaDoor
open Go.RowKit Go.Lib Go.Shelf
set_option linter.unusedVariables false

abbrev W128 : Nat := 340282366920938463463374607431768211456
theorem wv_open (a : Nat) (h : a < 340282366920938463463374607431768211456) : ∃ ah al : Nat, wv a = .agg #[.int .u64 ah, .int .u64 al] ∧ ah < 18446744073709551616 ∧ al < 18446744073709551616 ∧ a = ah * 18446744073709551616 + al := by
  obtain ⟨ah, al, e1, e2, h1, h2, ea⟩ := two_halves a h
  exact ⟨ah, al, by rw [ea, wv_of ah al h2], h1, h2, ea⟩

theorem Of_any (n : Nat) (h : n < 18446744073709551616) (w : World) : Calls Tryd.prog 32 #[.int .u64 n] w fun e w' => e = .returned (wv n) ∧ Below w.heap.size w w' := by
  have e : wv n = .agg #[.int .u64 0, .int .u64 n] := by
    unfold wv
    rw [Nat.div_eq_of_lt h, Nat.mod_eq_of_lt h]; rfl
  rw [e]
  clear e
  go_enter Tryd.func32, Tryd.ntmps32
  go_wp2
  go_returns
  exact ⟨rfl, by go_grown⟩

theorem wide_lt {ah al bh bl : Nat} (h : ah < bh) (hl : al < 18446744073709551616) : ah * 18446744073709551616 + al < bh * 18446744073709551616 + bl := by omega
/-- What was laid just ahead of a call stands behind it. -/
theorem new_kept {w w1 : World} {cs : Array Value} {t : TypeId} (hb : Below (w.alloc (.cells cs t)).heap.size (w.alloc (.cells cs t)) w1) : w1.heap[w.heap.size]? = some (.cells cs t (0, 0)) :=
  (hb.block _ (by simp)).trans (box_new _ _ _)
theorem new2 {w w1 : World} {u0 u1 : Value} {t : TypeId} (hb : Below (w.alloc (.cells #[u0, u1] t)).heap.size (w.alloc (.cells #[u0, u1] t)) w1) :
    w1.cell? ⟨w.heap.size, 0, none⟩ = some u0 ∧ w1.cell? ⟨w.heap.size, 1, none⟩ = some u1 ∧ w1.frozen? ⟨w.heap.size, 0, none⟩ = false ∧ w1.frozen? ⟨w.heap.size, 1, none⟩ = false ∧ w.heap.size < w1.heap.size := by
  have h := new_kept hb
  exact ⟨by simpa using box_cell (i := 0) h, by simpa using box_cell (i := 1) h, box_frozen h, box_frozen h, lt_of_block h⟩
theorem below_new {w w1 : World} {o : Obj} (hb : Below (w.alloc o).heap.size (w.alloc o) w1) : Below w.heap.size w w1 := later_trans (later_alloc w o) hb

def cmpI (x y : Int) : Int := if x < y then -1 else if y < x then 1 else 0
theorem cmpI_lt {x y : Int} (h : x < y) : cmpI x y = -1 := by unfold cmpI; rw [if_pos h]
theorem cmpI_gt {x y : Int} (h : y < x) : cmpI x y = 1 := by unfold cmpI; rw [if_neg (by omega), if_pos h]
theorem cmpI_eq {x y : Int} (h : x = y) : cmpI x y = 0 := by unfold cmpI; rw [if_neg (by omega), if_neg (by omega)]
theorem cmpI_ne {x y : Int} (h : x ≠ y) : cmpI x y ≠ 0 := by
  by_cases h1 : x < y
  · rw [cmpI_lt h1]; decide
  · rw [cmpI_gt (by omega)]; decide
theorem cmp1_any (x y : Int) (w : World) : Calls Tryd.prog 53 #[.int .u64 x, .int .u64 y] w fun e w' => e = .returned (.int .i64 (cmpI x y)) ∧ w' = w := by
  unfold cmpI
  by_cases h1 : x < y
  · rw [if_pos h1]
    go_enter Tryd.func53, Tryd.ntmps53
    go_wp2
    go_ret
    exact ⟨rfl, rfl⟩
  · rw [if_neg h1]
    by_cases h2 : y < x
    · rw [if_pos h2]
      go_enter Tryd.func53, Tryd.ntmps53
      go_wp2
      go_ret
      exact ⟨rfl, rfl⟩
    · rw [if_neg h2]
      go_enter Tryd.func53, Tryd.ntmps53
      go_wp2
      go_ret
      exact ⟨rfl, rfl⟩

set_option maxRecDepth 100000 in
set_option maxHeartbeats 1000000 in
theorem cmp2_any (g g' : Nat) (x1 x0 y1 y0 : Int) (w : World) (hg : w.heap[g]? = some (.cells #[.int .u64 x1, .int .u64 x0] 33 (0, 0))) (hg' : w.heap[g']? = some (.cells #[.int .u64 y1, .int .u64 y0] 33 (0, 0))) :
    Calls Tryd.prog 52 #[.slice (some ⟨g, 0, none⟩) 2 2, .slice (some ⟨g', 0, none⟩) 2 2, .func (.func 53) #[] #[]] w fun e w' =>
      e = .returned (.int .i64 (if x1 = y1 then cmpI x0 y0 else cmpI x1 y1)) ∧ w' = w := by
  have c0 := box_cell (i := 0) hg
  have c1 := box_cell (i := 1) hg
  have d0 := box_cell (i := 0) hg'
  have d1 := box_cell (i := 1) hg'
  simp at c0 c1 d0 d1
  have hE : ∀ args w, (callFunc 53 args).run Tryd.prog w = .ok (.enter 53 args) w := enters_of Tryd.func53 (by kernel_rfl) rfl
  have hC1 := fun w => cmp1_any x1 y1 w
  have hC0 := fun w => cmp1_any x0 y0 w
  by_cases h1 : x1 = y1
  · rw [if_pos h1]
    have e1 : cmpI x1 y1 = 0 := by unfold cmpI; rw [if_neg (by omega), if_neg (by omega)]
    rw [e1] at hC1
    clear e1 h1
    by_cases h0 : cmpI x0 y0 = 0
    · rw [h0] at hC0 ⊢
      go_enter Tryd.func52, Tryd.ntmps52
      go_wp2_with fail
      refine wp_loop_rounds 3 ?_
      rw [rounds_succ]
      go_wp2_with fail
      refine (hC1 _).mono ?_
      rintro e w' ⟨rfl, rfl⟩
      go_wp2_with fail
      rw [rounds_succ]
      go_wp2_with fail
      refine (hC0 _).mono ?_
      rintro e w' ⟨rfl, rfl⟩
      go_wp2_with fail
      rw [rounds_succ]
      go_wp2_with fail
      go_ret
      exact ⟨rfl, rfl⟩
    · generalize cmpI x0 y0 = q at h0 hC0 ⊢
      have hq : (q != 0) = true := by simpa using h0
      clear h0
      go_enter Tryd.func52, Tryd.ntmps52
      go_wp2_with fail
      refine wp_loop_rounds 3 ?_
      rw [rounds_succ]
      go_wp2_with fail
      refine (hC1 _).mono ?_
      rintro e w' ⟨rfl, rfl⟩
      go_wp2_with fail
      rw [rounds_succ]
      go_wp2_with fail
      refine (hC0 _).mono ?_
      rintro e w' ⟨rfl, rfl⟩
      go_wp2_with fail
      go_ret
      exact ⟨rfl, rfl⟩
  · rw [if_neg h1]
    have h0 : cmpI x1 y1 ≠ 0 := cmpI_ne h1
    generalize cmpI x1 y1 = q at h0 hC1 ⊢
    have hq : (q != 0) = true := by simpa using h0
    clear h0 h1
    go_enter Tryd.func52, Tryd.ntmps52
    go_wp2_with fail
    refine wp_loop_rounds 3 ?_
    rw [rounds_succ]
    go_wp2_with fail
    refine (hC1 _).mono ?_
    rintro e w' ⟨rfl, rfl⟩
    go_wp2_with fail
    go_ret
    exact ⟨rfl, rfl⟩

set_option maxRecDepth 100000 in
set_option maxHeartbeats 1000000 in
theorem Compare_any (a b : Nat) (ha : a < 340282366920938463463374607431768211456) (hb : b < 340282366920938463463374607431768211456) (w : World) :
    Calls Tryd.prog 15 #[wv a, wv b] w fun e w' => e = .returned (.int .i64 (cmpI a b)) ∧ Below w.heap.size w w' := by
  obtain ⟨ah, al, e1, h1, h2, ea⟩ := wv_open a ha
  obtain ⟨bh, bl, e2, h3, h4, eb⟩ := wv_open b hb
  have hr : cmpI a b = if (ah : Int) = bh then cmpI al bl else cmpI ah bh := by
    by_cases h : (ah : Int) = bh
    · rw [if_pos h]
      have : ah = bh := by omega
      subst this
      subst ea eb
      clear e1 e2
      by_cases h5 : al < bl
      · rw [cmpI_lt (by omega), cmpI_lt (by omega)]
      · by_cases h6 : bl < al
        · rw [cmpI_gt (by omega), cmpI_gt (by omega)]
        · rw [cmpI_eq (by omega), cmpI_eq (by omega)]
    · rw [if_neg h]
      subst ea eb
      by_cases h5 : ah < bh
      · have h7 : ah * 18446744073709551616 + al < bh * 18446744073709551616 + bl  := wide_lt h5 h2
        rw [cmpI_lt (by omega), cmpI_lt (by omega)]
      · have h7 : bh * 18446744073709551616 + bl < ah * 18446744073709551616 + al  := wide_lt (by omega) h4
        rw [cmpI_gt (by omega), cmpI_gt (by omega)]
  rw [hr, e1, e2]
  generalize hR : (if (ah : Int) = bh then cmpI al bl else cmpI ah bh) = R
  have HR := Lib.hid hR
  clear hR hr e1 e2 ea eb ha hb h1 h2 h3 h4
  go_enter Tryd.func15, Tryd.ntmps15
  go_wp2_with fail
  refine (cmp2_any _ _ ah al bh bl _ ?_ ?_).mono ?_
  · have h := box_new ((w.alloc (.cells #[.int .u64 (ah : Int), .int .u64 (al : Int)] 35)).alloc (.cells #[.int .u64 (bh : Int), .int .u64 (bl : Int)] 35)) #[.int .u64 (ah : Int), .int .u64 (al : Int)] 33
    simp only [World.size_alloc] at h
    exact box_alloc h _
  · have h := box_new (((w.alloc (.cells #[.int .u64 (ah : Int), .int .u64 (al : Int)] 35)).alloc (.cells #[.int .u64 (bh : Int), .int .u64 (bl : Int)] 35)).alloc (.cells #[.int .u64 (ah : Int), .int .u64 (al : Int)] 33)) #[.int .u64 (bh : Int), .int .u64 (bl : Int)] 33
    simp only [World.size_alloc] at h
    exact h
  rintro e w' ⟨rfl, rfl⟩
  rw [HR.out]
  go_wp2_with fail
  go_ret
  exact ⟨rfl, by go_grown⟩

/-- What a checked operation comes to. -/
def wres (n : Nat) : Value := if n < 340282366920938463463374607431768211456 then .tuple #[wv n, .int .i64 0] else .tuple #[wv 0, .int .i64 110]

theorem wb_cells {w : World} {x a : Nat} (h : WB w x a) : w.cell? ⟨x, 0, none⟩ = some (.int .u64 ((a / 18446744073709551616 : Nat) : Int)) ∧ w.cell? ⟨x, 1, none⟩ = some (.int .u64 ((a % 18446744073709551616 : Nat) : Int)) :=
  ⟨by simpa using box_cell (i := 0) h, by simpa using box_cell (i := 1) h⟩

set_option maxRecDepth 100000 in
set_option maxHeartbeats 1000000 in
theorem add1_any {x y a b : Nat} {w : World} (ha : a < 340282366920938463463374607431768211456) (hb : b < 340282366920938463463374607431768211456) (hx : WB w x a) (hy : WB w y b) :
    Calls Tryd.prog 94 #[.pointer (some ⟨x, 0, none⟩), .pointer (some ⟨y, 0, none⟩)] w fun e w' => e = (if a + b < 340282366920938463463374607431768211456 then .returned (wv (a + b)) else .panicked ovf) ∧ Below w.heap.size w w' := by
  obtain ⟨c0, c1⟩ := wb_cells hx
  obtain ⟨d0, d1⟩ := wb_cells hy
  have hP := fun w => plus_any a b ha hb w
  unfold wv at hP
  have lx := lt_of_block hx
  have ly := lt_of_block hy
  clear hx hy
  by_cases hs : a + b < 340282366920938463463374607431768211456
  · rw [if_pos hs]
    simp only [if_pos hs] at hP
    unfold wv
    generalize (a + b) / 18446744073709551616 = sh at hP ⊢
    generalize (a + b) % 18446744073709551616 = sl at hP ⊢
    generalize a / 18446744073709551616 = ah at *
    generalize a % 18446744073709551616 = al at *
    generalize b / 18446744073709551616 = bh at *
    generalize b % 18446744073709551616 = bl at *
    clear hs ha hb
    go_enter Tryd.func94, Tryd.ntmps94
    go_wp2_with fail
    refine (hP _).mono ?_
    rintro e w1 ⟨rfl, hb1⟩
    obtain ⟨n0, n1, f0, f1, ln⟩ := new2 hb1
    have HB := Lib.hid hb1
    clear hb1
    go_wp2_with fail
    refine bodyPost_ret (v := .agg #[.int .u64 sh, .int .u64 sl]) (by simp [results, Tryd.results94, go_sem, n0, n1]) rfl ?_
    exact ⟨rfl, (((below_new HB.out).setCell (p := ⟨w.heap.size, 0, none⟩) (Nat.le_refl _) _).setCell (p := ⟨w.heap.size, 1, none⟩) (Nat.le_refl _) _)⟩
  · rw [if_neg hs]
    simp only [if_neg hs] at hP
    generalize a / 18446744073709551616 = ah at *
    generalize a % 18446744073709551616 = al at *
    generalize b / 18446744073709551616 = bh at *
    generalize b % 18446744073709551616 = bl at *
    clear hs ha hb
    go_enter Tryd.func94, Tryd.ntmps94
    go_wp2_with fail
    refine (hP _).mono ?_
    rintro e w1 ⟨rfl, hb1⟩
    have HB := Lib.hid hb1
    clear hb1
    go_wp2_with fail
    show bodyPost Tryd.prog _ _ (Exit.panic ovf) _ _
    simp [bodyPost]
    exact below_new HB.out
end Go.Proofs.YtdmfhlfhlflakaaDoor
