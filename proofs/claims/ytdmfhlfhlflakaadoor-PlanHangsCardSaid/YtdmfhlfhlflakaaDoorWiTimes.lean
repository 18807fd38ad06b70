/-
  wide.times, walked. (Printed by mkwitimes.py.)
-/
import Derived.Test.YtdmfhlfhlflakaaDoorWide
namespace Go.Proofs.YtdmfhlfhlflakaaDoor
open Go.RowKit Go.Lib
set_option linter.unusedVariables false
set_option linter.unusedSimpArgs false

theorem plus_hi (x1 x0 y : Nat) (h1 : x1 < 18446744073709551616) (h0 : x0 < 18446744073709551616) (hy : y < 18446744073709551616) (w : World) :
    Calls Tryd.prog 95 #[.agg #[.int .u64 x1, .int .u64 x0], .agg #[.int .u64 y, .int .u64 0]] w fun e w' =>
      e = (if x1 + y < 18446744073709551616 then .returned (.agg #[.int .u64 ((x1 + y : Nat) : Int), .int .u64 x0]) else .panicked ovf) ∧ Below w.heap.size w w' := by
  refine (plus_parts x1 x0 y 0 h1 h0 hy (by omega) x0 0 ((x1 + y) % 18446744073709551616) ((x1 + y) / 18446744073709551616) (by omega) ⟨by omega, by omega⟩ ⟨by omega, by omega⟩ w).mono ?_
  rintro e w' ⟨rfl, hb⟩
  refine ⟨?_, hb⟩
  by_cases h : x1 + y < 18446744073709551616
  · rw [if_pos h, if_pos (by omega), Nat.mod_eq_of_lt h]
  · rw [if_neg h, if_neg (by omega)]

set_option maxRecDepth 100000 in
set_option maxHeartbeats 4000000 in
theorem times_good (ah al bh bl : Nat) (h1 : ah < 18446744073709551616) (h2 : al < 18446744073709551616) (h3 : bh < 18446744073709551616) (h4 : bl < 18446744073709551616)
    (x1 x0 y1 y0 z1 z0 : Nat) (hx : al * bl / 18446744073709551616 = x1 ∧ al * bl % 18446744073709551616 = x0) (hy : ah * bl / 18446744073709551616 = y1 ∧ ah * bl % 18446744073709551616 = y0) (hz : bh * al / 18446744073709551616 = z1 ∧ bh * al % 18446744073709551616 = z0)
    (hn : ((ah : Int) == 0) = true ∨ ((ah : Int) == 0) = false ∧ ((bh : Int) == 0) = true) (ky : y1 = 0) (kz : z1 = 0) (ks : x1 + y0 + z0 < 18446744073709551616) (w : World) :
    Calls Tryd.prog 77 #[.agg #[.int .u64 ah, .int .u64 al], .agg #[.int .u64 bh, .int .u64 bl]] w fun e w' => e = .returned (.agg #[.int .u64 ((x1 + y0 + z0 : Nat) : Int), .int .u64 x0]) ∧ Below w.heap.size w w' := by
  have hx1 : x1 < 18446744073709551616 := by rw [← hx.1]; exact Nat.div_lt_of_lt_mul (Nat.mul_lt_mul'' h2 h4)
  have m1 := fun w => mul64_any al bl h2 h4 w
  have m2 := fun w => mul64_any ah bl h1 h4 w
  have m3 := fun w => mul64_any bh al h3 h2 w
  rw [hx.1, hx.2] at m1
  rw [hy.1, hy.2] at m2
  rw [hz.1, hz.2] at m3
  have p1 := fun w => plus_hi x1 x0 y0 (by omega) (by omega) (by omega) w
  rw [if_pos (by omega)] at p1
  have p2 := fun w => plus_hi (x1 + y0) x0 z0 (by omega) (by omega) (by omega) w
  rw [if_pos (by omega)] at p2
  have dy : ((y1 : Int) == 0) = true := by rw [beq_iff_eq]; omega
  have dz : ((z1 : Int) == 0) = true := by rw [beq_iff_eq]; omega
  have nY := need_yes
  have nN := need_no
  have i0 : ∀ w : World, (Instr.index 128 (.agg #[.int .u64 ah, .int .u64 bl, .int .u64 bh, .int .u64 al]) (.int .i64 0)).run Tryd.prog w = .ok (.agg #[.int .u64 ah, .int .u64 bl]) w := fun _ => by kernel_rfl
  have i1 : ∀ w : World, (Instr.index 128 (.agg #[.int .u64 ah, .int .u64 bl, .int .u64 bh, .int .u64 al]) (.int .i64 1)).run Tryd.prog w = .ok (.agg #[.int .u64 bh, .int .u64 al]) w := fun _ => by kernel_rfl
  clear hx hy hz
  go_enter Tryd.func77, Tryd.ntmps77
  rcases hn with ha0 | ⟨ha0, hb0⟩
  · go_wp2_with fail
    refine (nY _).mono ?_
    rintro e w' ⟨rfl, rfl⟩
    go_wp2_with fail
    refine (m1 _).mono ?_
    rintro e w' ⟨rfl, rfl⟩
    go_wp2_with fail
    refine wp_loop_rounds 3 ?_
    rw [rounds_succ]
    go_wp2_with fail
    refine (m2 _).mono ?_
    rintro e w' ⟨rfl, rfl⟩
    go_wp2_with fail
    refine (nY _).mono ?_
    rintro e w' ⟨rfl, rfl⟩
    go_wp2_with fail
    refine (p1 _).mono ?_
    rintro e wA ⟨rfl, hA⟩
    have sA := hA.size
    simp only [World.size_alloc, World.size_setCell] at sA
    have cA40 := (bcell hA).1 (w.heap.size + 1 + 1) 0 (by simp; try omega)
    have fA40 := (bcell hA).2 (w.heap.size + 1 + 1) 0 (by simp; try omega)
    try simp [go_sem] at cA40
    try simp [go_sem] at fA40
    have cA41 := (bcell hA).1 (w.heap.size + 1 + 1) 1 (by simp; try omega)
    have fA41 := (bcell hA).2 (w.heap.size + 1 + 1) 1 (by simp; try omega)
    try simp [go_sem] at cA41
    try simp [go_sem] at fA41
    have cA70 := (bcell hA).1 (w.heap.size + 1 + 1 + 1) 0 (by simp; try omega)
    have fA70 := (bcell hA).2 (w.heap.size + 1 + 1 + 1) 0 (by simp; try omega)
    try simp [go_sem] at cA70
    try simp [go_sem] at fA70
    have cA71 := (bcell hA).1 (w.heap.size + 1 + 1 + 1) 1 (by simp; try omega)
    have fA71 := (bcell hA).2 (w.heap.size + 1 + 1 + 1) 1 (by simp; try omega)
    try simp [go_sem] at cA71
    try simp [go_sem] at fA71
    have lA7 : w.heap.size + 1 + 1 + 1 < wA.heap.size := by omega
    have lA4 : w.heap.size + 1 + 1 < wA.heap.size := by omega
    have nA7 : ¬ w.heap.size + 1 + 1 + 1 = wA.heap.size := by omega
    have nA4 : ¬ w.heap.size + 1 + 1 = wA.heap.size := by omega
    have BA : Below w.heap.size w wA := Below.trans (by go_grown) (hA.mono (by simp; try omega))
    go_wp2_with fail
    rw [rounds_succ]
    go_wp2_with fail
    refine (m3 _).mono ?_
    rintro e w' ⟨rfl, rfl⟩
    go_wp2_with fail
    refine (nY _).mono ?_
    rintro e w' ⟨rfl, rfl⟩
    go_wp2_with fail
    refine (p2 _).mono ?_
    rintro e wB ⟨rfl, hB⟩
    have sB := hB.size
    simp only [World.size_alloc, World.size_setCell] at sB
    have cB40 := (bcell hB).1 (w.heap.size + 1 + 1) 0 (by simp; try omega)
    have fB40 := (bcell hB).2 (w.heap.size + 1 + 1) 0 (by simp; try omega)
    simp [go_sem, cA70, cA71, cA40, cA41, fA70, fA71, fA40, fA41, nA7, nA4, lA7, lA4] at cB40
    try simp [go_sem, cA70, cA71, cA40, cA41, fA70, fA71, fA40, fA41, nA7, nA4, lA7, lA4] at fB40
    have cB41 := (bcell hB).1 (w.heap.size + 1 + 1) 1 (by simp; try omega)
    have fB41 := (bcell hB).2 (w.heap.size + 1 + 1) 1 (by simp; try omega)
    simp [go_sem, cA70, cA71, cA40, cA41, fA70, fA71, fA40, fA41, nA7, nA4, lA7, lA4] at cB41
    try simp [go_sem, cA70, cA71, cA40, cA41, fA70, fA71, fA40, fA41, nA7, nA4, lA7, lA4] at fB41
    have cB70 := (bcell hB).1 (w.heap.size + 1 + 1 + 1) 0 (by simp; try omega)
    have fB70 := (bcell hB).2 (w.heap.size + 1 + 1 + 1) 0 (by simp; try omega)
    simp [go_sem, cA70, cA71, cA40, cA41, fA70, fA71, fA40, fA41, nA7, nA4, lA7, lA4] at cB70
    try simp [go_sem, cA70, cA71, cA40, cA41, fA70, fA71, fA40, fA41, nA7, nA4, lA7, lA4] at fB70
    have cB71 := (bcell hB).1 (w.heap.size + 1 + 1 + 1) 1 (by simp; try omega)
    have fB71 := (bcell hB).2 (w.heap.size + 1 + 1 + 1) 1 (by simp; try omega)
    simp [go_sem, cA70, cA71, cA40, cA41, fA70, fA71, fA40, fA41, nA7, nA4, lA7, lA4] at cB71
    try simp [go_sem, cA70, cA71, cA40, cA41, fA70, fA71, fA40, fA41, nA7, nA4, lA7, lA4] at fB71
    have lB7 : w.heap.size + 1 + 1 + 1 < wB.heap.size := by omega
    have lB4 : w.heap.size + 1 + 1 < wB.heap.size := by omega
    have nB7 : ¬ w.heap.size + 1 + 1 + 1 = wB.heap.size := by omega
    have nB4 : ¬ w.heap.size + 1 + 1 = wB.heap.size := by omega
    have BB : Below w.heap.size w wB := Below.trans (by go_grown) (hB.mono (by simp; try omega))
    go_wp2_with fail
    rw [rounds_succ]
    go_wp2_with fail
    refine bodyPost_ret (by simp [results, Tryd.results77, go_sem, cB40, cB41, cB70, cB71]; rfl) rfl ?_
    exact ⟨by push_cast; rfl, by go_grown⟩
  · go_wp2_with fail
    refine (nY _).mono ?_
    rintro e w' ⟨rfl, rfl⟩
    go_wp2_with fail
    refine (m1 _).mono ?_
    rintro e w' ⟨rfl, rfl⟩
    go_wp2_with fail
    refine wp_loop_rounds 3 ?_
    rw [rounds_succ]
    go_wp2_with fail
    refine (m2 _).mono ?_
    rintro e w' ⟨rfl, rfl⟩
    go_wp2_with fail
    refine (nY _).mono ?_
    rintro e w' ⟨rfl, rfl⟩
    go_wp2_with fail
    refine (p1 _).mono ?_
    rintro e wA ⟨rfl, hA⟩
    have sA := hA.size
    simp only [World.size_alloc, World.size_setCell] at sA
    have cA40 := (bcell hA).1 (w.heap.size + 1 + 1) 0 (by simp; try omega)
    have fA40 := (bcell hA).2 (w.heap.size + 1 + 1) 0 (by simp; try omega)
    try simp [go_sem] at cA40
    try simp [go_sem] at fA40
    have cA41 := (bcell hA).1 (w.heap.size + 1 + 1) 1 (by simp; try omega)
    have fA41 := (bcell hA).2 (w.heap.size + 1 + 1) 1 (by simp; try omega)
    try simp [go_sem] at cA41
    try simp [go_sem] at fA41
    have cA70 := (bcell hA).1 (w.heap.size + 1 + 1 + 1) 0 (by simp; try omega)
    have fA70 := (bcell hA).2 (w.heap.size + 1 + 1 + 1) 0 (by simp; try omega)
    try simp [go_sem] at cA70
    try simp [go_sem] at fA70
    have cA71 := (bcell hA).1 (w.heap.size + 1 + 1 + 1) 1 (by simp; try omega)
    have fA71 := (bcell hA).2 (w.heap.size + 1 + 1 + 1) 1 (by simp; try omega)
    try simp [go_sem] at cA71
    try simp [go_sem] at fA71
    have lA7 : w.heap.size + 1 + 1 + 1 < wA.heap.size := by omega
    have lA4 : w.heap.size + 1 + 1 < wA.heap.size := by omega
    have nA7 : ¬ w.heap.size + 1 + 1 + 1 = wA.heap.size := by omega
    have nA4 : ¬ w.heap.size + 1 + 1 = wA.heap.size := by omega
    have BA : Below w.heap.size w wA := Below.trans (by go_grown) (hA.mono (by simp; try omega))
    go_wp2_with fail
    rw [rounds_succ]
    go_wp2_with fail
    refine (m3 _).mono ?_
    rintro e w' ⟨rfl, rfl⟩
    go_wp2_with fail
    refine (nY _).mono ?_
    rintro e w' ⟨rfl, rfl⟩
    go_wp2_with fail
    refine (p2 _).mono ?_
    rintro e wB ⟨rfl, hB⟩
    have sB := hB.size
    simp only [World.size_alloc, World.size_setCell] at sB
    have cB40 := (bcell hB).1 (w.heap.size + 1 + 1) 0 (by simp; try omega)
    have fB40 := (bcell hB).2 (w.heap.size + 1 + 1) 0 (by simp; try omega)
    simp [go_sem, cA70, cA71, cA40, cA41, fA70, fA71, fA40, fA41, nA7, nA4, lA7, lA4] at cB40
    try simp [go_sem, cA70, cA71, cA40, cA41, fA70, fA71, fA40, fA41, nA7, nA4, lA7, lA4] at fB40
    have cB41 := (bcell hB).1 (w.heap.size + 1 + 1) 1 (by simp; try omega)
    have fB41 := (bcell hB).2 (w.heap.size + 1 + 1) 1 (by simp; try omega)
    simp [go_sem, cA70, cA71, cA40, cA41, fA70, fA71, fA40, fA41, nA7, nA4, lA7, lA4] at cB41
    try simp [go_sem, cA70, cA71, cA40, cA41, fA70, fA71, fA40, fA41, nA7, nA4, lA7, lA4] at fB41
    have cB70 := (bcell hB).1 (w.heap.size + 1 + 1 + 1) 0 (by simp; try omega)
    have fB70 := (bcell hB).2 (w.heap.size + 1 + 1 + 1) 0 (by simp; try omega)
    simp [go_sem, cA70, cA71, cA40, cA41, fA70, fA71, fA40, fA41, nA7, nA4, lA7, lA4] at cB70
    try simp [go_sem, cA70, cA71, cA40, cA41, fA70, fA71, fA40, fA41, nA7, nA4, lA7, lA4] at fB70
    have cB71 := (bcell hB).1 (w.heap.size + 1 + 1 + 1) 1 (by simp; try omega)
    have fB71 := (bcell hB).2 (w.heap.size + 1 + 1 + 1) 1 (by simp; try omega)
    simp [go_sem, cA70, cA71, cA40, cA41, fA70, fA71, fA40, fA41, nA7, nA4, lA7, lA4] at cB71
    try simp [go_sem, cA70, cA71, cA40, cA41, fA70, fA71, fA40, fA41, nA7, nA4, lA7, lA4] at fB71
    have lB7 : w.heap.size + 1 + 1 + 1 < wB.heap.size := by omega
    have lB4 : w.heap.size + 1 + 1 < wB.heap.size := by omega
    have nB7 : ¬ w.heap.size + 1 + 1 + 1 = wB.heap.size := by omega
    have nB4 : ¬ w.heap.size + 1 + 1 = wB.heap.size := by omega
    have BB : Below w.heap.size w wB := Below.trans (by go_grown) (hB.mono (by simp; try omega))
    go_wp2_with fail
    rw [rounds_succ]
    go_wp2_with fail
    refine bodyPost_ret (by simp [results, Tryd.results77, go_sem, cB40, cB41, cB70, cB71]; rfl) rfl ?_
    exact ⟨by push_cast; rfl, by go_grown⟩

set_option maxRecDepth 100000 in
set_option maxHeartbeats 4000000 in
theorem times_no2 (ah al bh bl : Nat) (h1 : ah < 18446744073709551616) (h2 : al < 18446744073709551616) (h3 : bh < 18446744073709551616) (h4 : bl < 18446744073709551616)
    (x1 x0 y1 y0 z1 z0 : Nat) (hx : al * bl / 18446744073709551616 = x1 ∧ al * bl % 18446744073709551616 = x0) (hy : ah * bl / 18446744073709551616 = y1 ∧ ah * bl % 18446744073709551616 = y0) (hz : bh * al / 18446744073709551616 = z1 ∧ bh * al % 18446744073709551616 = z0)
    (hn : ((ah : Int) == 0) = true ∨ ((ah : Int) == 0) = false ∧ ((bh : Int) == 0) = true) (ky : y1 ≠ 0) (w : World) :
    Calls Tryd.prog 77 #[.agg #[.int .u64 ah, .int .u64 al], .agg #[.int .u64 bh, .int .u64 bl]] w fun e w' => e = .panicked ovf ∧ Below w.heap.size w w' := by
  have hx1 : x1 < 18446744073709551616 := by rw [← hx.1]; exact Nat.div_lt_of_lt_mul (Nat.mul_lt_mul'' h2 h4)
  have m1 := fun w => mul64_any al bl h2 h4 w
  have m2 := fun w => mul64_any ah bl h1 h4 w
  have m3 := fun w => mul64_any bh al h3 h2 w
  rw [hx.1, hx.2] at m1
  rw [hy.1, hy.2] at m2
  rw [hz.1, hz.2] at m3
  have p1 := fun w => plus_hi x1 x0 y0 (by omega) (by omega) (by omega) w
  have dy : ((y1 : Int) == 0) = false := by rw [beq_eq_false_iff_ne]; omega
  have nY := need_yes
  have nN := need_no
  have i0 : ∀ w : World, (Instr.index 128 (.agg #[.int .u64 ah, .int .u64 bl, .int .u64 bh, .int .u64 al]) (.int .i64 0)).run Tryd.prog w = .ok (.agg #[.int .u64 ah, .int .u64 bl]) w := fun _ => by kernel_rfl
  have i1 : ∀ w : World, (Instr.index 128 (.agg #[.int .u64 ah, .int .u64 bl, .int .u64 bh, .int .u64 al]) (.int .i64 1)).run Tryd.prog w = .ok (.agg #[.int .u64 bh, .int .u64 al]) w := fun _ => by kernel_rfl
  clear hx hy hz
  go_enter Tryd.func77, Tryd.ntmps77
  rcases hn with ha0 | ⟨ha0, hb0⟩
  · go_wp2_with fail
    refine (nY _).mono ?_
    rintro e w' ⟨rfl, rfl⟩
    go_wp2_with fail
    refine (m1 _).mono ?_
    rintro e w' ⟨rfl, rfl⟩
    go_wp2_with fail
    refine wp_loop_rounds 3 ?_
    rw [rounds_succ]
    go_wp2_with fail
    refine (m2 _).mono ?_
    rintro e w' ⟨rfl, rfl⟩
    go_wp2_with fail
    refine (nN _).mono ?_
    rintro e w' ⟨rfl, rfl⟩
    show bodyPost Tryd.prog _ _ (Exit.panic ovf) _ _
    simp [bodyPost]
    go_grown
  · go_wp2_with fail
    refine (nY _).mono ?_
    rintro e w' ⟨rfl, rfl⟩
    go_wp2_with fail
    refine (m1 _).mono ?_
    rintro e w' ⟨rfl, rfl⟩
    go_wp2_with fail
    refine wp_loop_rounds 3 ?_
    rw [rounds_succ]
    go_wp2_with fail
    refine (m2 _).mono ?_
    rintro e w' ⟨rfl, rfl⟩
    go_wp2_with fail
    refine (nN _).mono ?_
    rintro e w' ⟨rfl, rfl⟩
    show bodyPost Tryd.prog _ _ (Exit.panic ovf) _ _
    simp [bodyPost]
    go_grown

set_option maxRecDepth 100000 in
set_option maxHeartbeats 4000000 in
theorem times_no3 (ah al bh bl : Nat) (h1 : ah < 18446744073709551616) (h2 : al < 18446744073709551616) (h3 : bh < 18446744073709551616) (h4 : bl < 18446744073709551616)
    (x1 x0 y1 y0 z1 z0 : Nat) (hx : al * bl / 18446744073709551616 = x1 ∧ al * bl % 18446744073709551616 = x0) (hy : ah * bl / 18446744073709551616 = y1 ∧ ah * bl % 18446744073709551616 = y0) (hz : bh * al / 18446744073709551616 = z1 ∧ bh * al % 18446744073709551616 = z0)
    (hn : ((ah : Int) == 0) = true ∨ ((ah : Int) == 0) = false ∧ ((bh : Int) == 0) = true) (ky : y1 = 0) (ks : ¬ x1 + y0 < 18446744073709551616) (w : World) :
    Calls Tryd.prog 77 #[.agg #[.int .u64 ah, .int .u64 al], .agg #[.int .u64 bh, .int .u64 bl]] w fun e w' => e = .panicked ovf ∧ Below w.heap.size w w' := by
  have hx1 : x1 < 18446744073709551616 := by rw [← hx.1]; exact Nat.div_lt_of_lt_mul (Nat.mul_lt_mul'' h2 h4)
  have m1 := fun w => mul64_any al bl h2 h4 w
  have m2 := fun w => mul64_any ah bl h1 h4 w
  have m3 := fun w => mul64_any bh al h3 h2 w
  rw [hx.1, hx.2] at m1
  rw [hy.1, hy.2] at m2
  rw [hz.1, hz.2] at m3
  have p1 := fun w => plus_hi x1 x0 y0 (by omega) (by omega) (by omega) w
  rw [if_neg (by omega)] at p1
  have dy : ((y1 : Int) == 0) = true := by rw [beq_iff_eq]; omega
  have nY := need_yes
  have nN := need_no
  have i0 : ∀ w : World, (Instr.index 128 (.agg #[.int .u64 ah, .int .u64 bl, .int .u64 bh, .int .u64 al]) (.int .i64 0)).run Tryd.prog w = .ok (.agg #[.int .u64 ah, .int .u64 bl]) w := fun _ => by kernel_rfl
  have i1 : ∀ w : World, (Instr.index 128 (.agg #[.int .u64 ah, .int .u64 bl, .int .u64 bh, .int .u64 al]) (.int .i64 1)).run Tryd.prog w = .ok (.agg #[.int .u64 bh, .int .u64 al]) w := fun _ => by kernel_rfl
  clear hx hy hz
  go_enter Tryd.func77, Tryd.ntmps77
  rcases hn with ha0 | ⟨ha0, hb0⟩
  · go_wp2_with fail
    refine (nY _).mono ?_
    rintro e w' ⟨rfl, rfl⟩
    go_wp2_with fail
    refine (m1 _).mono ?_
    rintro e w' ⟨rfl, rfl⟩
    go_wp2_with fail
    refine wp_loop_rounds 3 ?_
    rw [rounds_succ]
    go_wp2_with fail
    refine (m2 _).mono ?_
    rintro e w' ⟨rfl, rfl⟩
    go_wp2_with fail
    refine (nY _).mono ?_
    rintro e w' ⟨rfl, rfl⟩
    go_wp2_with fail
    refine (p1 _).mono ?_
    rintro e wA ⟨rfl, hA⟩
    have BA : Below w.heap.size w wA := Below.trans (by go_grown) (hA.mono (by simp; try omega))
    show bodyPost Tryd.prog _ _ (Exit.panic ovf) _ _
    simp [bodyPost]
    go_grown
  · go_wp2_with fail
    refine (nY _).mono ?_
    rintro e w' ⟨rfl, rfl⟩
    go_wp2_with fail
    refine (m1 _).mono ?_
    rintro e w' ⟨rfl, rfl⟩
    go_wp2_with fail
    refine wp_loop_rounds 3 ?_
    rw [rounds_succ]
    go_wp2_with fail
    refine (m2 _).mono ?_
    rintro e w' ⟨rfl, rfl⟩
    go_wp2_with fail
    refine (nY _).mono ?_
    rintro e w' ⟨rfl, rfl⟩
    go_wp2_with fail
    refine (p1 _).mono ?_
    rintro e wA ⟨rfl, hA⟩
    have BA : Below w.heap.size w wA := Below.trans (by go_grown) (hA.mono (by simp; try omega))
    show bodyPost Tryd.prog _ _ (Exit.panic ovf) _ _
    simp [bodyPost]
    go_grown

set_option maxRecDepth 100000 in
set_option maxHeartbeats 4000000 in
theorem times_no4 (ah al bh bl : Nat) (h1 : ah < 18446744073709551616) (h2 : al < 18446744073709551616) (h3 : bh < 18446744073709551616) (h4 : bl < 18446744073709551616)
    (x1 x0 y1 y0 z1 z0 : Nat) (hx : al * bl / 18446744073709551616 = x1 ∧ al * bl % 18446744073709551616 = x0) (hy : ah * bl / 18446744073709551616 = y1 ∧ ah * bl % 18446744073709551616 = y0) (hz : bh * al / 18446744073709551616 = z1 ∧ bh * al % 18446744073709551616 = z0)
    (hn : ((ah : Int) == 0) = true ∨ ((ah : Int) == 0) = false ∧ ((bh : Int) == 0) = true) (ky : y1 = 0) (ks : x1 + y0 < 18446744073709551616) (kz : z1 ≠ 0) (w : World) :
    Calls Tryd.prog 77 #[.agg #[.int .u64 ah, .int .u64 al], .agg #[.int .u64 bh, .int .u64 bl]] w fun e w' => e = .panicked ovf ∧ Below w.heap.size w w' := by
  have hx1 : x1 < 18446744073709551616 := by rw [← hx.1]; exact Nat.div_lt_of_lt_mul (Nat.mul_lt_mul'' h2 h4)
  have m1 := fun w => mul64_any al bl h2 h4 w
  have m2 := fun w => mul64_any ah bl h1 h4 w
  have m3 := fun w => mul64_any bh al h3 h2 w
  rw [hx.1, hx.2] at m1
  rw [hy.1, hy.2] at m2
  rw [hz.1, hz.2] at m3
  have p1 := fun w => plus_hi x1 x0 y0 (by omega) (by omega) (by omega) w
  rw [if_pos (by omega)] at p1
  have dy : ((y1 : Int) == 0) = true := by rw [beq_iff_eq]; omega
  have dz : ((z1 : Int) == 0) = false := by rw [beq_eq_false_iff_ne]; omega
  have nY := need_yes
  have nN := need_no
  have i0 : ∀ w : World, (Instr.index 128 (.agg #[.int .u64 ah, .int .u64 bl, .int .u64 bh, .int .u64 al]) (.int .i64 0)).run Tryd.prog w = .ok (.agg #[.int .u64 ah, .int .u64 bl]) w := fun _ => by kernel_rfl
  have i1 : ∀ w : World, (Instr.index 128 (.agg #[.int .u64 ah, .int .u64 bl, .int .u64 bh, .int .u64 al]) (.int .i64 1)).run Tryd.prog w = .ok (.agg #[.int .u64 bh, .int .u64 al]) w := fun _ => by kernel_rfl
  clear hx hy hz
  go_enter Tryd.func77, Tryd.ntmps77
  rcases hn with ha0 | ⟨ha0, hb0⟩
  · go_wp2_with fail
    refine (nY _).mono ?_
    rintro e w' ⟨rfl, rfl⟩
    go_wp2_with fail
    refine (m1 _).mono ?_
    rintro e w' ⟨rfl, rfl⟩
    go_wp2_with fail
    refine wp_loop_rounds 3 ?_
    rw [rounds_succ]
    go_wp2_with fail
    refine (m2 _).mono ?_
    rintro e w' ⟨rfl, rfl⟩
    go_wp2_with fail
    refine (nY _).mono ?_
    rintro e w' ⟨rfl, rfl⟩
    go_wp2_with fail
    refine (p1 _).mono ?_
    rintro e wA ⟨rfl, hA⟩
    have sA := hA.size
    simp only [World.size_alloc, World.size_setCell] at sA
    have cA40 := (bcell hA).1 (w.heap.size + 1 + 1) 0 (by simp; try omega)
    have fA40 := (bcell hA).2 (w.heap.size + 1 + 1) 0 (by simp; try omega)
    try simp [go_sem] at cA40
    try simp [go_sem] at fA40
    have cA41 := (bcell hA).1 (w.heap.size + 1 + 1) 1 (by simp; try omega)
    have fA41 := (bcell hA).2 (w.heap.size + 1 + 1) 1 (by simp; try omega)
    try simp [go_sem] at cA41
    try simp [go_sem] at fA41
    have cA70 := (bcell hA).1 (w.heap.size + 1 + 1 + 1) 0 (by simp; try omega)
    have fA70 := (bcell hA).2 (w.heap.size + 1 + 1 + 1) 0 (by simp; try omega)
    try simp [go_sem] at cA70
    try simp [go_sem] at fA70
    have cA71 := (bcell hA).1 (w.heap.size + 1 + 1 + 1) 1 (by simp; try omega)
    have fA71 := (bcell hA).2 (w.heap.size + 1 + 1 + 1) 1 (by simp; try omega)
    try simp [go_sem] at cA71
    try simp [go_sem] at fA71
    have lA7 : w.heap.size + 1 + 1 + 1 < wA.heap.size := by omega
    have lA4 : w.heap.size + 1 + 1 < wA.heap.size := by omega
    have nA7 : ¬ w.heap.size + 1 + 1 + 1 = wA.heap.size := by omega
    have nA4 : ¬ w.heap.size + 1 + 1 = wA.heap.size := by omega
    have BA : Below w.heap.size w wA := Below.trans (by go_grown) (hA.mono (by simp; try omega))
    go_wp2_with fail
    rw [rounds_succ]
    go_wp2_with fail
    refine (m3 _).mono ?_
    rintro e w' ⟨rfl, rfl⟩
    go_wp2_with fail
    refine (nN _).mono ?_
    rintro e w' ⟨rfl, rfl⟩
    show bodyPost Tryd.prog _ _ (Exit.panic ovf) _ _
    simp [bodyPost]
    go_grown
  · go_wp2_with fail
    refine (nY _).mono ?_
    rintro e w' ⟨rfl, rfl⟩
    go_wp2_with fail
    refine (m1 _).mono ?_
    rintro e w' ⟨rfl, rfl⟩
    go_wp2_with fail
    refine wp_loop_rounds 3 ?_
    rw [rounds_succ]
    go_wp2_with fail
    refine (m2 _).mono ?_
    rintro e w' ⟨rfl, rfl⟩
    go_wp2_with fail
    refine (nY _).mono ?_
    rintro e w' ⟨rfl, rfl⟩
    go_wp2_with fail
    refine (p1 _).mono ?_
    rintro e wA ⟨rfl, hA⟩
    have sA := hA.size
    simp only [World.size_alloc, World.size_setCell] at sA
    have cA40 := (bcell hA).1 (w.heap.size + 1 + 1) 0 (by simp; try omega)
    have fA40 := (bcell hA).2 (w.heap.size + 1 + 1) 0 (by simp; try omega)
    try simp [go_sem] at cA40
    try simp [go_sem] at fA40
    have cA41 := (bcell hA).1 (w.heap.size + 1 + 1) 1 (by simp; try omega)
    have fA41 := (bcell hA).2 (w.heap.size + 1 + 1) 1 (by simp; try omega)
    try simp [go_sem] at cA41
    try simp [go_sem] at fA41
    have cA70 := (bcell hA).1 (w.heap.size + 1 + 1 + 1) 0 (by simp; try omega)
    have fA70 := (bcell hA).2 (w.heap.size + 1 + 1 + 1) 0 (by simp; try omega)
    try simp [go_sem] at cA70
    try simp [go_sem] at fA70
    have cA71 := (bcell hA).1 (w.heap.size + 1 + 1 + 1) 1 (by simp; try omega)
    have fA71 := (bcell hA).2 (w.heap.size + 1 + 1 + 1) 1 (by simp; try omega)
    try simp [go_sem] at cA71
    try simp [go_sem] at fA71
    have lA7 : w.heap.size + 1 + 1 + 1 < wA.heap.size := by omega
    have lA4 : w.heap.size + 1 + 1 < wA.heap.size := by omega
    have nA7 : ¬ w.heap.size + 1 + 1 + 1 = wA.heap.size := by omega
    have nA4 : ¬ w.heap.size + 1 + 1 = wA.heap.size := by omega
    have BA : Below w.heap.size w wA := Below.trans (by go_grown) (hA.mono (by simp; try omega))
    go_wp2_with fail
    rw [rounds_succ]
    go_wp2_with fail
    refine (m3 _).mono ?_
    rintro e w' ⟨rfl, rfl⟩
    go_wp2_with fail
    refine (nN _).mono ?_
    rintro e w' ⟨rfl, rfl⟩
    show bodyPost Tryd.prog _ _ (Exit.panic ovf) _ _
    simp [bodyPost]
    go_grown

set_option maxRecDepth 100000 in
set_option maxHeartbeats 4000000 in
theorem times_no5 (ah al bh bl : Nat) (h1 : ah < 18446744073709551616) (h2 : al < 18446744073709551616) (h3 : bh < 18446744073709551616) (h4 : bl < 18446744073709551616)
    (x1 x0 y1 y0 z1 z0 : Nat) (hx : al * bl / 18446744073709551616 = x1 ∧ al * bl % 18446744073709551616 = x0) (hy : ah * bl / 18446744073709551616 = y1 ∧ ah * bl % 18446744073709551616 = y0) (hz : bh * al / 18446744073709551616 = z1 ∧ bh * al % 18446744073709551616 = z0)
    (hn : ((ah : Int) == 0) = true ∨ ((ah : Int) == 0) = false ∧ ((bh : Int) == 0) = true) (ky : y1 = 0) (ks : x1 + y0 < 18446744073709551616) (kz : z1 = 0) (kt : ¬ x1 + y0 + z0 < 18446744073709551616) (w : World) :
    Calls Tryd.prog 77 #[.agg #[.int .u64 ah, .int .u64 al], .agg #[.int .u64 bh, .int .u64 bl]] w fun e w' => e = .panicked ovf ∧ Below w.heap.size w w' := by
  have hx1 : x1 < 18446744073709551616 := by rw [← hx.1]; exact Nat.div_lt_of_lt_mul (Nat.mul_lt_mul'' h2 h4)
  have m1 := fun w => mul64_any al bl h2 h4 w
  have m2 := fun w => mul64_any ah bl h1 h4 w
  have m3 := fun w => mul64_any bh al h3 h2 w
  rw [hx.1, hx.2] at m1
  rw [hy.1, hy.2] at m2
  rw [hz.1, hz.2] at m3
  have p1 := fun w => plus_hi x1 x0 y0 (by omega) (by omega) (by omega) w
  rw [if_pos (by omega)] at p1
  have p2 := fun w => plus_hi (x1 + y0) x0 z0 (by omega) (by omega) (by omega) w
  rw [if_neg (by omega)] at p2
  have dy : ((y1 : Int) == 0) = true := by rw [beq_iff_eq]; omega
  have dz : ((z1 : Int) == 0) = true := by rw [beq_iff_eq]; omega
  have nY := need_yes
  have nN := need_no
  have i0 : ∀ w : World, (Instr.index 128 (.agg #[.int .u64 ah, .int .u64 bl, .int .u64 bh, .int .u64 al]) (.int .i64 0)).run Tryd.prog w = .ok (.agg #[.int .u64 ah, .int .u64 bl]) w := fun _ => by kernel_rfl
  have i1 : ∀ w : World, (Instr.index 128 (.agg #[.int .u64 ah, .int .u64 bl, .int .u64 bh, .int .u64 al]) (.int .i64 1)).run Tryd.prog w = .ok (.agg #[.int .u64 bh, .int .u64 al]) w := fun _ => by kernel_rfl
  clear hx hy hz
  go_enter Tryd.func77, Tryd.ntmps77
  rcases hn with ha0 | ⟨ha0, hb0⟩
  · go_wp2_with fail
    refine (nY _).mono ?_
    rintro e w' ⟨rfl, rfl⟩
    go_wp2_with fail
    refine (m1 _).mono ?_
    rintro e w' ⟨rfl, rfl⟩
    go_wp2_with fail
    refine wp_loop_rounds 3 ?_
    rw [rounds_succ]
    go_wp2_with fail
    refine (m2 _).mono ?_
    rintro e w' ⟨rfl, rfl⟩
    go_wp2_with fail
    refine (nY _).mono ?_
    rintro e w' ⟨rfl, rfl⟩
    go_wp2_with fail
    refine (p1 _).mono ?_
    rintro e wA ⟨rfl, hA⟩
    have sA := hA.size
    simp only [World.size_alloc, World.size_setCell] at sA
    have cA40 := (bcell hA).1 (w.heap.size + 1 + 1) 0 (by simp; try omega)
    have fA40 := (bcell hA).2 (w.heap.size + 1 + 1) 0 (by simp; try omega)
    try simp [go_sem] at cA40
    try simp [go_sem] at fA40
    have cA41 := (bcell hA).1 (w.heap.size + 1 + 1) 1 (by simp; try omega)
    have fA41 := (bcell hA).2 (w.heap.size + 1 + 1) 1 (by simp; try omega)
    try simp [go_sem] at cA41
    try simp [go_sem] at fA41
    have cA70 := (bcell hA).1 (w.heap.size + 1 + 1 + 1) 0 (by simp; try omega)
    have fA70 := (bcell hA).2 (w.heap.size + 1 + 1 + 1) 0 (by simp; try omega)
    try simp [go_sem] at cA70
    try simp [go_sem] at fA70
    have cA71 := (bcell hA).1 (w.heap.size + 1 + 1 + 1) 1 (by simp; try omega)
    have fA71 := (bcell hA).2 (w.heap.size + 1 + 1 + 1) 1 (by simp; try omega)
    try simp [go_sem] at cA71
    try simp [go_sem] at fA71
    have lA7 : w.heap.size + 1 + 1 + 1 < wA.heap.size := by omega
    have lA4 : w.heap.size + 1 + 1 < wA.heap.size := by omega
    have nA7 : ¬ w.heap.size + 1 + 1 + 1 = wA.heap.size := by omega
    have nA4 : ¬ w.heap.size + 1 + 1 = wA.heap.size := by omega
    have BA : Below w.heap.size w wA := Below.trans (by go_grown) (hA.mono (by simp; try omega))
    go_wp2_with fail
    rw [rounds_succ]
    go_wp2_with fail
    refine (m3 _).mono ?_
    rintro e w' ⟨rfl, rfl⟩
    go_wp2_with fail
    refine (nY _).mono ?_
    rintro e w' ⟨rfl, rfl⟩
    go_wp2_with fail
    refine (p2 _).mono ?_
    rintro e wB ⟨rfl, hB⟩
    have BB : Below w.heap.size w wB := Below.trans (by go_grown) (hB.mono (by simp; try omega))
    show bodyPost Tryd.prog _ _ (Exit.panic ovf) _ _
    simp [bodyPost]
    go_grown
  · go_wp2_with fail
    refine (nY _).mono ?_
    rintro e w' ⟨rfl, rfl⟩
    go_wp2_with fail
    refine (m1 _).mono ?_
    rintro e w' ⟨rfl, rfl⟩
    go_wp2_with fail
    refine wp_loop_rounds 3 ?_
    rw [rounds_succ]
    go_wp2_with fail
    refine (m2 _).mono ?_
    rintro e w' ⟨rfl, rfl⟩
    go_wp2_with fail
    refine (nY _).mono ?_
    rintro e w' ⟨rfl, rfl⟩
    go_wp2_with fail
    refine (p1 _).mono ?_
    rintro e wA ⟨rfl, hA⟩
    have sA := hA.size
    simp only [World.size_alloc, World.size_setCell] at sA
    have cA40 := (bcell hA).1 (w.heap.size + 1 + 1) 0 (by simp; try omega)
    have fA40 := (bcell hA).2 (w.heap.size + 1 + 1) 0 (by simp; try omega)
    try simp [go_sem] at cA40
    try simp [go_sem] at fA40
    have cA41 := (bcell hA).1 (w.heap.size + 1 + 1) 1 (by simp; try omega)
    have fA41 := (bcell hA).2 (w.heap.size + 1 + 1) 1 (by simp; try omega)
    try simp [go_sem] at cA41
    try simp [go_sem] at fA41
    have cA70 := (bcell hA).1 (w.heap.size + 1 + 1 + 1) 0 (by simp; try omega)
    have fA70 := (bcell hA).2 (w.heap.size + 1 + 1 + 1) 0 (by simp; try omega)
    try simp [go_sem] at cA70
    try simp [go_sem] at fA70
    have cA71 := (bcell hA).1 (w.heap.size + 1 + 1 + 1) 1 (by simp; try omega)
    have fA71 := (bcell hA).2 (w.heap.size + 1 + 1 + 1) 1 (by simp; try omega)
    try simp [go_sem] at cA71
    try simp [go_sem] at fA71
    have lA7 : w.heap.size + 1 + 1 + 1 < wA.heap.size := by omega
    have lA4 : w.heap.size + 1 + 1 < wA.heap.size := by omega
    have nA7 : ¬ w.heap.size + 1 + 1 + 1 = wA.heap.size := by omega
    have nA4 : ¬ w.heap.size + 1 + 1 = wA.heap.size := by omega
    have BA : Below w.heap.size w wA := Below.trans (by go_grown) (hA.mono (by simp; try omega))
    go_wp2_with fail
    rw [rounds_succ]
    go_wp2_with fail
    refine (m3 _).mono ?_
    rintro e w' ⟨rfl, rfl⟩
    go_wp2_with fail
    refine (nY _).mono ?_
    rintro e w' ⟨rfl, rfl⟩
    go_wp2_with fail
    refine (p2 _).mono ?_
    rintro e wB ⟨rfl, hB⟩
    have BB : Below w.heap.size w wB := Below.trans (by go_grown) (hB.mono (by simp; try omega))
    show bodyPost Tryd.prog _ _ (Exit.panic ovf) _ _
    simp [bodyPost]
    go_grown
end Go.Proofs.YtdmfhlfhlflakaaDoor
