/-
  wide.times of two numbers; wide.checked.
-/
import Derived.Defers
import Derived.Recover
import Derived.Laws.EntriesVeiled
import Derived.Shelf.Abstract
import Derived.Test.YtdmfhlfhlflakaaDoorLeOwn
import Derived.Test.YtdmfhlfhlflakaaDoorWiTimes
namespace Go.Proofs.YtdmfhlfhlflakaaDoor
open Go.RowKit Go.Lib Go.Shelf
set_option linter.unusedVariables false

set_option maxRecDepth 100000 in
set_option maxHeartbeats 4000000 in
theorem times_no1 (ah al bh bl : Nat) (ha : ¬ ah = 0) (hb : ¬ bh = 0) (w : World) :
    Calls Tryd.prog 77 #[.agg #[.int .u64 ah, .int .u64 al], .agg #[.int .u64 bh, .int .u64 bl]] w fun e w' => e = .panicked ovf ∧ Below w.heap.size w w' := by
  have nN := need_no
  have ha0 : ((ah : Int) == 0) = false := by rw [beq_eq_false_iff_ne]; omega
  have hb0 : ((bh : Int) == 0) = false := by rw [beq_eq_false_iff_ne]; omega
  go_enter Tryd.func77, Tryd.ntmps77
  go_wp2_with fail
  refine (nN _).mono ?_
  rintro e w' ⟨rfl, rfl⟩
  show bodyPost Tryd.prog _ _ (Exit.panic ovf) _ _
  simp [bodyPost]
  go_grown

/-- The product's parts. -/
theorem mul_parts (ah al bh bl : Nat) : (ah * 18446744073709551616 + al) * (bh * 18446744073709551616 + bl) = ah * bh * 340282366920938463463374607431768211456 + (ah * bl + bh * al) * 18446744073709551616 + al * bl := by
  rw [Nat.add_mul, Nat.mul_add, Nat.mul_add, Nat.add_mul]
  rw [show ah * 18446744073709551616 * (bh * 18446744073709551616) = ah * bh * 340282366920938463463374607431768211456 by rw [Nat.mul_mul_mul_comm], show al * (bh * 18446744073709551616) = bh * al * 18446744073709551616 by rw [← Nat.mul_assoc, Nat.mul_comm al bh], show ah * 18446744073709551616 * bl = ah * bl * 18446744073709551616 by rw [Nat.mul_right_comm]]
  omega

theorem over_max {p q r : Nat} (h : 1 ≤ p) : ¬ p * 340282366920938463463374607431768211456 + q * 18446744073709551616 + r < 340282366920938463463374607431768211456 := by omega
theorem times_xyz (ah al bh bl : Nat) (h1 : ah < 18446744073709551616) (h2 : al < 18446744073709551616) (h3 : bh < 18446744073709551616) (h4 : bl < 18446744073709551616) (X Y Z : Nat) (hX : al * bl = X) (hY : ah * bl = Y) (hZ : bh * al = Z)
    (hn : ((ah : Int) == 0) = true ∨ ((ah : Int) == 0) = false ∧ ((bh : Int) == 0) = true) (w : World) :
    Calls Tryd.prog 77 #[.agg #[.int .u64 ah, .int .u64 al], .agg #[.int .u64 bh, .int .u64 bl]] w fun e w' => e = (if (Y + Z) * 18446744073709551616 + X < 340282366920938463463374607431768211456 then .returned (wv ((Y + Z) * 18446744073709551616 + X)) else .panicked ovf) ∧ Below w.heap.size w w' := by
  generalize hx1 : X / 18446744073709551616 = x1
  generalize hx0 : X % 18446744073709551616 = x0
  generalize hy1 : Y / 18446744073709551616 = y1
  generalize hy0 : Y % 18446744073709551616 = y0
  generalize hz1 : Z / 18446744073709551616 = z1
  generalize hz0 : Z % 18446744073709551616 = z0
  have lx0 : x0 < 18446744073709551616 := by omega
  have eX : X = x1 * 18446744073709551616 + x0 := by omega
  have eY : Y = y1 * 18446744073709551616 + y0 := by omega
  have eZ : Z = z1 * 18446744073709551616 + z0 := by omega
  have px : al * bl / 18446744073709551616 = x1 ∧ al * bl % 18446744073709551616 = x0 := by rw [hX]; exact ⟨hx1, hx0⟩
  have py : ah * bl / 18446744073709551616 = y1 ∧ ah * bl % 18446744073709551616 = y0 := by rw [hY]; exact ⟨hy1, hy0⟩
  have pz : bh * al / 18446744073709551616 = z1 ∧ bh * al % 18446744073709551616 = z0 := by rw [hZ]; exact ⟨hz1, hz0⟩
  by_cases ky : y1 = 0
  · by_cases ks : x1 + y0 < 18446744073709551616
    · by_cases kz : z1 = 0
      · by_cases kt : x1 + y0 + z0 < 18446744073709551616
        · refine (times_good ah al bh bl h1 h2 h3 h4 x1 x0 y1 y0 z1 z0 px py pz hn ky kz kt w).mono ?_
          rintro e w' ⟨rfl, hB⟩
          refine ⟨?_, hB⟩
          have e : (Y + Z) * 18446744073709551616 + X = (x1 + y0 + z0) * 18446744073709551616 + x0 := by omega
          rw [e, if_pos (lt_max kt lx0), wv_of _ _ lx0]
        · refine (times_no5 ah al bh bl h1 h2 h3 h4 x1 x0 y1 y0 z1 z0 px py pz hn ky ks kz kt w).mono ?_
          rintro e w' ⟨rfl, hB⟩
          refine ⟨?_, hB⟩
          rw [if_neg (by omega)]
      · refine (times_no4 ah al bh bl h1 h2 h3 h4 x1 x0 y1 y0 z1 z0 px py pz hn ky ks kz w).mono ?_
        rintro e w' ⟨rfl, hB⟩
        refine ⟨?_, hB⟩
        rw [if_neg (by omega)]
    · refine (times_no3 ah al bh bl h1 h2 h3 h4 x1 x0 y1 y0 z1 z0 px py pz hn ky ks w).mono ?_
      rintro e w' ⟨rfl, hB⟩
      refine ⟨?_, hB⟩
      rw [if_neg (by omega)]
  · refine (times_no2 ah al bh bl h1 h2 h3 h4 x1 x0 y1 y0 z1 z0 px py pz hn ky w).mono ?_
    rintro e w' ⟨rfl, hB⟩
    refine ⟨?_, hB⟩
    rw [if_neg (by omega)]

theorem times_any (a b : Nat) (ha : a < 340282366920938463463374607431768211456) (hb : b < 340282366920938463463374607431768211456) (w : World) :
    Calls Tryd.prog 77 #[wv a, wv b] w fun e w' => e = (if a * b < 340282366920938463463374607431768211456 then .returned (wv (a * b)) else .panicked ovf) ∧ Below w.heap.size w w' := by
  obtain ⟨ah, al, e1, e2, h1, h2, ea⟩ := two_halves a ha
  obtain ⟨bh, bl, e3, e4, h3, h4, eb⟩ := two_halves b hb
  subst ea eb
  rw [wv_of ah al h2, wv_of bh bl h4]
  have em := mul_parts ah al bh bl
  by_cases hz : ah = 0 ∨ bh = 0
  · have hn : ((ah : Int) == 0) = true ∨ ((ah : Int) == 0) = false ∧ ((bh : Int) == 0) = true := by
      by_cases h : ah = 0
      · exact Or.inl (by rw [beq_iff_eq]; omega)
      · exact Or.inr ⟨by rw [beq_eq_false_iff_ne]; omega, by rw [beq_iff_eq]; omega⟩
    have h0 : ah * bh = 0 := by rcases hz with rfl | rfl <;> simp
    rw [h0, Nat.zero_mul, Nat.zero_add] at em
    rw [em]
    exact times_xyz ah al bh bl h1 h2 h3 h4 _ _ _ rfl rfl rfl hn w
  · refine (times_no1 ah al bh bl (by omega) (by omega) w).mono ?_
    rintro e w' ⟨rfl, hB⟩
    refine ⟨?_, hB⟩
    have h1 : 1 ≤ ah * bh := Nat.mul_pos (by omega) (by omega)
    have hs : ¬ (ah * 18446744073709551616 + al) * (bh * 18446744073709551616 + bl) < 340282366920938463463374607431768211456 := by
      rw [em]; exact over_max h1
    rw [if_neg hs]
end Go.Proofs.YtdmfhlfhlflakaaDoor
