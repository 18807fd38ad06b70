/-
  wide: need, plus, times, walked. A wide number is a number below 2^128.
-/
import Derived.Handy
import Derived.Laws.ResultCell
import Derived.Test.YtdmfhlfhlflakaaDoorWiMul
namespace Go.Proofs.YtdmfhlfhlflakaaDoor
open Go.RowKit Go.Lib
set_option linter.unusedVariables false

def wv (n : Nat) : Value := .agg #[.int .u64 ((n / 18446744073709551616 : Nat) : Int), .int .u64 ((n % 18446744073709551616 : Nat) : Int)]
def ovf : List PanicEntry := [{ v := .iface 36 (.int .i64 110), recovered := false }]

theorem need_yes (w : World) : Calls Tryd.prog 81 #[.bool true] w fun e w' => e = .returned (.tuple #[]) ∧ w' = w := by
  go_enter Tryd.func81, Tryd.ntmps81
  go_wp2
  go_end0
  exact ⟨rfl, rfl⟩
theorem need_no (w : World) : Calls Tryd.prog 81 #[.bool false] w fun e w' => e = .panicked ovf ∧ w' = w := by
  go_enter Tryd.func81, Tryd.ntmps81
  go_wp2
  simp [bodyPost, ovf]

theorem two_halves (a : Nat) (h : a < 340282366920938463463374607431768211456) : ∃ ah al, a / 18446744073709551616 = ah ∧ a % 18446744073709551616 = al ∧ ah < 18446744073709551616 ∧ al < 18446744073709551616 ∧ a = ah * 18446744073709551616 + al :=
  ⟨_, _, rfl, rfl, by omega, by omega, by omega⟩
theorem lt_max {h l : Nat} (h1 : h < 18446744073709551616) (h2 : l < 18446744073709551616) : h * 18446744073709551616 + l < 340282366920938463463374607431768211456 := by omega
theorem wv_of (h l : Nat) (hl : l < 18446744073709551616) : wv (h * 18446744073709551616 + l) = .agg #[.int .u64 (h : Int), .int .u64 (l : Int)] := by
  unfold wv
  have e1 : (h * 18446744073709551616 + l) / 18446744073709551616 = h := by omega
  have e2 : (h * 18446744073709551616 + l) % 18446744073709551616 = l := by omega
  rw [e1, e2]
set_option maxRecDepth 100000 in
set_option maxHeartbeats 2000000 in
theorem plus_parts (ah al bh bl : Nat) (h1 : ah < 18446744073709551616) (h2 : al < 18446744073709551616) (h3 : bh < 18446744073709551616) (h4 : bl < 18446744073709551616)
    (lo c1 hi c2 : Nat) (hc : c1 ≤ 1) (j1 : (al + bl + 0) % 18446744073709551616 = lo ∧ (al + bl + 0) / 18446744073709551616 = c1) (j2 : (ah + bh + c1) % 18446744073709551616 = hi ∧ (ah + bh + c1) / 18446744073709551616 = c2) (w : World) :
    Calls Tryd.prog 95 #[.agg #[.int .u64 ah, .int .u64 al], .agg #[.int .u64 bh, .int .u64 bl]] w fun e w' => e = (if c2 = 0 then .returned (.agg #[.int .u64 hi, .int .u64 lo]) else .panicked ovf) ∧ Below w.heap.size w w' := by
  have k1 := fun w => add64_run al bl 0 (by omega) w
  have k2 := fun w => add64_run ah bh c1 hc w
  rw [j1.1, j1.2, show ((0 : Nat) : Int) = 0 from rfl] at k1
  rw [j2.1, j2.2] at k2
  go_enter Tryd.func95, Tryd.ntmps95
  by_cases hz : c2 = 0
  · subst hz
    have hd : (((0 : Nat) : Int) == 0) = true := rfl
    rw [if_pos rfl]
    have hY := need_yes
    go_wp2_with (go_at_call 81; refine (hY _).mono ?_; rintro e w' ⟨rfl, rfl⟩)
    go_returns
    exact ⟨rfl, by go_grown⟩
  · have hd : ((c2 : Int) == 0) = false := by rw [beq_eq_false_iff_ne]; omega
    rw [if_neg hz]
    have hY := need_no
    go_wp2_with (go_at_call 81; refine (hY _).mono ?_; rintro e w' ⟨rfl, rfl⟩)
    simp [bodyPost]
    go_grown

theorem plus_any (a b : Nat) (ha : a < 340282366920938463463374607431768211456) (hb : b < 340282366920938463463374607431768211456) (w : World) :
    Calls Tryd.prog 95 #[wv a, wv b] w fun e w' => e = (if a + b < 340282366920938463463374607431768211456 then .returned (wv (a + b)) else .panicked ovf) ∧ Below w.heap.size w w' := by
  obtain ⟨ah, al, e1, e2, h1, h2, ea⟩ := two_halves a ha
  obtain ⟨bh, bl, e3, e4, h3, h4, eb⟩ := two_halves b hb
  subst ea eb
  rw [wv_of ah al h2, wv_of bh bl h4]
  refine (plus_parts ah al bh bl h1 h2 h3 h4 _ _ _ _ (by omega) ⟨rfl, rfl⟩ ⟨rfl, rfl⟩ w).mono ?_
  rintro e w' ⟨rfl, hb⟩
  refine ⟨?_, hb⟩
  generalize hlo : (al + bl + 0) % 18446744073709551616 = lo
  generalize hc1 : (al + bl + 0) / 18446744073709551616 = c1
  generalize hhi : (ah + bh + c1) % 18446744073709551616 = hi
  generalize hc2 : (ah + bh + c1) / 18446744073709551616 = c2
  by_cases h : c2 = 0
  · have e : ah * 18446744073709551616 + al + (bh * 18446744073709551616 + bl) = hi * 18446744073709551616 + lo := by omega
    have hl : lo < 18446744073709551616 := by omega
    have hs : hi * 18446744073709551616 + lo < 340282366920938463463374607431768211456 := lt_max (by omega) hl
    rw [if_pos h, e, if_pos hs, wv_of hi lo hl]
  · have hs : ¬ ah * 18446744073709551616 + al + (bh * 18446744073709551616 + bl) < 340282366920938463463374607431768211456 := by omega
    rw [if_neg h, if_neg hs]
end Go.Proofs.YtdmfhlfhlflakaaDoor
