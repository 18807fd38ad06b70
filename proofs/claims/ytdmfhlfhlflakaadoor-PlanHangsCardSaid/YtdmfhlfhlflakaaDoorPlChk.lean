/-
  plan.Check, covers, least, size, Size, orders, walked.
-/
import Derived.Test.YtdmfhlfhlflakaaDoorPlHyp
namespace Go.Proofs.YtdmfhlfhlflakaaDoor
open Go.RowKit
set_option linter.unusedVariables false

def badB (hi n : Int) : Bool := decide (n < 0) || decide (hi < n)
theorem badSize_any (n : Int) (w : World) : Calls Tryd.prog 55 #[.int .i64 n] w fun e w' => e = .returned (.bool (badB 1048576 n)) ∧ w' = w := by
  unfold badB
  by_cases h1 : n < 0
  · have k1 : decide (n < 0) = true := decide_eq_true h1
    rw [k1]
    go_enter Tryd.func55, Tryd.ntmps55
    go_wp2
    go_ret
    exact ⟨rfl, rfl⟩
  · have k1 : decide (n < 0) = false := decide_eq_false h1
    by_cases h2 : 1048576 < n
    · have k2 : decide (1048576 < n) = true := decide_eq_true h2
      rw [k1, k2]
      go_enter Tryd.func55, Tryd.ntmps55
      go_wp2
      go_ret
      exact ⟨rfl, rfl⟩
    · have k2 : decide (1048576 < n) = false := decide_eq_false h2
      rw [k1, k2]
      go_enter Tryd.func55, Tryd.ntmps55
      go_wp2
      go_ret
      exact ⟨rfl, rfl⟩
theorem badWeight_any (n : Int) (w : World) : Calls Tryd.prog 93 #[.int .i64 n] w fun e w' => e = .returned (.bool (badB 16 n)) ∧ w' = w := by
  unfold badB
  by_cases h1 : n < 0
  · have k1 : decide (n < 0) = true := decide_eq_true h1
    rw [k1]
    go_enter Tryd.func93, Tryd.ntmps93
    go_wp2
    go_ret
    exact ⟨rfl, rfl⟩
  · have k1 : decide (n < 0) = false := decide_eq_false h1
    by_cases h2 : 16 < n
    · have k2 : decide (16 < n) = true := decide_eq_true h2
      rw [k1, k2]
      go_enter Tryd.func93, Tryd.ntmps93
      go_wp2
      go_ret
      exact ⟨rfl, rfl⟩
    · have k2 : decide (16 < n) = false := decide_eq_false h2
      rw [k1, k2]
      go_enter Tryd.func93, Tryd.ntmps93
      go_wp2
      go_ret
      exact ⟨rfl, rfl⟩

/-- May a shape be? -/
def shpB (S : Shp) : Bool := hypB S.many S.edges && decide (S.sizes.length = S.edges.length) && !(S.sizes.any (badB 1048576))
set_option maxRecDepth 100000 in
set_option maxHeartbeats 1000000 in
theorem Check_any (S : Shp) (ev sv : Value) (w : World) (h : ShR w ev sv S) :
    Calls Tryd.prog 18 #[shpV S.many ev sv] w fun e w' => e = .returned (.int .i64 (if shpB S = true then 0 else 320)) ∧ Below w.heap.size w w' := by
  obtain ⟨m, ls, zs⟩ := S
  have he := h.edges
  have hs := h.sizes
  simp only at he hs
  have hH := hyperCheck_any m ev ls (w.alloc (.cells #[.int .i64 m, ev, sv] 27)) (he.later (later_alloc _ _))
  have hE : Enters 55 := enters_of Tryd.func55 (by kernel_rfl) rfl
  have hA : ∀ W, Below (w.alloc (.cells #[.int .i64 m, ev, sv] 27)).heap.size (w.alloc (.cells #[.int .i64 m, ev, sv] 27)) W → Calls Tryd.prog 46 #[sv, .func (.func 55) #[] #[]] W fun e w' => e = .returned (.bool (zs.any (badB 1048576))) ∧ Below W.heap.size W w' :=
    fun W hb => ContainsFunc_any hE ((hs.alloc _).later hb) fun x hx W' hb' => (badSize_any x W').mono fun e w' ⟨h1, h2⟩ => ⟨h1, by rw [h2]; exact Below.refl _ _⟩
  have HH := Lib.hid hH
  have HA := Lib.hid hA
  have hl := he.len
  have hl2 := hs.len
  unfold maxLen at hl2
  obtain ⟨ae, ce, rfl, -⟩ := he.open
  obtain ⟨az, cz, rfl, -⟩ := hs.open
  unfold shpB
  simp only
  clear h he hs hH hA hE
  by_cases h1 : hypB m ls = true
  · rw [if_pos h1] at HH
    rw [h1, Bool.true_and]
    clear h1
    by_cases h2 : zs.length = ls.length
    · have hlen : ((zs.length : Int) != ls.length) = false := by rw [h2]; simp
      rw [decide_eq_true h2, Bool.true_and]
      clear h2
      by_cases h3 : zs.any (badB 1048576) = true
      · simp only [h3] at HA
        rw [h3, if_neg (by decide)]
        clear h3
        go_enter Tryd.func18, Tryd.ntmps18
        go_wp2_with fail
        refine HH.out.mono ?_
        rintro e w1 ⟨rfl, hb1⟩
        have b1 := new_kept hb1
        have c0 := box_cell (i := 0) b1
        have c1 := box_cell (i := 1) b1
        have c2 := box_cell (i := 2) b1
        simp at c0 c1 c2
        have HB1 := Lib.hid hb1
        clear hb1 b1
        go_wp2_with fail
        refine (HA.out _ HB1.out).mono ?_
        rintro e w2 ⟨rfl, hb2⟩
        go_wp2_with fail
        go_ret
        exact ⟨rfl, below_new (later_trans HB1.out hb2)⟩
      · have h3 := Bool.eq_false_iff.2 h3
        simp only [h3] at HA
        rw [h3, if_pos (by decide)]
        clear h3
        go_enter Tryd.func18, Tryd.ntmps18
        go_wp2_with fail
        refine HH.out.mono ?_
        rintro e w1 ⟨rfl, hb1⟩
        have b1 := new_kept hb1
        have c0 := box_cell (i := 0) b1
        have c1 := box_cell (i := 1) b1
        have c2 := box_cell (i := 2) b1
        simp at c0 c1 c2
        have HB1 := Lib.hid hb1
        clear hb1 b1
        go_wp2_with fail
        refine (HA.out _ HB1.out).mono ?_
        rintro e w2 ⟨rfl, hb2⟩
        go_wp2_with fail
        go_ret
        exact ⟨rfl, below_new (later_trans HB1.out hb2)⟩
    · have hlen : ((zs.length : Int) != ls.length) = true := by simp; omega
      rw [decide_eq_false h2, Bool.false_and, if_neg (by decide)]
      clear h2
      go_enter Tryd.func18, Tryd.ntmps18
      go_wp2_with fail
      refine HH.out.mono ?_
      rintro e w1 ⟨rfl, hb1⟩
      have b1 := new_kept hb1
      have c0 := box_cell (i := 0) b1
      have c1 := box_cell (i := 1) b1
      have c2 := box_cell (i := 2) b1
      simp at c0 c1 c2
      have HB1 := Lib.hid hb1
      clear hb1 b1
      go_wp2_with fail
      go_ret
      exact ⟨rfl, below_new HB1.out⟩
  · rw [if_neg h1] at HH
    rw [Bool.eq_false_iff.2 h1, Bool.false_and, Bool.false_and, if_neg (by decide)]
    clear h1
    go_enter Tryd.func18, Tryd.ntmps18
    go_wp2_with fail
    refine HH.out.mono ?_
    rintro e w1 ⟨rfl, hb1⟩
    go_wp2_with fail
    go_ret
    exact ⟨rfl, below_new hb1⟩
end Go.Proofs.YtdmfhlfhlflakaaDoor
