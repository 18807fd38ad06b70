/-
  wide.Add, Mul, Sub, walked. (Mul's text is Add's, turned by mkwiops.py.)
-/
import Derived.Test.YtdmfhlfhlflakaaDoorWiOps
namespace Go.Proofs.YtdmfhlfhlflakaaDoor
open Go.RowKit Go.Lib Go.Shelf
set_option linter.unusedVariables false

theorem wres_open (n : Nat) : ∃ h l e : Int, wres n = .tuple #[.agg #[.int .u64 h, .int .u64 l], .int .i64 e] := by
  unfold wres wv
  split
  · exact ⟨_, _, _, rfl⟩
  · exact ⟨_, _, _, rfl⟩

theorem checked_any {F : Nat} {caps : Array Value} {w : World} {n : Nat} {P : World → Prop} (hF : Enters F)
    (hM : Calls Tryd.prog F caps (chkW w) fun e w2 => e = (if n < 340282366920938463463374607431768211456 then .returned (wv n) else .panicked ovf) ∧ P w2 ∧ ChkKept w w2) :
    Calls Tryd.prog 75 #[.func (.func F) #[] caps] w fun e w' => e = .returned (wres n) ∧ ∃ w2, P w2 ∧ Below w.heap.size w2 w' := by
  unfold wres
  by_cases h : n < 340282366920938463463374607431768211456
  · rw [if_pos h] at hM ⊢
    exact checked_ok hF hM
  · rw [if_neg h] at hM ⊢
    exact checked_no hF hM
theorem checked_res {F : Nat} {caps : Array Value} {w : World} {n : Nat} (hF : Enters F)
    (hM : Calls Tryd.prog F caps (chkW w) fun e w2 => e = (if n < 340282366920938463463374607431768211456 then .returned (wv n) else .panicked ovf) ∧ Below (chkW w).heap.size (chkW w) w2) :
    Calls Tryd.prog 75 #[.func (.func F) #[] caps] w fun e w' => e = .returned (wres n) ∧ Below w.heap.size w w' := by
  refine (checked_any (P := fun w2 => Below (chkW w).heap.size (chkW w) w2) hF (hM.mono fun e w2 h => ⟨h.1, h.2, ChkKept.of h.2⟩)).mono ?_
  rintro e w' ⟨rfl, w2, h1, h2⟩
  exact ⟨rfl, (later_trans (chkW_below w) h1).trans h2⟩

set_option maxRecDepth 100000 in
set_option maxHeartbeats 1000000 in
theorem Add_any (a b : Nat) (ha : a < 340282366920938463463374607431768211456) (hb : b < 340282366920938463463374607431768211456) (w : World) :
    Calls Tryd.prog 51 #[wv a, wv b] w fun e w' => e = .returned (wres (a + b)) ∧ Below w.heap.size w w' := by
  have hE : Enters 94 := enters_of Tryd.func94 (by kernel_rfl) rfl
  have hC : ∀ W x y, WB W x a → WB W y b → Calls Tryd.prog 75 #[.func (.func 94) #[] #[.pointer (some ⟨x, 0, none⟩), .pointer (some ⟨y, 0, none⟩)]] W fun e w' => e = .returned (wres (a + b)) ∧ Below W.heap.size W w' :=
    fun W x y hx hy => checked_res hE (add1_any ha hb (hx.later (chkW_below W)) (hy.later (chkW_below W)))
  obtain ⟨h, l, e, hr⟩ := wres_open (a + b)
  rw [hr] at hC ⊢
  unfold WB at hC
  unfold wv
  generalize a / 18446744073709551616 = ah at *
  generalize a % 18446744073709551616 = al at *
  generalize b / 18446744073709551616 = bh at *
  generalize b % 18446744073709551616 = bl at *
  have HC := Lib.hid hC
  clear hr ha hb hE hC
  go_enter Tryd.func51, Tryd.ntmps51
  go_wp2_with fail
  refine (HC.out _ _ _ ?_ ?_).mono ?_
  · exact box_alloc (box_alloc (box_new w _ _) _) _
  · have h := box_new (w.alloc (.cells #[.int .u64 (ah : Int), .int .u64 (al : Int)] 35)) #[.int .u64 (bh : Int), .int .u64 (bl : Int)] 35
    rw [World.size_alloc] at h
    exact box_alloc h _
  rintro e w1 ⟨rfl, hb1⟩
  obtain ⟨n0, n1, f0, f1, ln⟩ := new2 hb1
  have HB := Lib.hid (later_trans (later_alloc w _) (later_trans (later_alloc _ _) (below_new hb1)))
  rw [World.size_alloc, World.size_alloc] at n0 n1 f0 f1 ln
  clear hb1
  go_wp2_with fail
  refine bodyPost_ret (v := .tuple #[.agg #[.int .u64 h, .int .u64 l], .int .i64 e]) (by simp [results, Tryd.results51, go_sem, n0, n1]) rfl ?_
  exact ⟨rfl, below_set (below_set HB.out (by omega)) (by omega)⟩

set_option maxRecDepth 100000 in
set_option maxHeartbeats 1000000 in
theorem mul1_any {x y a b : Nat} {w : World} (ha : a < 340282366920938463463374607431768211456) (hb : b < 340282366920938463463374607431768211456) (hx : WB w x a) (hy : WB w y b) :
    Calls Tryd.prog 78 #[.pointer (some ⟨x, 0, none⟩), .pointer (some ⟨y, 0, none⟩)] w fun e w' => e = (if a * b < 340282366920938463463374607431768211456 then .returned (wv (a * b)) else .panicked ovf) ∧ Below w.heap.size w w' := by
  obtain ⟨c0, c1⟩ := wb_cells hx
  obtain ⟨d0, d1⟩ := wb_cells hy
  have hP := fun w => times_any a b ha hb w
  unfold wv at hP
  have lx := lt_of_block hx
  have ly := lt_of_block hy
  clear hx hy
  by_cases hs : a * b < 340282366920938463463374607431768211456
  · rw [if_pos hs]
    simp only [if_pos hs] at hP
    unfold wv
    generalize (a * b) / 18446744073709551616 = sh at hP ⊢
    generalize (a * b) % 18446744073709551616 = sl at hP ⊢
    generalize a / 18446744073709551616 = ah at *
    generalize a % 18446744073709551616 = al at *
    generalize b / 18446744073709551616 = bh at *
    generalize b % 18446744073709551616 = bl at *
    clear hs ha hb
    go_enter Tryd.func78, Tryd.ntmps78
    go_wp2_with fail
    refine (hP _).mono ?_
    rintro e w1 ⟨rfl, hb1⟩
    obtain ⟨n0, n1, f0, f1, ln⟩ := new2 hb1
    have HB := Lib.hid hb1
    clear hb1
    go_wp2_with fail
    refine bodyPost_ret (v := .agg #[.int .u64 sh, .int .u64 sl]) (by simp [results, Tryd.results78, go_sem, n0, n1]) rfl ?_
    exact ⟨rfl, (((below_new HB.out).setCell (p := ⟨w.heap.size, 0, none⟩) (Nat.le_refl _) _).setCell (p := ⟨w.heap.size, 1, none⟩) (Nat.le_refl _) _)⟩
  · rw [if_neg hs]
    simp only [if_neg hs] at hP
    generalize a / 18446744073709551616 = ah at *
    generalize a % 18446744073709551616 = al at *
    generalize b / 18446744073709551616 = bh at *
    generalize b % 18446744073709551616 = bl at *
    clear hs ha hb
    go_enter Tryd.func78, Tryd.ntmps78
    go_wp2_with fail
    refine (hP _).mono ?_
    rintro e w1 ⟨rfl, hb1⟩
    have HB := Lib.hid hb1
    clear hb1
    go_wp2_with fail
    show bodyPost Tryd.prog _ _ (Exit.panic ovf) _ _
    simp [bodyPost]
    exact below_new HB.out

set_option maxRecDepth 100000 in
set_option maxHeartbeats 1000000 in
theorem Mul_any (a b : Nat) (ha : a < 340282366920938463463374607431768211456) (hb : b < 340282366920938463463374607431768211456) (w : World) :
    Calls Tryd.prog 34 #[wv a, wv b] w fun e w' => e = .returned (wres (a * b)) ∧ Below w.heap.size w w' := by
  have hE : Enters 78 := enters_of Tryd.func78 (by kernel_rfl) rfl
  have hC : ∀ W x y, WB W x a → WB W y b → Calls Tryd.prog 75 #[.func (.func 78) #[] #[.pointer (some ⟨x, 0, none⟩), .pointer (some ⟨y, 0, none⟩)]] W fun e w' => e = .returned (wres (a * b)) ∧ Below W.heap.size W w' :=
    fun W x y hx hy => checked_res hE (mul1_any ha hb (hx.later (chkW_below W)) (hy.later (chkW_below W)))
  obtain ⟨h, l, e, hr⟩ := wres_open (a * b)
  rw [hr] at hC ⊢
  unfold WB at hC
  unfold wv
  generalize a / 18446744073709551616 = ah at *
  generalize a % 18446744073709551616 = al at *
  generalize b / 18446744073709551616 = bh at *
  generalize b % 18446744073709551616 = bl at *
  have HC := Lib.hid hC
  clear hr ha hb hE hC
  go_enter Tryd.func34, Tryd.ntmps34
  go_wp2_with fail
  refine (HC.out _ _ _ ?_ ?_).mono ?_
  · exact box_alloc (box_alloc (box_new w _ _) _) _
  · have h := box_new (w.alloc (.cells #[.int .u64 (ah : Int), .int .u64 (al : Int)] 35)) #[.int .u64 (bh : Int), .int .u64 (bl : Int)] 35
    rw [World.size_alloc] at h
    exact box_alloc h _
  rintro e w1 ⟨rfl, hb1⟩
  obtain ⟨n0, n1, f0, f1, ln⟩ := new2 hb1
  have HB := Lib.hid (later_trans (later_alloc w _) (later_trans (later_alloc _ _) (below_new hb1)))
  rw [World.size_alloc, World.size_alloc] at n0 n1 f0 f1 ln
  clear hb1
  go_wp2_with fail
  refine bodyPost_ret (v := .tuple #[.agg #[.int .u64 h, .int .u64 l], .int .i64 e]) (by simp [results, Tryd.results34, go_sem, n0, n1]) rfl ?_
  exact ⟨rfl, below_set (below_set HB.out (by omega)) (by omega)⟩

/-- A difference; too great, where there is none. -/
def subN (a b : Nat) : Nat := if b ≤ a then a - b else 340282366920938463463374607431768211456
theorem sub_parts (ah al bh bl : Nat) (h1 : ah < 18446744073709551616) (h2 : al < 18446744073709551616) (h3 : bh < 18446744073709551616) (h4 : bl < 18446744073709551616) (lo c1 hi c2 : Nat)
    (e1 : (al + 18446744073709551616 - bl - 0) % 18446744073709551616 = lo) (e2 : (if al < bl + 0 then 1 else 0) = c1) (e3 : (ah + 18446744073709551616 - bh - c1) % 18446744073709551616 = hi) (e4 : (if ah < bh + c1 then 1 else 0) = c2) :
    (c2 = 0 → bh * 18446744073709551616 + bl ≤ ah * 18446744073709551616 + al ∧ ah * 18446744073709551616 + al - (bh * 18446744073709551616 + bl) = hi * 18446744073709551616 + lo ∧ lo < 18446744073709551616 ∧ hi < 18446744073709551616) ∧
    (c2 ≠ 0 → ah * 18446744073709551616 + al < bh * 18446744073709551616 + bl) := by
  by_cases k1 : al < bl + 0
  · rw [if_pos k1] at e2
    subst e2
    by_cases k2 : ah < bh + 1
    · rw [if_pos k2] at e4
      subst e4
      exact ⟨fun h => absurd h (by decide), fun _ => by omega⟩
    · rw [if_neg k2] at e4
      subst e4
      exact ⟨fun _ => by omega, fun h => absurd rfl h⟩
  · rw [if_neg k1] at e2
    subst e2
    by_cases k2 : ah < bh + 0
    · rw [if_pos k2] at e4
      subst e4
      exact ⟨fun h => absurd h (by decide), fun _ => by omega⟩
    · rw [if_neg k2] at e4
      subst e4
      exact ⟨fun _ => by omega, fun h => absurd rfl h⟩

set_option maxRecDepth 100000 in
set_option maxHeartbeats 1000000 in
theorem sub1_walk {x y ah al bh bl lo c1 hi c2 : Nat} {w : World} (hx : w.heap[x]? = some (.cells #[.int .u64 ah, .int .u64 al] 35 (0, 0))) (hy : w.heap[y]? = some (.cells #[.int .u64 bh, .int .u64 bl] 35 (0, 0)))
    (k1 : ∀ w, (callFunc 80 #[.int .u64 al, .int .u64 bl, .int .u64 0]).run Tryd.prog w = .ok (.value (.tuple #[.int .u64 lo, .int .u64 c1])) w)
    (k2 : ∀ w, (callFunc 80 #[.int .u64 ah, .int .u64 bh, .int .u64 c1]).run Tryd.prog w = .ok (.value (.tuple #[.int .u64 hi, .int .u64 c2])) w) :
    Calls Tryd.prog 79 #[.pointer (some ⟨x, 0, none⟩), .pointer (some ⟨y, 0, none⟩)] w fun e w' => e = (if c2 = 0 then .returned (.agg #[.int .u64 hi, .int .u64 lo]) else .panicked ovf) ∧ Below w.heap.size w w' := by
  have c0 : w.cell? ⟨x, 0, none⟩ = some (.int .u64 ah) := by simpa using box_cell (i := 0) hx
  have c1' : w.cell? ⟨x, 1, none⟩ = some (.int .u64 al) := by simpa using box_cell (i := 1) hx
  have d0 : w.cell? ⟨y, 0, none⟩ = some (.int .u64 bh) := by simpa using box_cell (i := 0) hy
  have d1 : w.cell? ⟨y, 1, none⟩ = some (.int .u64 bl) := by simpa using box_cell (i := 1) hy
  have lx := lt_of_block hx
  have ly := lt_of_block hy
  clear hx hy
  by_cases hz : c2 = 0
  · subst hz
    rw [if_pos rfl]
    have hd : (((0 : Nat) : Int) == 0) = true := rfl
    have hY := need_yes
    go_enter Tryd.func79, Tryd.ntmps79
    go_wp2_with fail
    refine (hY _).mono ?_
    rintro e w1 ⟨rfl, rfl⟩
    go_wp2_with fail
    go_returns
    exact ⟨rfl, by go_grown⟩
  · rw [if_neg hz]
    have hd : ((c2 : Int) == 0) = false := by rw [beq_eq_false_iff_ne]; omega
    have hN := need_no
    go_enter Tryd.func79, Tryd.ntmps79
    go_wp2_with fail
    refine (hN _).mono ?_
    rintro e w1 ⟨rfl, rfl⟩
    show bodyPost Tryd.prog _ _ (Exit.panic ovf) _ _
    simp [bodyPost]
    go_grown

theorem sub1_any {x y a b : Nat} {w : World} (ha : a < 340282366920938463463374607431768211456) (hb : b < 340282366920938463463374607431768211456) (hx : WB w x a) (hy : WB w y b) :
    Calls Tryd.prog 79 #[.pointer (some ⟨x, 0, none⟩), .pointer (some ⟨y, 0, none⟩)] w fun e w' => e = (if subN a b < 340282366920938463463374607431768211456 then .returned (wv (subN a b)) else .panicked ovf) ∧ Below w.heap.size w w' := by
  unfold WB at hx hy
  obtain ⟨ah, al, e1, e2, h1, h2, ea⟩ := two_halves a ha
  obtain ⟨bh, bl, e3, e4, h3, h4, eb⟩ := two_halves b hb
  rw [e1, e2] at hx
  rw [e3, e4] at hy
  have k1 := fun w => sub64_run al bl 0 (by omega) w
  obtain ⟨lo, j1⟩ : ∃ lo, (al + 18446744073709551616 - bl - 0) % 18446744073709551616 = lo := ⟨_, rfl⟩
  obtain ⟨c1, j2⟩ : ∃ c1, (if al < bl + 0 then 1 else 0) = c1 := ⟨_, rfl⟩
  have hc1 : c1 ≤ 1 := by rw [← j2]; split <;> omega
  have k2 := fun w => sub64_run ah bh c1 hc1 w
  obtain ⟨hi, j3⟩ : ∃ hi, (ah + 18446744073709551616 - bh - c1) % 18446744073709551616 = hi := ⟨_, rfl⟩
  obtain ⟨c2, j4⟩ : ∃ c2, (if ah < bh + c1 then 1 else 0) = c2 := ⟨_, rfl⟩
  simp only [j1, j2] at k1
  simp only [j3, j4] at k2
  obtain ⟨p1, p2⟩ := sub_parts ah al bh bl h1 h2 h3 h4 lo c1 hi c2 j1 j2 j3 j4
  refine (sub1_walk hx hy k1 k2).mono ?_
  rintro e w' ⟨rfl, hB⟩
  refine ⟨?_, hB⟩
  unfold subN
  clear e1 e2 e3 e4 j1 j2 j3 j4 k1 k2
  subst ea eb
  by_cases h : c2 = 0
  · obtain ⟨q1, q2, q3, q4⟩ := p1 h
    rw [if_pos h, if_pos q1, q2, if_pos (lt_max q4 q3), wv_of _ _ q3]
  · have q := p2 h
    rw [if_neg h, if_neg (show ¬ bh * 18446744073709551616 + bl ≤ ah * 18446744073709551616 + al from Nat.not_le.2 q), if_neg (Nat.lt_irrefl _)]

set_option maxRecDepth 100000 in
set_option maxHeartbeats 1000000 in
theorem Sub_any (a b : Nat) (ha : a < 340282366920938463463374607431768211456) (hb : b < 340282366920938463463374607431768211456) (w : World) :
    Calls Tryd.prog 35 #[wv a, wv b] w fun e w' => e = .returned (wres (subN a b)) ∧ Below w.heap.size w w' := by
  have hE : Enters 79 := enters_of Tryd.func79 (by kernel_rfl) rfl
  have hC : ∀ W x y, WB W x a → WB W y b → Calls Tryd.prog 75 #[.func (.func 79) #[] #[.pointer (some ⟨x, 0, none⟩), .pointer (some ⟨y, 0, none⟩)]] W fun e w' => e = .returned (wres (subN a b)) ∧ Below W.heap.size W w' :=
    fun W x y hx hy => checked_res hE (sub1_any ha hb (hx.later (chkW_below W)) (hy.later (chkW_below W)))
  obtain ⟨h, l, e, hr⟩ := wres_open (subN a b)
  rw [hr] at hC ⊢
  unfold WB at hC
  unfold wv
  generalize a / 18446744073709551616 = ah at *
  generalize a % 18446744073709551616 = al at *
  generalize b / 18446744073709551616 = bh at *
  generalize b % 18446744073709551616 = bl at *
  have HC := Lib.hid hC
  clear hr ha hb hE hC
  go_enter Tryd.func35, Tryd.ntmps35
  go_wp2_with fail
  refine (HC.out _ _ _ ?_ ?_).mono ?_
  · exact box_alloc (box_alloc (box_new w _ _) _) _
  · have h := box_new (w.alloc (.cells #[.int .u64 (ah : Int), .int .u64 (al : Int)] 35)) #[.int .u64 (bh : Int), .int .u64 (bl : Int)] 35
    rw [World.size_alloc] at h
    exact box_alloc h _
  rintro e w1 ⟨rfl, hb1⟩
  obtain ⟨n0, n1, f0, f1, ln⟩ := new2 hb1
  have HB := Lib.hid (later_trans (later_alloc w _) (later_trans (later_alloc _ _) (below_new hb1)))
  rw [World.size_alloc, World.size_alloc] at n0 n1 f0 f1 ln
  clear hb1
  go_wp2_with fail
  refine bodyPost_ret (v := .tuple #[.agg #[.int .u64 h, .int .u64 l], .int .i64 e]) (by simp [results, Tryd.results35, go_sem, n0, n1]) rfl ?_
  exact ⟨rfl, below_set (below_set HB.out (by omega)) (by omega)⟩
end Go.Proofs.YtdmfhlfhlflakaaDoor
