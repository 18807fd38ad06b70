/-
  hyper.Check, walked.
-/
import Derived.Test.YtdmfhlfhlflakaaDoorPlIdx2
namespace Go.Proofs.YtdmfhlfhlflakaaDoor
open Go.RowKit
set_option linter.unusedVariables false

def sizesB (m n : Int) : Bool := decide (0 ≤ m) && decide (m ≤ 32) && decide (n ≤ 40)
theorem sizes_any (m n : Int) (w : World) : Calls Tryd.prog 96 #[.int .i64 m, .int .i64 n] w fun e w' => e = .returned (.bool (sizesB m n)) ∧ w' = w := by
  unfold sizesB
  by_cases h1 : 0 ≤ m
  · have k1 : decide (0 ≤ m) = true := decide_eq_true h1
    by_cases h2 : m ≤ 32
    · have k2 : decide (m ≤ 32) = true := decide_eq_true h2
      by_cases h3 : n ≤ 40
      · have k3 : decide (n ≤ 40) = true := decide_eq_true h3
        rw [k1, k2, k3]
        go_enter Tryd.func96, Tryd.ntmps96
        go_wp2
        go_ret
        exact ⟨rfl, rfl⟩
      · have k3 : decide (n ≤ 40) = false := decide_eq_false h3
        rw [k1, k2, k3]
        go_enter Tryd.func96, Tryd.ntmps96
        go_wp2
        go_ret
        exact ⟨rfl, rfl⟩
    · have k2 : decide (m ≤ 32) = false := decide_eq_false h2
      rw [k1, k2]
      go_enter Tryd.func96, Tryd.ntmps96
      go_wp2
      go_ret
      exact ⟨rfl, rfl⟩
  · have k1 : decide (0 ≤ m) = false := decide_eq_false h1
    rw [k1]
    go_enter Tryd.func96, Tryd.ntmps96
    go_wp2
    go_ret
    exact ⟨rfl, rfl⟩

theorem vertex_any {x : Nat} {m v : Int} {i : Value} {W : World} (h : W.heap[x]? = some (.cells #[.int .i64 m] 3 (0, 0))) :
    Calls Tryd.prog 118 #[i, .int .i64 v, .pointer (some ⟨x, 0, none⟩)] W fun e w' => e = .returned (.bool (decide (0 ≤ v) && decide (v < m))) ∧ w' = W := by
  have c0 : W.cell? ⟨x, 0, none⟩ = some (.int .i64 m) := by simpa using box_cell (i := 0) h
  clear h
  by_cases h1 : 0 ≤ v
  · have k1 : decide (0 ≤ v) = true := decide_eq_true h1
    by_cases h2 : v < m
    · have k2 : decide (v < m) = true := decide_eq_true h2
      rw [k1, k2]
      go_enter Tryd.func118, Tryd.ntmps118
      go_wp2
      go_ret
      exact ⟨rfl, rfl⟩
    · have k2 : decide (v < m) = false := decide_eq_false h2
      rw [k1, k2]
      go_enter Tryd.func118, Tryd.ntmps118
      go_wp2
      go_ret
      exact ⟨rfl, rfl⟩
  · have k1 : decide (0 ≤ v) = false := decide_eq_false h1
    rw [k1]
    go_enter Tryd.func118, Tryd.ntmps118
    go_wp2
    go_ret
    exact ⟨rfl, rfl⟩
def vertsB (m : Int) (e : List Int) : Bool := allI e fun _ v => decide (0 ≤ v) && decide (v < m)
theorem vertices_any (v : Value) (xs : List Int) (m : Int) (w : World) (h : SlI .i64 w v xs) :
    Calls Tryd.prog 99 #[v, .int .i64 m] w fun e w' => e = .returned (.bool (vertsB m xs)) ∧ Below w.heap.size w w' := by
  have hE : Enters 118 := enters_of Tryd.func118 (by kernel_rfl) rfl
  have hC : Calls Tryd.prog 100 #[v, .func (.func 118) #[] #[.pointer (some ⟨w.heap.size, 0, none⟩)]] (w.alloc (.cells #[.int .i64 m] 3)) fun e w' => e = .returned (.bool (vertsB m xs)) ∧ Below (w.alloc (.cells #[.int .i64 m] 3)).heap.size (w.alloc (.cells #[.int .i64 m] 3)) w' :=
    allI_any hE (h.alloc _) fun i hi W hb => (vertex_any (kept hb (box_new w _ _))).mono fun e w' ⟨he, hw⟩ => ⟨he, by rw [hw]; exact Below.refl _ _⟩
  have HC := Lib.hid hC
  obtain ⟨a, c, rfl, -⟩ := h.open
  clear h hC hE
  go_enter Tryd.func99, Tryd.ntmps99
  go_wp2_with fail
  refine HC.out.mono ?_
  rintro e w' ⟨rfl, hb⟩
  go_wp2_with fail
  go_ret
  exact ⟨rfl, below_new hb⟩

def riseI (e : List Int) (i : Nat) (v : Int) : Bool := decide (i = 0) || decide (e.getD (i - 1) 0 < v)
theorem rise1_any {x i : Nat} {v : Int} {ev : Value} {xs : List Int} {W : World} (h : W.heap[x]? = some (.cells #[ev] 25 (0, 0))) (hs : SlI .i64 W ev xs) (hi : i < xs.length) :
    Calls Tryd.prog 101 #[.int .i64 i, .int .i64 v, .pointer (some ⟨x, 0, none⟩)] W fun e w' => e = .returned (.bool (riseI xs i v)) ∧ w' = W := by
  have c0 : W.cell? ⟨x, 0, none⟩ = some ev := by simpa using box_cell (i := 0) h
  clear h
  obtain ⟨a, c, rfl, h1, h2, h3, h4⟩ := hs.open
  obtain ⟨b, o, rfl, hb, hc⟩ := h4 (by omega)
  unfold riseI
  cases i with
  | zero =>
    clear hs h3 h4 hc
    rw [decide_eq_true rfl]
    go_enter Tryd.func101, Tryd.ntmps101
    go_wp2
    go_ret
    exact ⟨rfl, rfl⟩
  | succ i =>
    have c1 := hc i (by omega)
    rw [← getD_at (by omega)] at c1
    have hm : i + 1 < xs.length := hi
    clear hs h3 h4 hc hi
    have hb1 : (((i + 1 : Nat) : Int) == 0) = false := by rw [beq_eq_false_iff_ne]; omega
    have hw : ((i + 1 : Nat) : Int) - 1 = (i : Int) := by omega
    have hi1 : (i : Int) < xs.length := by omega
    rw [decide_eq_false (by omega), Bool.false_or, Nat.add_sub_cancel]
    obtain ⟨y, hy⟩ : ∃ y, xs.getD i 0 = y := ⟨_, rfl⟩
    rw [hy] at c1 ⊢
    clear hy
    obtain ⟨k, hk⟩ : ∃ k : Int, ((i + 1 : Nat) : Int) = k := ⟨_, rfl⟩
    rw [hk] at hw hb1 ⊢
    have hk1 : 1 ≤ k := by omega
    have hk2 : k ≤ 9223372036854775807 := by omega
    clear hk
    go_enter Tryd.func101, Tryd.ntmps101
    go_wp2
    go_ret
    exact ⟨rfl, rfl⟩
def edgeB (m : Int) (e : List Int) : Bool := vertsB m e && allI e (riseI e)
set_option maxHeartbeats 400000 in
theorem edge_any {x : Nat} {m : Int} {hv ev i : Value} {xs : List Int} {W : World} (h : HB W x m hv) (hs : SlI .i64 W ev xs) :
    Calls Tryd.prog 98 #[i, ev, .pointer (some ⟨x, 0, none⟩)] W fun e w' => e = .returned (.bool (edgeB m xs)) ∧ Below W.heap.size W w' := by
  have c0 : W.cell? ⟨x, 0, none⟩ = some (.int .i64 m) := by simpa using box_cell (i := 0) h
  have lx := lt_of_block h
  have hE : Enters 101 := enters_of Tryd.func101 (by kernel_rfl) rfl
  have hV := vertices_any ev xs m (W.alloc (.cells #[ev] 25)) (hs.alloc _)
  have hA : ∀ W1, Below (W.alloc (.cells #[ev] 25)).heap.size (W.alloc (.cells #[ev] 25)) W1 → Calls Tryd.prog 100 #[ev, .func (.func 101) #[] #[.pointer (some ⟨W.heap.size, 0, none⟩)]] W1 fun e w' => e = .returned (.bool (allI xs (riseI xs))) ∧ Below W1.heap.size W1 w' := fun W1 hb1 =>
    allI_any hE ((hs.alloc _).later hb1) fun i hi W2 hb2 => (rise1_any (kept (later_trans hb1 hb2) (box_new W _ _)) ((hs.alloc _).later (later_trans hb1 hb2)) hi).mono fun e w' ⟨he, hw⟩ => ⟨he, by rw [hw]; exact Below.refl _ _⟩
  have HV := Lib.hid hV
  have HA := Lib.hid hA
  obtain ⟨a, c, rfl, -⟩ := hs.open
  unfold edgeB
  clear h hs hV hA hE
  by_cases h1 : vertsB m xs = true
  · rw [h1] at HV ⊢
    rw [Bool.true_and]
    go_enter Tryd.func98, Tryd.ntmps98
    go_wp2_with fail
    refine HV.out.mono ?_
    rintro e w1 ⟨rfl, hb1⟩
    have HB1 := Lib.hid hb1
    have c1 : w1.cell? ⟨W.heap.size, 0, none⟩ = some (.slice a xs.length c) := by simpa using box_cell (i := 0) (new_kept hb1)
    clear hb1
    go_wp2_with fail
    refine (HA.out _ HB1.out).mono ?_
    rintro e w2 ⟨rfl, hb2⟩
    go_wp2_with fail
    go_ret
    exact ⟨rfl, below_new (later_trans HB1.out hb2)⟩
  · have h1 := Bool.eq_false_iff.2 h1
    rw [h1] at HV ⊢
    rw [Bool.false_and]
    go_enter Tryd.func98, Tryd.ntmps98
    go_wp2_with fail
    refine HV.out.mono ?_
    rintro e w1 ⟨rfl, hb1⟩
    go_wp2_with fail
    go_ret
    exact ⟨rfl, below_new hb1⟩
/-- May a hypergraph be? -/
def hypB (m : Int) (ls : List (List Int)) : Bool := sizesB m ls.length && allR ls fun _ e => edgeB m e
set_option maxHeartbeats 400000 in
theorem hyperCheck_any (m : Int) (ev : Value) (ls : List (List Int)) (w : World) (h : SlRK .i64 w ev ls) :
    Calls Tryd.prog 56 #[hypV m ev] w fun e w' => e = .returned (.int .i64 (if hypB m ls = true then 0 else 300)) ∧ Below w.heap.size w w' := by
  have hE : Enters 98 := enters_of Tryd.func98 (by kernel_rfl) rfl
  have hl := h.len
  have hS := fun W => sizes_any m ls.length W
  have hA := allR_any (F := 98) (caps := #[.pointer (some ⟨w.heap.size, 0, none⟩)]) (p := fun _ e => edgeB m e) (w := w.alloc (.cells #[.int .i64 m, ev] 24)) hE (h.later (later_alloc _ _)) fun r hr rv W hb hrv => edge_any (kept hb (box_new w _ _)) hrv
  have HA := Lib.hid hA
  obtain ⟨a, c, rfl, -⟩ := h.open
  clear h hA hE
  unfold hypB
  by_cases h1 : sizesB m ls.length = true
  · simp only [h1] at hS
    rw [h1, Bool.true_and]
    by_cases h2 : (allR ls fun _ e => edgeB m e) = true
    · rw [h2] at HA
      rw [if_pos h2]
      clear h1 h2
      go_enter Tryd.func56, Tryd.ntmps56
      go_wp2_with fail
      refine (hS _).mono ?_
      rintro e w1 ⟨rfl, rfl⟩
      go_wp2_with fail
      refine HA.out.mono ?_
      rintro e w2 ⟨rfl, hb2⟩
      go_wp2_with fail
      go_ret
      exact ⟨rfl, below_new hb2⟩
    · have h2 := Bool.eq_false_iff.2 h2
      rw [h2] at HA
      rw [if_neg (by rw [h2]; decide)]
      clear h1 h2
      go_enter Tryd.func56, Tryd.ntmps56
      go_wp2_with fail
      refine (hS _).mono ?_
      rintro e w1 ⟨rfl, rfl⟩
      go_wp2_with fail
      refine HA.out.mono ?_
      rintro e w2 ⟨rfl, hb2⟩
      go_wp2_with fail
      go_ret
      exact ⟨rfl, below_new hb2⟩
  · have h1 := Bool.eq_false_iff.2 h1
    simp only [h1] at hS
    rw [h1, Bool.false_and, if_neg (by decide)]
    clear h1
    go_enter Tryd.func56, Tryd.ntmps56
    go_wp2_with fail
    refine (hS _).mono ?_
    rintro e w1 ⟨rfl, rfl⟩
    go_wp2_with fail
    go_ret
    exact ⟨rfl, later_alloc _ _⟩
end Go.Proofs.YtdmfhlfhlflakaaDoor
