/-
  slices.IndexFunc, ContainsFunc at rows; slices.Max; hyper.all, walked.
-/
import Derived.Test.YtdmfhlfhlflakaaDoorPlIdx
namespace Go.Proofs.YtdmfhlfhlflakaaDoor
open Go.RowKit
set_option linter.unusedVariables false

/-- A function value asked of each row, in whatever later world. -/
def AsksR (F : Nat) (caps : Array Value) (w : World) (ls : List (List Int)) (p : List Int → Bool) : Prop :=
  ∀ r, r < ls.length → ∀ rv W, Below w.heap.size w W → SlI .i64 W rv (rowN ls r) → Calls Tryd.prog F (#[rv] ++ caps) W fun e W' => e = .returned (.bool (p (rowN ls r))) ∧ Below W.heap.size W W'

def idxR (ls : List (List Int)) (p : List Int → Bool) : Int := if ls.any p then (ls.findIdx p : Nat) else -1
theorem idxR_hit {ls : List (List Int)} {p : List Int → Bool} {k : Nat} (h : ∀ j, j < k → p (rowN ls j) = false) (hk : k < ls.length) (e : p (rowN ls k) = true) : idxR ls p = k := by
  rw [rowN_at hk] at e
  have hm : ls.any p = true := List.any_eq_true.2 ⟨_, List.getElem_mem hk, e⟩
  unfold idxR
  rw [if_pos hm]
  have e2 := (List.findIdx_eq hk (p := p)).2 ⟨e, fun j hj => by have := h j hj; rw [rowN_at (by omega)] at this; exact this⟩
  omega
theorem idxR_no {ls : List (List Int)} {p : List Int → Bool} (h : ∀ j, j < ls.length → p (rowN ls j) = false) : idxR ls p = -1 := by
  unfold idxR
  rw [if_neg]
  intro hm
  obtain ⟨x, hx, e⟩ := List.any_eq_true.1 hm
  obtain ⟨i, hi, e2⟩ := List.getElem_of_mem hx
  have := h i hi
  rw [rowN_at hi, e2, e] at this
  cases this
theorem idxR_nonneg (ls : List (List Int)) (p : List Int → Bool) : decide (0 ≤ idxR ls p) = ls.any p := by
  unfold idxR
  by_cases h : ls.any p = true
  · rw [if_pos h, h]; exact decide_eq_true (by omega)
  · rw [if_neg h, Bool.eq_false_iff.2 h]; rfl

set_option maxHeartbeats 400000 in
theorem IndexFuncR_any {F : Nat} {caps : Array Value} {p : List Int → Bool} {w : World} {v : Value} {ls : List (List Int)} (hF : Enters F) (h : SlRK .i64 w v ls) (hA : AsksR F caps w ls p) :
    Calls Tryd.prog 92 #[v, .func (.func F) #[] caps] w fun e w' => e = .returned (.int .i64 (idxR ls p)) ∧ Below w.heap.size w w' := by
  obtain ⟨a, c, rfl, h1, h2, h3, h4⟩ := h.open
  have HX := Lib.hid h4
  have HA := Lib.hid hA
  have hm : ls.length ≤ 9223372036854775807 := by omega
  have hE := hF
  unfold Enters at hE
  clear h h1 h2 h3 h4 hA
  go_enter Tryd.func92, Tryd.ntmps92
  go_wp2
  go_loopw [8] (fun i wr => ∃ k : Nat, k ≤ ls.length ∧ i = .int .i64 k ∧ (∀ j, j < k → p (rowN ls j) = false) ∧ Below w.heap.size w wr) (fun i _ => ls.length - (intOf i).toNat)
  case atStart => exact ⟨0, Nat.zero_le _, rfl, fun j hj => by omega, Below.refl _ _⟩
  case round =>
    obtain ⟨k, hk, rfl, hs, hb⟩ := hrel
    have HS := Lib.hid hs
    have HBl := Lib.hid hb
    clear hs
    by_cases hlt : k < ls.length
    · obtain ⟨b, o, rfl, hbw, hc⟩ := HX.out (by omega)
      obtain ⟨rv, c0, hrv⟩ := hc k hlt
      have c1 := ((bcell hb).1 b (o + k) hbw).trans c0
      have HC := Lib.hid (HA.out k hlt rv _ hb (hrv.later hb))
      clear hc c0 hrv hb
      go_wp2_with fail
      refine HC.out.mono ?_
      rintro e w1 ⟨rfl, hb1⟩
      have HB1 := Lib.hid (later_trans HBl.out hb1)
      clear hb1
      by_cases hp : p (rowN ls k) = true
      · have e := Lib.hid (idxR_hit HS.out hlt hp)
        rw [hp]
        clear hp
        go_wp2
        go_ret
        exact ⟨ret_int e.out.symm, HB1.out⟩
      · have hp := Bool.eq_false_iff.2 hp
        have HP := Lib.hid hp
        rw [hp]
        clear hp
        go_wp2
        go_roundw
        case rel => exact ⟨k + 1, by omega, by go_num, fun j hj => by
          by_cases e : j = k
          · subst e; exact HP.out
          · exact HS.out j (by omega), HB1.out⟩
        case measure => simp [intOf]; omega
    · have e := Lib.hid (idxR_no (ls := ls) (p := p) fun j hj => HS.out j (by omega))
      clear hb
      go_wp2
      go_ret
      exact ⟨ret_int e.out.symm, HBl.out⟩
theorem ContainsFuncR_any {F : Nat} {caps : Array Value} {p : List Int → Bool} {w : World} {v : Value} {ls : List (List Int)} (hF : Enters F) (h : SlRK .i64 w v ls) (hA : AsksR F caps w ls p) :
    Calls Tryd.prog 44 #[v, .func (.func F) #[] caps] w fun e w' => e = .returned (.bool (ls.any p)) ∧ Below w.heap.size w w' := by
  have H := Lib.hid (IndexFuncR_any hF h hA)
  have HE := Lib.hid (idxR_nonneg ls p)
  clear h hA
  go_enter Tryd.func44, Tryd.ntmps44
  go_wp2_with fail
  refine H.out.mono ?_
  rintro e w' ⟨rfl, hb⟩
  go_wp2_with fail
  go_ret
  exact ⟨ret_bool HE.out, hb⟩

/-- What holds of all, with their places. -/
def allI (xs : List Int) (p : Nat → Int → Bool) : Bool := (List.range xs.length).all fun i => p i (xs.getD i 0)
def allR (ls : List (List Int)) (p : Nat → List Int → Bool) : Bool := (List.range ls.length).all fun i => p i (rowN ls i)
theorem allI_no {xs : List Int} {p : Nat → Int → Bool} {k : Nat} (hk : k < xs.length) (e : p k (xs.getD k 0) = false) : allI xs p = false := by
  unfold allI
  rw [List.all_eq_false]
  exact ⟨k, List.mem_range.2 hk, by rw [e]; decide⟩
theorem allI_yes {xs : List Int} {p : Nat → Int → Bool} (h : ∀ j, j < xs.length → p j (xs.getD j 0) = true) : allI xs p = true := by
  unfold allI
  rw [List.all_eq_true]
  exact fun j hj => h j (List.mem_range.1 hj)
theorem allR_no {ls : List (List Int)} {p : Nat → List Int → Bool} {k : Nat} (hk : k < ls.length) (e : p k (rowN ls k) = false) : allR ls p = false := by
  unfold allR
  rw [List.all_eq_false]
  exact ⟨k, List.mem_range.2 hk, by rw [e]; decide⟩
theorem allR_yes {ls : List (List Int)} {p : Nat → List Int → Bool} (h : ∀ j, j < ls.length → p j (rowN ls j) = true) : allR ls p = true := by
  unfold allR
  rw [List.all_eq_true]
  exact fun j hj => h j (List.mem_range.1 hj)
def Asks2 (F : Nat) (caps : Array Value) (w : World) (xs : List Int) (p : Nat → Int → Bool) : Prop :=
  ∀ (i : Nat), i < xs.length → ∀ W, Below w.heap.size w W → Calls Tryd.prog F (#[.int .i64 i, .int .i64 (xs.getD i 0)] ++ caps) W fun e W' => e = .returned (.bool (p i (xs.getD i 0))) ∧ Below W.heap.size W W'
def Asks2R (F : Nat) (caps : Array Value) (w : World) (ls : List (List Int)) (p : Nat → List Int → Bool) : Prop :=
  ∀ (r : Nat), r < ls.length → ∀ rv W, Below w.heap.size w W → SlI .i64 W rv (rowN ls r) → Calls Tryd.prog F (#[.int .i64 r, rv] ++ caps) W fun e W' => e = .returned (.bool (p r (rowN ls r))) ∧ Below W.heap.size W W'

set_option maxHeartbeats 400000 in
theorem allI_any {F : Nat} {caps : Array Value} {p : Nat → Int → Bool} {w : World} {v : Value} {xs : List Int} (hF : Enters F) (h : SlI .i64 w v xs) (hA : Asks2 F caps w xs p) :
    Calls Tryd.prog 100 #[v, .func (.func F) #[] caps] w fun e w' => e = .returned (.bool (allI xs p)) ∧ Below w.heap.size w w' := by
  obtain ⟨a, c, rfl, h1, h2, h3, h4⟩ := h.open
  have HX := Lib.hid h4
  have HA := Lib.hid hA
  have hm : xs.length ≤ 9223372036854775807 := by omega
  have hE := hF
  unfold Enters at hE
  clear h h1 h2 h3 h4 hA
  go_enter Tryd.func100, Tryd.ntmps100
  go_wp2
  go_loopw [9] (fun i wr => ∃ k : Nat, k ≤ xs.length ∧ i = .int .i64 k ∧ (∀ j, j < k → p j (xs.getD j 0) = true) ∧ Below w.heap.size w wr) (fun i _ => xs.length - (intOf i).toNat)
  case atStart => exact ⟨0, Nat.zero_le _, rfl, fun j hj => by omega, Below.refl _ _⟩
  case round =>
    obtain ⟨k, hk, rfl, hs, hb⟩ := hrel
    have HS := Lib.hid hs
    have HBl := Lib.hid hb
    clear hs
    by_cases hlt : k < xs.length
    · obtain ⟨b, o, rfl, hbw, hc⟩ := HX.out (by omega)
      have c1 := ((bcell hb).1 b (o + k) hbw).trans (hc k hlt)
      rw [← getD_at hlt] at c1
      have hC := HA.out k hlt _ hb
      obtain ⟨y, hy⟩ : ∃ y, xs.getD k 0 = y := ⟨_, rfl⟩
      rw [hy] at c1 hC
      have HC := Lib.hid hC
      have HY := Lib.hid hy
      clear hc hy hb hC
      go_wp2_with fail
      refine HC.out.mono ?_
      rintro e w1 ⟨rfl, hb1⟩
      have HB1 := Lib.hid (later_trans HBl.out hb1)
      clear hb1
      by_cases hp : p k y = true
      · have HP := Lib.hid hp
        rw [hp]
        clear hp
        go_wp2
        go_roundw
        case rel => exact ⟨k + 1, by omega, by go_num, fun j hj => by
          by_cases e : j = k
          · subst e; rw [HY.out]; exact HP.out
          · exact HS.out j (by omega), HB1.out⟩
        case measure => simp [intOf]; omega
      · have hp := Bool.eq_false_iff.2 hp
        have e := Lib.hid (allI_no (p := p) hlt (by rw [HY.out]; exact hp))
        rw [hp]
        clear hp
        go_wp2
        go_ret
        exact ⟨ret_bool e.out.symm, HB1.out⟩
    · have e := Lib.hid (allI_yes (xs := xs) (p := p) fun j hj => HS.out j (by omega))
      clear hb
      go_wp2
      go_ret
      exact ⟨ret_bool e.out.symm, HBl.out⟩
set_option maxHeartbeats 400000 in
theorem allR_any {F : Nat} {caps : Array Value} {p : Nat → List Int → Bool} {w : World} {v : Value} {ls : List (List Int)} (hF : Enters F) (h : SlRK .i64 w v ls) (hA : Asks2R F caps w ls p) :
    Calls Tryd.prog 97 #[v, .func (.func F) #[] caps] w fun e w' => e = .returned (.bool (allR ls p)) ∧ Below w.heap.size w w' := by
  obtain ⟨a, c, rfl, h1, h2, h3, h4⟩ := h.open
  have HX := Lib.hid h4
  have HA := Lib.hid hA
  have hm : ls.length ≤ 9223372036854775807 := by omega
  have hE := hF
  unfold Enters at hE
  clear h h1 h2 h3 h4 hA
  go_enter Tryd.func97, Tryd.ntmps97
  go_wp2
  go_loopw [9] (fun i wr => ∃ k : Nat, k ≤ ls.length ∧ i = .int .i64 k ∧ (∀ j, j < k → p j (rowN ls j) = true) ∧ Below w.heap.size w wr) (fun i _ => ls.length - (intOf i).toNat)
  case atStart => exact ⟨0, Nat.zero_le _, rfl, fun j hj => by omega, Below.refl _ _⟩
  case round =>
    obtain ⟨k, hk, rfl, hs, hb⟩ := hrel
    have HS := Lib.hid hs
    have HBl := Lib.hid hb
    clear hs
    by_cases hlt : k < ls.length
    · obtain ⟨b, o, rfl, hbw, hc⟩ := HX.out (by omega)
      obtain ⟨rv, c0, hrv⟩ := hc k hlt
      have c1 := ((bcell hb).1 b (o + k) hbw).trans c0
      have HC := Lib.hid (HA.out k hlt rv _ hb (hrv.later hb))
      clear hc c0 hrv hb
      go_wp2_with fail
      refine HC.out.mono ?_
      rintro e w1 ⟨rfl, hb1⟩
      have HB1 := Lib.hid (later_trans HBl.out hb1)
      clear hb1
      by_cases hp : p k (rowN ls k) = true
      · have HP := Lib.hid hp
        rw [hp]
        clear hp
        go_wp2
        go_roundw
        case rel => exact ⟨k + 1, by omega, by go_num, fun j hj => by
          by_cases e : j = k
          · subst e; exact HP.out
          · exact HS.out j (by omega), HB1.out⟩
        case measure => simp [intOf]; omega
      · have hp := Bool.eq_false_iff.2 hp
        have e := Lib.hid (allR_no (p := p) hlt hp)
        rw [hp]
        clear hp
        go_wp2
        go_ret
        exact ⟨ret_bool e.out.symm, HB1.out⟩
    · have e := Lib.hid (allR_yes (ls := ls) (p := p) fun j hj => HS.out j (by omega))
      clear hb
      go_wp2
      go_ret
      exact ⟨ret_bool e.out.symm, HBl.out⟩

/-- The greatest of the first k. -/
def maxTo (xs : List Int) (k : Nat) : Int := (xs.take k).foldl max (xs.getD 0 0)
theorem maxTo_one {xs : List Int} (h : 0 < xs.length) : maxTo xs 1 = xs.getD 0 0 := by
  unfold maxTo
  rw [List.take_succ_eq_append_getElem h]
  rw [getD_at h]
  simp
theorem maxTo_succ {xs : List Int} {k : Nat} (h : k < xs.length) : maxTo xs (k + 1) = max (maxTo xs k) (xs.getD k 0) := by
  unfold maxTo
  rw [List.take_succ_eq_append_getElem h, List.foldl_append, getD_at h]
  rfl
set_option maxHeartbeats 400000 in
theorem Max_any (v : Value) (xs : List Int) (w : World) (h : SlI .i64 w v xs) (h0 : 0 < xs.length) :
    Calls Tryd.prog 16 #[v] w fun e w' => e = .returned (.int .i64 (maxTo xs xs.length)) ∧ w' = w := by
  obtain ⟨a, c, rfl, h1, h2, h3, h4⟩ := h.open
  obtain ⟨b, o, rfl, hbw, hc⟩ := h4 h0
  have c0 := hc 0 h0
  rw [← getD_at h0, Nat.add_zero, ← maxTo_one h0] at c0
  have HX := Lib.hid hc
  have hm : xs.length ≤ 9223372036854775807 := by omega
  have h0' : ¬ xs.length < 1 := by omega
  have h0'' : ¬ (xs.length : Int) < 1 := by omega
  clear h h1 h2 h3 h4 hc
  obtain ⟨m0, hm0⟩ : ∃ m, maxTo xs 1 = m := ⟨_, rfl⟩
  rw [hm0] at c0
  have HM := Lib.hid hm0
  clear hm0
  go_enter Tryd.func16, Tryd.ntmps16
  go_wp2
  go_loop [3, 4] (fun m i => ∃ k : Nat, 1 ≤ k ∧ k ≤ xs.length ∧ i = .int .i64 k ∧ m = .int .i64 (maxTo xs k)) (fun _ i => xs.length - (intOf i).toNat)
  case atStart => exact ⟨1, Nat.le_refl _, by omega, rfl, by rw [HM.out]⟩
  case round =>
    obtain ⟨k, hk1, hk, rfl, rfl⟩ := hrel
    by_cases hlt : k < xs.length
    · have c1 := HX.out k hlt
      have hs := maxTo_succ hlt
      rw [← getD_at hlt] at c1
      generalize xs.getD k 0 = y at c1 hs
      have HQ : Hid (maxTo xs (k + 1) = if maxTo xs k < y then y else maxTo xs k) := Lib.hid (by rw [hs]; split <;> omega)
      clear hs
      generalize maxTo xs k = m at *
      go_wp2
      go_round
      case rel => exact ⟨k + 1, by omega, by omega, by go_num, by rw [HQ.out]⟩
      case measure => simp [intOf]; omega
    · obtain rfl : k = xs.length := by omega
      go_wp2
      go_ret
      exact ⟨rfl, rfl⟩
end Go.Proofs.YtdmfhlfhlflakaaDoor
