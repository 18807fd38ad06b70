/-
  slices.Index, Contains, IndexFunc, ContainsFunc, walked.
-/
import Derived.Test.YtdmfhlfhlflakaaDoorPlRows
namespace Go.Proofs.YtdmfhlfhlflakaaDoor
open Go.RowKit
set_option linter.unusedVariables false

/-- Where x stands in xs; -1: nowhere. -/
def idxI (xs : List Int) (x : Int) : Int := if x ∈ xs then (xs.idxOf x : Nat) else -1
theorem idxI_hit {xs : List Int} {x : Int} {k : Nat} (h : ∀ j, j < k → xs.getD j 0 ≠ x) (hk : k < xs.length) (e : xs.getD k 0 = x) : idxI xs x = k := by
  rw [getD_at hk] at e
  have hm : x ∈ xs := by rw [← e]; exact List.getElem_mem hk
  unfold idxI
  rw [if_pos hm]
  have h1 := List.idxOf_lt_length_iff.2 hm
  have h2 : xs[xs.idxOf x] = x := List.getElem_idxOf h1
  have h3 : ¬ xs.idxOf x < k := fun h4 => h _ h4 (by rw [getD_at h1]; exact h2)
  have h5 : xs.idxOf x ≤ k := Nat.le_of_not_lt fun h6 => by
    have := List.not_of_lt_findIdx (p := (· == x)) (xs := xs) (i := k) h6
    simp [e] at this
  omega
theorem idxI_no {xs : List Int} {x : Int} (h : ∀ j, j < xs.length → xs.getD j 0 ≠ x) : idxI xs x = -1 := by
  unfold idxI
  rw [if_neg]
  intro hm
  obtain ⟨i, hi, e⟩ := List.getElem_of_mem hm
  exact h i hi (by rw [getD_at hi]; exact e)
theorem idxI_nonneg (xs : List Int) (x : Int) : decide (0 ≤ idxI xs x) = decide (x ∈ xs) := by
  unfold idxI
  by_cases h : x ∈ xs
  · rw [if_pos h, decide_eq_true h]; exact decide_eq_true (by omega)
  · rw [if_neg h, decide_eq_false h]; rfl

set_option maxHeartbeats 400000 in
theorem Index_any (v : Value) (xs : List Int) (x : Int) (w : World) (h : SlI .i64 w v xs) :
    Calls Tryd.prog 91 #[v, .int .i64 x] w fun e w' => e = .returned (.int .i64 (idxI xs x)) ∧ w' = w := by
  obtain ⟨a, c, rfl, h1, h2, h3, h4⟩ := h.open
  have HX := Lib.hid h4
  have hm : xs.length ≤ 9223372036854775807 := by omega
  clear h h1 h2 h3 h4
  go_enter Tryd.func91, Tryd.ntmps91
  go_wp2
  go_loop [8] (fun i => ∃ k : Nat, k ≤ xs.length ∧ i = .int .i64 k ∧ ∀ j, j < k → xs.getD j 0 ≠ x) (fun i => xs.length - (intOf i).toNat)
  case atStart => exact ⟨0, Nat.zero_le _, rfl, fun j hj => by omega⟩
  case round =>
    obtain ⟨k, hk, rfl, hs⟩ := hrel
    have HS := Lib.hid hs
    clear hs
    by_cases hlt : k < xs.length
    · obtain ⟨b, o, rfl, hb, hc⟩ := HX.out (by omega)
      have c1 := hc k hlt
      rw [← getD_at hlt] at c1
      obtain ⟨y, hy⟩ : ∃ y, xs.getD k 0 = y := ⟨_, rfl⟩
      rw [hy] at c1
      have HY := Lib.hid hy
      clear hc hy
      by_cases hxy : x = y
      · have e := Lib.hid (idxI_hit HS.out hlt (HY.out.trans hxy.symm))
        have hb1 : (x == y) = true := by rw [beq_iff_eq]; exact hxy
        clear hxy
        go_wp2
        go_ret
        exact ⟨ret_int e.out.symm, rfl⟩
      · have hb1 : (x == y) = false := by rw [beq_eq_false_iff_ne]; exact hxy
        go_wp2
        go_round
        case rel => exact ⟨k + 1, by omega, by go_num, fun j hj => by
          by_cases e : j = k
          · subst e; rw [HY.out]; exact fun e => hxy e.symm
          · exact HS.out j (by omega)⟩
        case measure => simp [intOf]; omega
    · have e := Lib.hid (idxI_no (xs := xs) (x := x) fun j hj => HS.out j (by omega))
      go_wp2
      go_ret
      exact ⟨ret_int e.out.symm, rfl⟩
theorem Contains_any (v : Value) (xs : List Int) (x : Int) (w : World) (h : SlI .i64 w v xs) :
    Calls Tryd.prog 43 #[v, .int .i64 x] w fun e w' => e = .returned (.bool (decide (x ∈ xs))) ∧ w' = w := by
  have H := Lib.hid (Index_any v xs x w h)
  have HE := Lib.hid (idxI_nonneg xs x)
  clear h
  go_enter Tryd.func43, Tryd.ntmps43
  go_wp2_with fail
  refine H.out.mono ?_
  rintro e w' ⟨rfl, rfl⟩
  go_wp2_with fail
  go_ret
  exact ⟨ret_bool HE.out, rfl⟩

/-- A function value asked of each element, in whatever later world. -/
def Asks (F : Nat) (caps : Array Value) (w : World) (xs : List Int) (p : Int → Bool) : Prop := ∀ x ∈ xs, ∀ W, Below w.heap.size w W → Calls Tryd.prog F (#[.int .i64 x] ++ caps) W fun e W' => e = .returned (.bool (p x)) ∧ Below W.heap.size W W'

def idxP (xs : List Int) (p : Int → Bool) : Int := if xs.any p then (xs.findIdx p : Nat) else -1
theorem idxP_hit {xs : List Int} {p : Int → Bool} {k : Nat} (h : ∀ j, j < k → p (xs.getD j 0) = false) (hk : k < xs.length) (e : p (xs.getD k 0) = true) : idxP xs p = k := by
  rw [getD_at hk] at e
  have hm : xs.any p = true := List.any_eq_true.2 ⟨_, List.getElem_mem hk, e⟩
  unfold idxP
  rw [if_pos hm]
  have e2 := (List.findIdx_eq hk (p := p)).2 ⟨e, fun j hj => by have := h j hj; rw [getD_at (by omega)] at this; exact this⟩
  omega
theorem idxP_no {xs : List Int} {p : Int → Bool} (h : ∀ j, j < xs.length → p (xs.getD j 0) = false) : idxP xs p = -1 := by
  unfold idxP
  rw [if_neg]
  intro hm
  obtain ⟨x, hx, e⟩ := List.any_eq_true.1 hm
  obtain ⟨i, hi, e2⟩ := List.getElem_of_mem hx
  have := h i hi
  rw [getD_at hi, e2, e] at this
  cases this
theorem idxP_nonneg (xs : List Int) (p : Int → Bool) : decide (0 ≤ idxP xs p) = xs.any p := by
  unfold idxP
  by_cases h : xs.any p = true
  · rw [if_pos h, h]; exact decide_eq_true (by omega)
  · rw [if_neg h, Bool.eq_false_iff.2 h]; rfl

set_option maxHeartbeats 400000 in
theorem IndexFunc_any {F : Nat} {caps : Array Value} {p : Int → Bool} {w : World} {v : Value} {xs : List Int} (hF : Enters F) (h : SlI .i64 w v xs) (hA : Asks F caps w xs p) :
    Calls Tryd.prog 41 #[v, .func (.func F) #[] caps] w fun e w' => e = .returned (.int .i64 (idxP xs p)) ∧ Below w.heap.size w w' := by
  obtain ⟨a, c, rfl, h1, h2, h3, h4⟩ := h.open
  have HX := Lib.hid h4
  have HA := Lib.hid hA
  have hm : xs.length ≤ 9223372036854775807 := by omega
  have hE := hF
  unfold Enters at hE
  clear h h1 h2 h3 h4 hA
  go_enter Tryd.func41, Tryd.ntmps41
  go_wp2
  go_loopw [8] (fun i wr => ∃ k : Nat, k ≤ xs.length ∧ i = .int .i64 k ∧ (∀ j, j < k → p (xs.getD j 0) = false) ∧ Below w.heap.size w wr) (fun i _ => xs.length - (intOf i).toNat)
  case atStart => exact ⟨0, Nat.zero_le _, rfl, fun j hj => by omega, Below.refl _ _⟩
  case round =>
    obtain ⟨k, hk, rfl, hs, hb⟩ := hrel
    have HS := Lib.hid hs
    have HBl := Lib.hid hb
    clear hs
    by_cases hlt : k < xs.length
    · obtain ⟨b, o, rfl, hbw, hc⟩ := HX.out (by omega)
      have c1 := ((bcell hb).1 b (o + k) hbw).trans (hc k hlt)
      rw [← getD_at hlt] at c1
      obtain ⟨y, hy⟩ : ∃ y, xs.getD k 0 = y := ⟨_, rfl⟩
      rw [hy] at c1
      have HC := Lib.hid (HA.out y (by rw [← hy, getD_at hlt]; exact List.getElem_mem hlt) _ hb)
      have HY := Lib.hid hy
      clear hc hy hb
      go_wp2_with fail
      refine HC.out.mono ?_
      rintro e w1 ⟨rfl, hb1⟩
      have HB1 := Lib.hid (later_trans HBl.out hb1)
      clear hb1
      by_cases hp : p y = true
      · have e := idxP_hit HS.out hlt (by rw [HY.out]; exact hp)
        rw [hp]
        clear hp
        go_wp2
        go_ret
        exact ⟨ret_int e.symm, HB1.out⟩
      · have hp := Bool.eq_false_iff.2 hp
        have HP := Lib.hid hp
        rw [hp]
        clear hp
        go_wp2
        go_roundw
        case rel => exact ⟨k + 1, by omega, by go_num, fun j hj => by
          by_cases e : j = k
          · subst e; rw [HY.out]; exact HP.out
          · exact HS.out j (by omega), HB1.out⟩
        case measure => simp [intOf]; omega
    · have e := idxP_no (xs := xs) (p := p) fun j hj => HS.out j (by omega)
      clear hb
      go_wp2
      go_ret
      exact ⟨ret_int e.symm, HBl.out⟩
theorem ContainsFunc_any {F : Nat} {caps : Array Value} {p : Int → Bool} {w : World} {v : Value} {xs : List Int} (hF : Enters F) (h : SlI .i64 w v xs) (hA : Asks F caps w xs p) :
    Calls Tryd.prog 46 #[v, .func (.func F) #[] caps] w fun e w' => e = .returned (.bool (xs.any p)) ∧ Below w.heap.size w w' := by
  have H := Lib.hid (IndexFunc_any hF h hA)
  have HE := Lib.hid (idxP_nonneg xs p)
  clear h hA
  go_enter Tryd.func46, Tryd.ntmps46
  go_wp2_with fail
  refine H.out.mono ?_
  rintro e w' ⟨rfl, hb⟩
  go_wp2_with fail
  go_ret
  exact ⟨ret_bool HE.out, hb⟩
end Go.Proofs.YtdmfhlfhlflakaaDoor
