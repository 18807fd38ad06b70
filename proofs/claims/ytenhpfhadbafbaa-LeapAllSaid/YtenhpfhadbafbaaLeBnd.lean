/-
  The bound of rows: leap.ends, leap.Bound, and the document's Bound, walked.
-/
import Derived.Deep.RegionHeld3
import Derived.Test.YtenhpfhadbafbaaLeChk
namespace Go.Proofs.Ytenhpfhadbafbaa
open Go.RowKit
set_option linter.unusedVariables false

/-- The length of the shortest row, of the longest one, of the first ones. -/
def minTo (ls : List (List Int)) : Nat → Nat
  | 0 => (rowN ls 0).length
  | i + 1 => if (rowN ls i).length < minTo ls i then (rowN ls i).length else minTo ls i
def maxTo (ls : List (List Int)) : Nat → Nat
  | 0 => (rowN ls 0).length
  | i + 1 => if maxTo ls i < (rowN ls i).length then (rowN ls i).length else maxTo ls i
theorem minTo_yes {ls : List (List Int)} {i : Nat} (h : (rowN ls i).length < minTo ls i) : minTo ls (i + 1) = (rowN ls i).length := if_pos h
theorem minTo_no {ls : List (List Int)} {i : Nat} (h : ¬ (rowN ls i).length < minTo ls i) : minTo ls (i + 1) = minTo ls i := if_neg h
theorem maxTo_yes {ls : List (List Int)} {i : Nat} (h : maxTo ls i < (rowN ls i).length) : maxTo ls (i + 1) = (rowN ls i).length := if_pos h
theorem maxTo_no {ls : List (List Int)} {i : Nat} (h : ¬ maxTo ls i < (rowN ls i).length) : maxTo ls (i + 1) = maxTo ls i := if_neg h
theorem minTo_le (ls : List (List Int)) : ∀ i r, r < i → minTo ls i ≤ (rowN ls r).length
  | i + 1, r, h => by
    have h1 := minTo_le ls i r
    unfold minTo
    split
    · by_cases e : r = i
      · subst e; exact Nat.le_refl _
      · have := h1 (by omega); omega
    · by_cases e : r = i
      · subst e; omega
      · exact h1 (by omega)
theorem maxTo_ge (ls : List (List Int)) : ∀ i r, r < i → (rowN ls r).length ≤ maxTo ls i
  | i + 1, r, h => by
    have h1 := maxTo_ge ls i r
    unfold maxTo
    split
    · by_cases e : r = i
      · subst e; exact Nat.le_refl _
      · have := h1 (by omega); omega
    · by_cases e : r = i
      · subst e; omega
      · exact h1 (by omega)
theorem minTo_is (ls : List (List Int)) : ∀ i, 0 < i → ∃ r, r < i ∧ minTo ls i = (rowN ls r).length
  | i + 1, _ => by
    unfold minTo
    split
    · exact ⟨i, by omega, rfl⟩
    · by_cases h : i = 0
      · subst h; exact ⟨0, by omega, rfl⟩
      · obtain ⟨r, h1, h2⟩ := minTo_is ls i (by omega)
        exact ⟨r, by omega, h2⟩
theorem maxTo_le {ls : List (List Int)} {B : Nat} (h : ∀ r, r < ls.length → (rowN ls r).length ≤ B) (h0 : 0 < ls.length) : ∀ i, i ≤ ls.length → maxTo ls i ≤ B
  | 0, _ => h 0 h0
  | i + 1, hi => by
    have := maxTo_le h h0 i (by omega)
    have := h i (by omega)
    unfold maxTo
    split <;> omega
theorem minTo_most {ls : List (List Int)} {B : Nat} (h : ∀ r, r < ls.length → (rowN ls r).length ≤ B) (h0 : 0 < ls.length) : ∀ i, i ≤ ls.length → minTo ls i ≤ B
  | 0, _ => h 0 h0
  | i + 1, hi => by
    have := minTo_most h h0 i (by omega)
    have := h i (by omega)
    unfold minTo
    split <;> omega

theorem bound1_any (a : Option Addr) (n c : Nat) (w : World) : Calls Try.prog 42 #[.slice a n c] w fun e w' => e = .returned (.int .i64 n) ∧ w' = w := by
  go_enter Try.func42, Try.ntmps42
  go_wp2
  go_ret
  exact ⟨rfl, rfl⟩

set_option maxRecDepth 100000 in
set_option maxHeartbeats 2000000 in
theorem ends_any (v : Value) (ls : List (List Int)) (w : World) (h : SlR w v ls) (h0 : 0 < ls.length) :
    Calls Try.prog 41 #[v, .func (.func 42) #[] #[]] w fun e w' => e = .returned (.tuple #[.int .i64 (minTo ls ls.length), .int .i64 (maxTo ls ls.length)]) ∧ Below w.heap.size w w' := by
  obtain ⟨a, c, rfl, h1, h2, h3, h4⟩ := h.open
  obtain ⟨bb, o, rfl, hbw, hcs⟩ := h4 h0
  obtain ⟨rv, c1, hrv⟩ := hcs 0 h0
  obtain ⟨a1, k1, rfl, s1, s2, s3, s4⟩ := hrv.open
  rw [Nat.add_zero] at c1
  have HC := Lib.hid hcs
  have hm : ls.length ≤ 9223372036854775807 := by omega
  have h0I : (0 : Int) < ls.length := by omega
  have hm1 : (rowN ls 0).length ≤ 9223372036854775807 := by omega
  clear h h1 h2 h3 h4 hcs s1 s2 s3 s4 hrv
  go_enter Try.func41, Try.ntmps41
  go_wp2_with fail
  go_region_held3 (fun W' => W'.cell? ⟨bb, o, none⟩ = some (.slice a1 (rowN ls 0).length k1))
  (first | exact c1 | assumption | (go_keep; done))
  (first
    | (go_at_call 42; refine (bound1_any _ _ _ _).mono ?_; rintro e w1 ⟨rfl, rfl⟩))
  go_wp2
  go_loopw [6, 7, 22] (fun low high k wr => ∃ i : Nat, i ≤ ls.length ∧ k = .int .i64 i ∧ low = .int .i64 (minTo ls i) ∧ high = .int .i64 (maxTo ls i) ∧ wr = w.drew) (fun _ _ k _ => ls.length - (intOf k).toNat)
  case atStart => exact ⟨0, Nat.zero_le _, rfl, rfl, rfl, rfl⟩
  case round =>
    obtain ⟨i, hi, rfl, rfl, rfl, rfl⟩ := hrel
    by_cases hlt : i < ls.length
    · obtain ⟨rv, c2, hrv⟩ := HC.out i hlt
      obtain ⟨a2, k2, rfl, s1, s2, s3, s4⟩ := hrv.open
      obtain ⟨x, hx⟩ : ∃ x, minTo ls i = x := ⟨_, rfl⟩
      obtain ⟨y, hy⟩ : ∃ y, maxTo ls i = y := ⟨_, rfl⟩
      have HX := Lib.hid (And.intro hx hy)
      rw [hx, hy]
      clear s1 s3 s4 hrv hx hy
      go_wp2_with first
        | (refine (bound1_any _ _ _ _).mono ?_; rintro e w1 ⟨rfl, rfl⟩)
        | fail
      refine ⟨⟨i + 1, by omega, by go_num, ?_, ?_, trivial⟩, by simp [intOf]; omega⟩
      · by_cases hc : (rowN ls i).length < x
        · rw [if_pos hc, minTo_yes (by rw [HX.out.1]; exact hc)]
        · rw [if_neg hc, minTo_no (by rw [HX.out.1]; exact hc), HX.out.1]
      · by_cases hc : y < (rowN ls i).length
        · rw [if_pos hc, maxTo_yes (by rw [HX.out.2]; exact hc)]
        · rw [if_neg hc, maxTo_no (by rw [HX.out.2]; exact hc), HX.out.2]
    · obtain rfl : i = ls.length := by omega
      go_wp2_with fail
      go_ret2
      exact ⟨rfl, later_drew w⟩

theorem bound_cast (k s m : Nat) : ((boundOf k s m : Nat) : Int) = 4 * (k : Int) * (1 + (s : Int)) * (1 + (lg (1 + m : Int) : Int)) := by
  unfold boundOf; push_cast; rfl
theorem bound_nums {k s m : Nat} (hk : k ≤ 64) (hs : s ≤ 1000) (hm : m ≤ 1000) : (4 * (k : Int) * (1 + (s : Int)) ≤ 256256 ∧ 0 ≤ 4 * (k : Int) * (1 + (s : Int))) ∧ (4 * (k : Int) * (1 + (s : Int)) * (1 + (lg (1 + m : Int) : Int)) ≤ 16144128 ∧ 0 ≤ 4 * (k : Int) * (1 + (s : Int)) * (1 + (lg (1 + m : Int) : Int))) := by
  have hlg := lg_le (1 + m : Int) (by omega)
  have h1 : 4 * k * (1 + s) ≤ 256 * 1001 := Nat.mul_le_mul (by omega) (by omega)
  have h2 : 4 * k * (1 + s) * (1 + lg (1 + m : Int)) ≤ 256 * 1001 * 63 := Nat.mul_le_mul h1 (by omega)
  generalize lg (1 + m : Int) = g at *
  have e1 : ((4 * k * (1 + s) : Nat) : Int) = 4 * (k : Int) * (1 + (s : Int)) := by push_cast; rfl
  have e2 : ((4 * k * (1 + s) * (1 + g) : Nat) : Int) = 4 * (k : Int) * (1 + (s : Int)) * (1 + (g : Int)) := by push_cast; rfl
  rw [← e2, ← e1]
  omega

set_option maxRecDepth 100000 in
set_option maxHeartbeats 2000000 in
theorem Bound_any (v : Value) (ls : List (List Int)) (w : World) (h : SlR w v ls) (hS : ∀ r, r < ls.length → (rowN ls r).length ≤ 1000) :
    Calls Try.prog 22 #[v] w fun e w' => e = .returned (.tuple #[.int .i64 (if okB ls = true then boundOf ls.length (minTo ls ls.length) (maxTo ls ls.length) else 0), .int .i64 (if okB ls = true then 0 else 330)]) ∧ Below w.heap.size w w' := by
  obtain ⟨a, c, rfl, h1, h2, h3, h4⟩ := h.open
  have H := Lib.hid h
  clear h h1 h2 h3 h4
  go_enter Try.func22, Try.ntmps22
  by_cases hok : okB ls = true
  · simp only [if_pos hok]
    have hk := okB_iff.1 hok
    have h1 := minTo_most hS (by omega) ls.length (Nat.le_refl _)
    have h2 := maxTo_le hS (by omega) ls.length (Nat.le_refl _)
    have hE := Lib.hid (fun W (hb : Below w.heap.size w W) => ends_any _ ls W (H.out.later hb) (by omega))
    have hC := Lib.hid (bound_cast ls.length (minTo ls ls.length) (maxTo ls ls.length))
    obtain ⟨⟨n1, n2⟩, n3, n4⟩ := bound_nums hk.2.1 h1 h2
    generalize minTo ls ls.length = s at *
    generalize maxTo ls ls.length = m at *
    have hl := hk.2.1
    have hlg := lg_le (1 + m : Int) (by omega)
    clear hk hS
    go_wp2_with first
      | (refine (Check_any _ _ _ H.out).mono ?_; rintro e w1 ⟨rfl, n, rfl⟩; rw [if_pos hok])
      | (refine (hE.out _ (later_drewN w n)).mono ?_; rintro e w1 ⟨rfl, hb⟩)
      | (refine (log_any _ (by omega) (by omega) _).mono ?_; rintro e w1 ⟨rfl, rfl⟩)
      | fail
    go_ret2
    exact ⟨by rw [hC.out]; rfl, later_trans (later_drewN w n) hb⟩
  · simp only [if_neg hok]
    go_wp2_with first
      | (refine (Check_any _ _ _ H.out).mono ?_; rintro e w1 ⟨rfl, n, rfl⟩; rw [if_neg hok])
      | fail
    go_ret2
    exact ⟨rfl, later_drewN w n⟩

set_option maxRecDepth 100000 in
set_option maxHeartbeats 2000000 in
/-- The document's Bound. -/
theorem refBound_any (v : Value) (ls : List (List Int)) (w : World) (h : SlR w v ls) (hS : ∀ r, r < ls.length → (rowN ls r).length ≤ 1000) (h0 : 0 < ls.length) (hl : ls.length ≤ 64) :
    Calls Try.prog 13 #[v] w fun e w' => e = .returned (.int .i64 (boundOf ls.length (minTo ls ls.length) (maxTo ls ls.length))) ∧ w' = w := by
  obtain ⟨a, c, rfl, h1, h2, h3, h4⟩ := h.open
  obtain ⟨bb, o, rfl, hbw, hcs⟩ := h4 h0
  obtain ⟨rv, c1, hrv⟩ := hcs 0 h0
  obtain ⟨a1, k1, rfl, s1, s2, s3, s4⟩ := hrv.open
  rw [Nat.add_zero] at c1
  have HC := Lib.hid hcs
  have hm : ls.length ≤ 9223372036854775807 := by omega
  have h0I : (0 : Int) < ls.length := by omega
  have hm1 : (rowN ls 0).length ≤ 9223372036854775807 := by omega
  have h1' := minTo_most hS h0 ls.length (Nat.le_refl _)
  have h2' := maxTo_le hS h0 ls.length (Nat.le_refl _)
  have hC := Lib.hid (bound_cast ls.length (minTo ls ls.length) (maxTo ls ls.length))
  have hN := Lib.hid (bound_nums hl h1' h2')
  have hS := Lib.hid hS
  clear h h1 h2 h3 h4 hcs s1 s2 s3 s4 hrv h1' h2'
  go_enter Try.func13, Try.ntmps13
  go_wp2
  go_loop [3, 4, 13] (fun low high k => ∃ i m : Nat, i ≤ ls.length ∧ k = .int .i64 i ∧ low = .int .i64 (minTo ls i) ∧ high = .int .i64 m ∧ (i = 0 → m = 0) ∧ (0 < i → m = maxTo ls i)) (fun _ _ k => ls.length - (intOf k).toNat)
  case atStart => exact ⟨0, 0, Nat.zero_le _, rfl, rfl, rfl, fun _ => rfl, fun h => by omega⟩
  case round =>
    obtain ⟨i, m, hi, rfl, rfl, rfl, hm0, hm1⟩ := hrel
    by_cases hlt : i < ls.length
    · obtain ⟨rv, c2, hrv⟩ := HC.out i hlt
      obtain ⟨a2, k2, rfl, s1, s2, s3, s4⟩ := hrv.open
      obtain ⟨x, hx⟩ : ∃ x, minTo ls i = x := ⟨_, rfl⟩
      have hy : ((rowN ls i).length > m → maxTo ls (i + 1) = (rowN ls i).length) ∧ (¬ (rowN ls i).length > m → maxTo ls (i + 1) = m) := by
        by_cases hi0 : i = 0
        · have := hm0 hi0
          subst hi0
          refine ⟨fun h => ?_, fun h => ?_⟩ <;> (unfold maxTo maxTo; split <;> omega)
        · have := hm1 (by omega)
          refine ⟨fun h => ?_, fun h => ?_⟩ <;> (unfold maxTo; split <;> omega)
      have HX := Lib.hid (And.intro hx hy)
      rw [hx]
      clear s1 s3 s4 hrv hx hy hm0 hm1
      by_cases hc1 : (rowN ls i).length < x
      · by_cases hc2 : (rowN ls i).length > m
        · go_wp2
          exact ⟨⟨i + 1, _, by omega, by go_num, by rw [minTo_yes (by rw [HX.out.1]; exact hc1)], rfl, fun h => by omega, fun _ => (HX.out.2.1 hc2).symm⟩, by simp [intOf]; omega⟩
        · go_wp2
          exact ⟨⟨i + 1, _, by omega, by go_num, by rw [minTo_yes (by rw [HX.out.1]; exact hc1)], rfl, fun h => by omega, fun _ => (HX.out.2.2 hc2).symm⟩, by simp [intOf]; omega⟩
      · by_cases hc2 : (rowN ls i).length > m
        · go_wp2
          exact ⟨⟨i + 1, _, by omega, by go_num, by rw [minTo_no (by rw [HX.out.1]; exact hc1), HX.out.1], rfl, fun h => by omega, fun _ => (HX.out.2.1 hc2).symm⟩, by simp [intOf]; omega⟩
        · go_wp2
          exact ⟨⟨i + 1, _, by omega, by go_num, by rw [minTo_no (by rw [HX.out.1]; exact hc1), HX.out.1], rfl, fun h => by omega, fun _ => (HX.out.2.2 hc2).symm⟩, by simp [intOf]; omega⟩
    · obtain rfl : i = ls.length := by omega
      have e := hm1 (by omega)
      subst e
      obtain ⟨⟨n1, n2⟩, n3, n4⟩ := hN.out
      have h2' := maxTo_le hS.out h0 ls.length (Nat.le_refl _)
      have h1' := minTo_most hS.out h0 ls.length (Nat.le_refl _)
      clear hm0 hm1
      have hlg := lg_le (1 + maxTo ls ls.length : Int) (by omega)
      go_wp2_with first
        | (refine (reflog_any _ (by omega) (by omega) _).mono ?_; rintro e w1 ⟨rfl, rfl⟩)
        | fail
      go_ret
      exact ⟨by rw [hC.out]; rfl, rfl⟩
end Go.Proofs.Ytenhpfhadbafbaa
