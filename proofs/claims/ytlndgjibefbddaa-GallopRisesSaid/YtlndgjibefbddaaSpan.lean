/-
  Plain facts on gallop.Span and gallop.Has as told.
-/
import Derived.Test.YtlndgjibefbddaaPlain3
import Derived.Test.YtlndgjibefbddaaGal2
import Derived.Test.YtlndgjibefbddaaRef04
namespace Go.Proofs.Ytlndgjibefbddaa
theorem span_behind {A : List Int} {low high : Int} (h : low ≤ high) : place A (place A 0 (geB low)) (gtB high) = place A 0 (gtB high) :=
  place_from (Nat.zero_le _) (place_mono (fun x hx => by simp [geB, gtB] at *; omega) (Nat.zero_le _)) (Nat.zero_le _)
theorem spanOf_yes {A : List Int} {low high : Int} (hr : risesB A = true) (h : low ≤ high) : spanOf A low high = (place A 0 (geB low), place A 0 (gtB high)) := by
  simp [spanOf, hr, h, span_behind h]
theorem spanOf_no {A : List Int} {low high : Int} (h : risesB A = false ∨ high < low) : spanOf A low high = (0, 0) := by
  rcases h with h | h
  · simp [spanOf, h]
  · have : ¬ low ≤ high := by omega
    simp [spanOf, this]
theorem place_lt {A : List Int} {i j : Nat} {p : Int → Bool} (hij : i ≤ j) (hj : j < A.length) (h : p A[j] = true) : place A i p ≤ j := by
  rcases Nat.lt_or_ge j (place A i p) with hlt | hge
  · rw [place_not hij hj hlt] at h; cases h
  · exact hge
/-- In a rising row the key stands just where the span is not empty. -/
theorem hasOf_mem {A : List Int} {key : Int} (hr : risesB A = true) : hasOf A key = decide (key ∈ A) := by
  unfold hasOf
  rw [spanOf_yes hr (Int.le_refl key)]
  by_cases hm : key ∈ A
  · obtain ⟨j, hj, e⟩ := List.getElem_of_mem hm
    have h1 : place A 0 (geB key) ≤ j := place_lt (Nat.zero_le _) hj (by simp [geB, e])
    have h2 : j < place A 0 (gtB key) := by
      rcases Nat.lt_or_ge j (place A 0 (gtB key)) with hlt | hge
      · exact hlt
      · have hp : place A 0 (gtB key) < A.length := by omega
        have h3 := place_at hp
        have h4 := rises_le hr hge hj
        simp [gtB] at h3; omega
    simp [hm]; omega
  · have h2 : place A 0 (geB key) = place A 0 (gtB key) := by
      have h0 := place_mono (A := A) (i := 0) (p := geB key) (q := gtB key) (fun x hx => by simp [geB, gtB] at *; omega) (Nat.zero_le _)
      rcases Nat.lt_or_ge (place A 0 (geB key)) (place A 0 (gtB key)) with hlt | hge
      · have hl := place_le (xs := A) (i := 0) (p := gtB key) (Nat.zero_le _)
        have hp : place A 0 (geB key) < A.length := by omega
        have h3 := place_at hp
        have h4 := place_not (p := gtB key) (Nat.zero_le _) hp hlt
        simp [geB] at h3
        simp [gtB] at h4
        have e5 : A[place A 0 (geB key)] = key := by omega
        exact absurd (by rw [← e5]; exact List.getElem_mem hp) hm
      · omega
    simp [hm, h2]
theorem hasOf_no {A : List Int} {key : Int} (hr : risesB A = false) : hasOf A key = false := by
  unfold hasOf; rw [spanOf_no (.inl hr)]; simp
end Go.Proofs.Ytlndgjibefbddaa
