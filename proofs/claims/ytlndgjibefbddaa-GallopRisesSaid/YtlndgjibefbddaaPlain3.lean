/-
  Plain facts on spans of rising rows.
-/
import Derived.Test.YtlndgjibefbddaaPlain2
namespace Go.Proofs.Ytlndgjibefbddaa
theorem place_from {A : List Int} {i j : Nat} {p : Int → Bool} (hij : i ≤ j) (h : j ≤ place A i p) (hi : i ≤ A.length) : place A j p = place A i p :=
  place_eq h (place_le hi) (fun k hk hjk hkp => place_not (by omega) hk hkp) (fun hlt => place_at hlt)
theorem place_mono {A : List Int} {i : Nat} {p q : Int → Bool} (h : ∀ x, q x = true → p x = true) (hi : i ≤ A.length) : place A i p ≤ place A i q := by
  rcases Nat.lt_or_ge (place A i q) (place A i p) with hlt | hge
  · have hle := place_le (p := p) hi
    have h1 := place_at (xs := A) (i := i) (p := q) (by omega)
    have h2 := place_not (xs := A) (i := i) (p := p) place_ge (show place A i q < A.length by omega) hlt
    rw [h _ h1] at h2; cases h2
  · exact hge
end Go.Proofs.Ytlndgjibefbddaa
