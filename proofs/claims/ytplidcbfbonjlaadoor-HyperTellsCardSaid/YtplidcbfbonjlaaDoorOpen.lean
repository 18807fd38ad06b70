/-
  From the form's own reading of a slice of integers to mine.
-/
import Derived.Test.YtplidcbfbonjlaaDoorBase
import Derived.OpenShut
namespace Go.Proofs.YtplidcbfbonjlaaDoor
open Go.RowKit
theorem lt_of_cell {W : World} {b o : Nat} {v : Value} (h : W.cell? ⟨b, o, none⟩ = some v) : b < W.heap.size := by
  rcases Nat.lt_or_ge b W.heap.size with h1 | h1
  · exact h1
  · simp [World.cell?, Array.getElem?_eq_none h1] at h
theorem SlI.of_came {k : IntKind} {W : World} {x : Addr} {len cap : Nat} {zs : List Int} (hl : len ≤ cap) (hm : cap ≤ maxLen) (hz : zs.length = cap) (hx : ∀ i, i < zs.length → W.cell? (x.add i) = some (.int k (zs.getD i 0)))
    (hw : ∀ n ∈ zs, (Lit.int k n).wf = true) : SlI k W (.slice (some x) len cap) (zs.take len) := by
  have hlen : (zs.take len).length = len := by simp; omega
  refine ⟨⟨some x, cap, by simp; omega, by simp; omega, hm, fun h => by (cases h), fun hne => ?_⟩, fun n hn => hw n (List.mem_of_mem_take hn)⟩
  have h0 : 0 < zs.length := by
    cases zs with
    | nil => simp at hne
    | cons a r => simp
  obtain ⟨b, o, rfl, hc⟩ := ints_at hx h0
  refine ⟨b, o, rfl, lt_of_cell (hc 0 h0), fun i u hi => ?_⟩
  obtain ⟨hi1, hi2⟩ := List.getElem?_eq_some_iff.1 hi
  have hi3 : i < zs.length := by simp at hi1; omega
  rw [hc i hi3, ← hi2]
  simp [hi3]
end Go.Proofs.YtplidcbfbonjlaaDoor
