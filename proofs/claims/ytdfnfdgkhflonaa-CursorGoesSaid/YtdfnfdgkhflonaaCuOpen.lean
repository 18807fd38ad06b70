/-
  From the form's own reading of slices of moves to mine.
-/
import Derived.Test.YtdfnfdgkhflonaaCuQ
import Derived.Test.YtdfnfdgkhflonaaTOpen
namespace Go.Proofs.Ytdfnfdgkhflonaa
open Go.ChangeShapes Go.WideShapes Go.ChangeAt Go.RowKit Go.Joins Go.Deep
set_option linter.unusedVariables false

def Mv.wf (m : Mv) : Prop := (Lit.int .i64 m.kind).wf = true ∧ (Lit.int .u64 m.key).wf = true
def SlMW (w : World) (v : Value) (ms : List Mv) : Prop := SlT Mv.cells 2 w v ms ∧ ∀ m ∈ ms, m.wf
theorem SlMW.nil (w : World) : SlMW w (.slice none 0 0) [] := ⟨SlT.nil w, fun b hb => by cases hb⟩

set_option maxRecDepth 100000 in
theorem came_move {H : Type} {enc : TypeId × Value → H} {W : World} {base : Nat} {spare : Nat → Bool} {held : Bool} {fuel : Nat} {a : Option Addr} {len cap : Nat} {x : DataW H × List MemPlace} (h : DataW.trod enc Try.prog W base spare held fuel 26 [.slice a len cap] = some x) : ∃ ps, SlMW W (.slice a len cap) ps := by
  rcases open_slice Try.underlying26 h with ⟨h0, _⟩ | ⟨ad, len', cap', m, n, D, Pl, hcs, hb, hl, hm, hmm, hx, hi⟩
  · simp at h0
    obtain ⟨rfl, rfl, rfl⟩ := h0
    exact ⟨[], SlMW.nil _⟩
  · simp at hcs
    obtain ⟨rfl, rfl, rfl⟩ := hcs
    have hC : Try.prog.cellsOf 42 = 2 := by kernel_rfl
    have hCu : Try.prog.cellsOf 38 = 1 := by kernel_rfl
    have hCi : Try.prog.cellsOf 3 = 1 := by kernel_rfl
    have key : ∀ i, ∃ p : Mv, i < len → (W.cell? ((ad.add (i * 2)).add 0) = some (.int .i64 p.kind) ∧ W.cell? ((ad.add (i * 2)).add 1) = some (.int .u64 p.key)) ∧ p.wf := by
      intro i
      by_cases hil : i < len
      · obtain ⟨cs', hc, ht⟩ := hi i (by rw [hmm]; split <;> omega)
        rw [hC] at hc
        obtain ⟨_, hcl, hat⟩ := World.cells?_some hc
        obtain ⟨ys, n', _, _, _, hyl, hf⟩ := DataW.trod_struct Try.underlying42 ht
        obtain ⟨c0, c1, rfl⟩ : ∃ c0 c1, cs' = [c0, c1] := by
          match cs', hcl with
          | [c0, c1], _ => exact ⟨_, _, rfl⟩
        obtain ⟨y0, y1, rfl⟩ : ∃ y0 y1, ys = [y0, y1] := by
          match ys, hyl with
          | [y0, y1], _ => exact ⟨_, _, rfl⟩
        have g0 := hf 0 _ rfl
        simp [hCi] at g0
        obtain ⟨n0, e0, _, w0⟩ := DataW.trod_int Try.underlying3 g0
        simp at e0
        subst e0
        have g1 := hf 1 _ rfl
        simp [hCu] at g1
        obtain ⟨n1, e1, _, w1⟩ := DataW.trod_int Try.underlying38 g1
        simp at e1
        subst e1
        exact ⟨⟨n0, n1⟩, fun _ => ⟨⟨by simpa using hat 0 (by omega), by simpa using hat 1 (by omega)⟩, w0, w1⟩⟩
      · exact ⟨⟨0, 0⟩, fun h => absurd h hil⟩
    obtain ⟨f, hf⟩ : ∃ f : Nat → Mv, ∀ i, i < len → (W.cell? ((ad.add (i * 2)).add 0) = some (.int .i64 (f i).kind) ∧ W.cell? ((ad.add (i * 2)).add 1) = some (.int .u64 (f i).key)) ∧ (f i).wf := ⟨fun i => Classical.choose (key i), fun i => Classical.choose_spec (key i)⟩
    refine ⟨(List.range len).map f, ⟨⟨by rw [flat_len Mv.len], some ad, cap, by simp, by simpa using hl, hm, fun h => (by cases h), fun hne => ?_⟩, fun p hp => ?_⟩⟩
    · have hl0 : 0 < len := by simpa using hne
      obtain ⟨b, o, rfl, _⟩ := ints_at (w := W) (a := ad) (k := .i64) (zs := [(f 0).kind]) (fun j hj => by
        have hj0 : j = 0 := by simpa using hj
        subst hj0
        have := (hf 0 hl0).1.1
        simpa [Addr.add] using this) (by simp)
      have hb0 : b < W.heap.size := lt_of_cell (o := o) (by have := (hf 0 hl0).1.1; simpa [add_mk] using this)
      refine ⟨b, o, rfl, hb0, fun i u hi => ?_⟩
      have hlen : ((List.range len).map f).length = len := by simp
      have hil : i < len * 2 := by
        have := (List.getElem?_eq_some_iff.1 hi).1
        rw [flat_len Mv.len, hlen] at this
        exact this
      obtain ⟨q, r, hqr, hr⟩ : ∃ q r, i = q * 2 + r ∧ r < 2 := ⟨i / 2, i % 2, by omega, by omega⟩
      subst hqr
      have hq : q < len := by omega
      rw [flat_at Mv.len _ q r (by rw [hlen]; exact hq) hr] at hi
      simp only [List.getElem_map, List.getElem_range] at hi
      have hk := (hf q hq).1
      simp only [add_mk] at hk
      have : r = 0 ∨ r = 1 := by omega
      rcases this with rfl | rfl
      · simp [Mv.cells] at hi; rw [← hi, ← Nat.add_assoc]; exact hk.1
      · simp [Mv.cells] at hi; rw [← hi, ← Nat.add_assoc]; exact hk.2
    · obtain ⟨i, hi, rfl⟩ := List.mem_map.1 hp
      exact (hf i (by simpa using hi)).2
end Go.Proofs.Ytdfnfdgkhflonaa
