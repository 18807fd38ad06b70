/-
  From the form's own reading of slices of pairs and of branches to mine.
-/
import Derived.Test.YtdfnfdgkhflonaaRows
import Derived.WalkKit
import Derived.Deep.Slices
import Derived.Deep.Fields
import Derived.ChangeSame
import Derived.OpenShut
import Derived.Test.YtdfnfdgkhflonaaBase
import Derived.Test.YtdfnfdgkhflonaaBase2
import Derived.Test.YtdfnfdgkhflonaaOpen
namespace Go.Proofs.Ytdfnfdgkhflonaa
open Go.RowKit Go.ChangeShapes Go.WideShapes Go.Deep
set_option linter.unusedVariables false

set_option maxRecDepth 100000 in
theorem came_pair {H : Type} {enc : TypeId × Value → H} {W : World} {base : Nat} {spare : Nat → Bool} {held : Bool} {fuel : Nat} {a : Option Addr} {len cap : Nat} {x : DataW H × List MemPlace} (h : DataW.trod enc Try.prog W base spare held fuel 57 [.slice a len cap] = some x) : ∃ ps, SlP W (.slice a len cap) ps := by
  rcases open_slice Try.underlying57 h with ⟨h0, _⟩ | ⟨ad, len', cap', m, n, D, Pl, hcs, hb, hl, hm, hmm, hx, hi⟩
  · simp at h0
    obtain ⟨rfl, rfl, rfl⟩ := h0
    exact ⟨[], SlP.nil _⟩
  · simp at hcs
    obtain ⟨rfl, rfl, rfl⟩ := hcs
    have hC : Try.prog.cellsOf 59 = 2 := by kernel_rfl
    have hCu : Try.prog.cellsOf 38 = 1 := by kernel_rfl
    have hCi : Try.prog.cellsOf 3 = 1 := by kernel_rfl
    have key : ∀ i, ∃ p : Pr, i < len → (W.cell? ((ad.add (i * 2)).add 0) = some (.int .u64 p.a) ∧ W.cell? ((ad.add (i * 2)).add 1) = some (.int .u64 p.b)) ∧ p.wf := by
      intro i
      by_cases hil : i < len
      · obtain ⟨cs', hc, ht⟩ := hi i (by rw [hmm]; split <;> omega)
        rw [hC] at hc
        obtain ⟨_, hcl, hat⟩ := World.cells?_some hc
        obtain ⟨ys, n', _, _, _, hyl, hf⟩ := DataW.trod_struct Try.underlying59 ht
        obtain ⟨c0, c1, rfl⟩ : ∃ c0 c1, cs' = [c0, c1] := by
          match cs', hcl with
          | [c0, c1], _ => exact ⟨_, _, rfl⟩
        obtain ⟨y0, y1, rfl⟩ : ∃ y0 y1, ys = [y0, y1] := by
          match ys, hyl with
          | [y0, y1], _ => exact ⟨_, _, rfl⟩
        have g0 := hf 0 _ rfl
        simp [hCu] at g0
        obtain ⟨n0, e0, _, w0⟩ := DataW.trod_int Try.underlying38 g0
        simp at e0
        subst e0
        have g1 := hf 1 _ rfl
        simp [hCu] at g1
        obtain ⟨n1, e1, _, w1⟩ := DataW.trod_int Try.underlying38 g1
        simp at e1
        subst e1
        exact ⟨⟨n0, n1⟩, fun _ => ⟨⟨by simpa using hat 0 (by omega), by simpa using hat 1 (by omega)⟩, w0, w1⟩⟩
      · exact ⟨⟨0, 0⟩, fun h => absurd h hil⟩
    obtain ⟨f, hf⟩ : ∃ f : Nat → Pr, ∀ i, i < len → (W.cell? ((ad.add (i * 2)).add 0) = some (.int .u64 (f i).a) ∧ W.cell? ((ad.add (i * 2)).add 1) = some (.int .u64 (f i).b)) ∧ (f i).wf := ⟨fun i => Classical.choose (key i), fun i => Classical.choose_spec (key i)⟩
    refine ⟨(List.range len).map f, ⟨⟨by rw [flat_len Pr.len], some ad, cap, by simp, by simpa using hl, hm, fun h => (by cases h), fun hne => ?_⟩, fun p hp => ?_⟩⟩
    · have hl0 : 0 < len := by simpa using hne
      obtain ⟨b, o, rfl, _⟩ := ints_at (w := W) (a := ad) (k := .u64) (zs := [(f 0).a]) (fun j hj => by
        have hj0 : j = 0 := by simpa using hj
        subst hj0
        have := (hf 0 hl0).1.1
        simpa [Addr.add] using this) (by simp)
      have hb0 : b < W.heap.size := lt_of_cell (o := o) (by have := (hf 0 hl0).1.1; simpa [add_mk] using this)
      refine ⟨b, o, rfl, hb0, fun i u hi => ?_⟩
      have hlen : ((List.range len).map f).length = len := by simp
      have hil : i < len * 2 := by
        have := (List.getElem?_eq_some_iff.1 hi).1
        rw [flat_len Pr.len, hlen] at this
        exact this
      obtain ⟨q, r, hqr, hr⟩ : ∃ q r, i = q * 2 + r ∧ r < 2 := ⟨i / 2, i % 2, by omega, by omega⟩
      subst hqr
      have hq : q < len := by omega
      rw [flat_at Pr.len _ q r (by rw [hlen]; exact hq) hr] at hi
      simp only [List.getElem_map, List.getElem_range] at hi
      have hk := (hf q hq).1
      simp only [add_mk] at hk
      have : r = 0 ∨ r = 1 := by omega
      rcases this with rfl | rfl
      · simp [Pr.cells] at hi; rw [← hi, ← Nat.add_assoc]; exact hk.1
      · simp [Pr.cells] at hi; rw [← hi, ← Nat.add_assoc]; exact hk.2
    · obtain ⟨i, hi, rfl⟩ := List.mem_map.1 hp
      exact (hf i (by simpa using hi)).2

set_option maxRecDepth 100000 in
theorem came_branch {H : Type} {enc : TypeId × Value → H} {W : World} {base : Nat} {spare : Nat → Bool} {held : Bool} {fuel : Nat} {a : Option Addr} {len cap : Nat} {x : DataW H × List MemPlace} (h : DataW.trod enc Try.prog W base spare held fuel 22 [.slice a len cap] = some x) : ∃ ps, SlB W (.slice a len cap) ps := by
  rcases open_slice Try.underlying22 h with ⟨h0, _⟩ | ⟨ad, len', cap', m, n, D, Pl, hcs, hb, hl, hm, hmm, hx, hi⟩
  · simp at h0
    obtain ⟨rfl, rfl, rfl⟩ := h0
    exact ⟨[], SlB.nil _⟩
  · simp at hcs
    obtain ⟨rfl, rfl, rfl⟩ := hcs
    have hC : Try.prog.cellsOf 40 = 3 := by kernel_rfl
    have hCu : Try.prog.cellsOf 38 = 1 := by kernel_rfl
    have hCi : Try.prog.cellsOf 3 = 1 := by kernel_rfl
    have key : ∀ i, ∃ p : Br, i < len → (W.cell? ((ad.add (i * 3)).add 0) = some (.int .u64 p.k) ∧ W.cell? ((ad.add (i * 3)).add 1) = some (.int .i64 p.f) ∧ W.cell? ((ad.add (i * 3)).add 2) = some (.int .i64 p.t)) ∧ p.wf := by
      intro i
      by_cases hil : i < len
      · obtain ⟨cs', hc, ht⟩ := hi i (by rw [hmm]; split <;> omega)
        rw [hC] at hc
        obtain ⟨_, hcl, hat⟩ := World.cells?_some hc
        obtain ⟨ys, n', _, _, _, hyl, hf⟩ := DataW.trod_struct Try.underlying40 ht
        obtain ⟨c0, c1, c2, rfl⟩ : ∃ c0 c1 c2, cs' = [c0, c1, c2] := by
          match cs', hcl with
          | [c0, c1, c2], _ => exact ⟨_, _, _, rfl⟩
        obtain ⟨y0, y1, y2, rfl⟩ : ∃ y0 y1 y2, ys = [y0, y1, y2] := by
          match ys, hyl with
          | [y0, y1, y2], _ => exact ⟨_, _, _, rfl⟩
        have g0 := hf 0 _ rfl
        simp [hCu] at g0
        obtain ⟨n0, e0, _, w0⟩ := DataW.trod_int Try.underlying38 g0
        simp at e0
        subst e0
        have g1 := hf 1 _ rfl
        simp [hCi] at g1
        obtain ⟨n1, e1, _, w1⟩ := DataW.trod_int Try.underlying3 g1
        simp at e1
        subst e1
        have g2 := hf 2 _ rfl
        simp [hCi] at g2
        obtain ⟨n2, e2, _, w2⟩ := DataW.trod_int Try.underlying3 g2
        simp at e2
        subst e2
        exact ⟨⟨n0, n1, n2⟩, fun _ => ⟨⟨by simpa using hat 0 (by omega), by simpa using hat 1 (by omega), by simpa using hat 2 (by omega)⟩, w0, w1, w2⟩⟩
      · exact ⟨⟨0, 0, 0⟩, fun h => absurd h hil⟩
    obtain ⟨f, hf⟩ : ∃ f : Nat → Br, ∀ i, i < len → (W.cell? ((ad.add (i * 3)).add 0) = some (.int .u64 (f i).k) ∧ W.cell? ((ad.add (i * 3)).add 1) = some (.int .i64 (f i).f) ∧ W.cell? ((ad.add (i * 3)).add 2) = some (.int .i64 (f i).t)) ∧ (f i).wf := ⟨fun i => Classical.choose (key i), fun i => Classical.choose_spec (key i)⟩
    refine ⟨(List.range len).map f, ⟨⟨by rw [flat_len Br.len], some ad, cap, by simp, by simpa using hl, hm, fun h => (by cases h), fun hne => ?_⟩, fun p hp => ?_⟩⟩
    · have hl0 : 0 < len := by simpa using hne
      obtain ⟨b, o, rfl, _⟩ := ints_at (w := W) (a := ad) (k := .u64) (zs := [(f 0).k]) (fun j hj => by
        have hj0 : j = 0 := by simpa using hj
        subst hj0
        have := (hf 0 hl0).1.1
        simpa [Addr.add] using this) (by simp)
      have hb0 : b < W.heap.size := lt_of_cell (o := o) (by have := (hf 0 hl0).1.1; simpa [add_mk] using this)
      refine ⟨b, o, rfl, hb0, fun i u hi => ?_⟩
      have hlen : ((List.range len).map f).length = len := by simp
      have hil : i < len * 3 := by
        have := (List.getElem?_eq_some_iff.1 hi).1
        rw [flat_len Br.len, hlen] at this
        exact this
      obtain ⟨q, r, hqr, hr⟩ : ∃ q r, i = q * 3 + r ∧ r < 3 := ⟨i / 3, i % 3, by omega, by omega⟩
      subst hqr
      have hq : q < len := by omega
      rw [flat_at Br.len _ q r (by rw [hlen]; exact hq) hr] at hi
      simp only [List.getElem_map, List.getElem_range] at hi
      have hk := (hf q hq).1
      simp only [add_mk] at hk
      have : r = 0 ∨ r = 1 ∨ r = 2 := by omega
      rcases this with rfl | rfl | rfl
      · simp [Br.cells] at hi; rw [← hi, ← Nat.add_assoc]; exact hk.1
      · simp [Br.cells] at hi; rw [← hi, ← Nat.add_assoc]; exact hk.2.1
      · simp [Br.cells] at hi; rw [← hi, ← Nat.add_assoc]; exact hk.2.2
    · obtain ⟨i, hi, rfl⟩ := List.mem_map.1 hp
      exact (hf i (by simpa using hi)).2
end Go.Proofs.Ytdfnfdgkhflonaa
