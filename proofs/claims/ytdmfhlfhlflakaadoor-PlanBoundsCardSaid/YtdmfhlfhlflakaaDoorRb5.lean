/-
  Rows of covers: in memory, and as they come.
-/
import Derived.Test.YtdmfhlfhlflakaaDoorRbs
import Derived.Test.YtdmfhlfhlflakaaDoorPlOpen
namespace Go.Proofs.YtdmfhlfhlflakaaDoor
open Go.RowKit Go.ChangeShapes Go.WideShapes Go.Deep
set_option linter.unusedVariables false
set_option linter.unusedSimpArgs false

def covN (cs : List Cov) (k : Nat) : Cov := cs.getD k ⟨[], 0⟩
/-- A row of covers. -/
def SlCv (W : World) (v : Value) (cs : List Cov) : Prop := ∃ a cap, v = .slice a cs.length cap ∧ cs.length ≤ 9223372036854775807 ∧
  (0 < cs.length → ∃ b o, a = some ⟨b, o, none⟩ ∧ ∀ k, k < cs.length → ∃ wv, W.cell? ⟨b, o + k * 2, none⟩ = some wv ∧ W.cell? ⟨b, o + k * 2 + 1, none⟩ = some (.int .i64 (covN cs k).of) ∧ SlI .i64 W wv (covN cs k).ws)
theorem SlCv.later {W W' : World} {v : Value} {cs : List Cov} (h : SlCv W v cs) (hb : Below W.heap.size W W') : SlCv W' v cs := by
  obtain ⟨a, cap, e, h1, h2⟩ := h
  refine ⟨a, cap, e, h1, fun h0 => ?_⟩
  obtain ⟨b, o, e2, h3⟩ := h2 h0
  refine ⟨b, o, e2, fun k hk => ?_⟩
  obtain ⟨wv, g1, g2, g3⟩ := h3 k hk
  exact ⟨wv, cell_next hb g1, cell_next hb g2, g3.later hb⟩

set_option maxRecDepth 100000 in
theorem came_covers {H : Type} {enc : TypeId × Value → H} {W : World} {base : Nat} {held : Bool} {fuel : Nat} {a : Option Addr} {len cap : Nat} {x : DataW H × List MemPlace} (h : DataW.trod enc Tryd.prog W base (fun _ => true) held fuel 57 [.slice a len cap] = some x) : ∃ cs, SlCv W (.slice a len cap) cs := by
  rcases open_slice Tryd.underlying57 h with ⟨h0, _⟩ | ⟨ad, len', cap', m, n, D, Pl, hcs, hb, hl, hm, hmm, hx, hi⟩
  · simp at h0
    obtain ⟨rfl, rfl, rfl⟩ := h0
    exact ⟨[], none, 0, rfl, by simp, fun h => by simp at h⟩
  · simp at hcs
    obtain ⟨rfl, rfl, rfl⟩ := hcs
    have hC : Tryd.prog.cellsOf 29 = 2 := by kernel_rfl
    have hCs : Tryd.prog.cellsOf 25 = 1 := by kernel_rfl
    have hCi : Tryd.prog.cellsOf 3 = 1 := by kernel_rfl
    have key : ∀ i, ∃ p : Cov × Value, i < len → (W.cell? ((ad.add (i * 2)).add 0) = some p.2 ∧ W.cell? ((ad.add (i * 2)).add 1) = some (.int .i64 p.1.of)) ∧ SlI .i64 W p.2 p.1.ws := by
      intro i
      by_cases hil : i < len
      · obtain ⟨cs', hc, ht⟩ := hi i (by rw [hmm]; split <;> omega)
        rw [hC] at hc
        obtain ⟨_, hcl, hat⟩ := World.cells?_some hc
        obtain ⟨ys, n', _, _, _, hyl, hf⟩ := DataW.trod_struct Tryd.underlying29 ht
        obtain ⟨c0, c1, rfl⟩ : ∃ c0 c1, cs' = [c0, c1] := by
          match cs', hcl with
          | [c0, c1], _ => exact ⟨_, _, rfl⟩
        obtain ⟨y0, y1, rfl⟩ : ∃ y0 y1, ys = [y0, y1] := by
          match ys, hyl with
          | [y0, y1], _ => exact ⟨_, _, rfl⟩
        have g0 := hf 0 _ rfl
        simp [hCs] at g0
        obtain ⟨zs, hzs⟩ := came_intsI g0
        have g1 := hf 1 _ rfl
        simp [hCi, hCs] at g1
        obtain ⟨n1, e1, _, w1⟩ := DataW.trod_int Tryd.underlying3 g1
        simp at e1
        subst e1
        exact ⟨(⟨zs, n1⟩, c0), fun _ => ⟨⟨by simpa using hat 0 (by omega), by simpa using hat 1 (by omega)⟩, hzs⟩⟩
      · exact ⟨(⟨[], 0⟩, undef), fun h => absurd h hil⟩
    obtain ⟨f, hf⟩ : ∃ f : Nat → Cov × Value, ∀ i, i < len → (W.cell? ((ad.add (i * 2)).add 0) = some (f i).2 ∧ W.cell? ((ad.add (i * 2)).add 1) = some (.int .i64 (f i).1.of)) ∧ SlI .i64 W (f i).2 (f i).1.ws := ⟨fun i => Classical.choose (key i), fun i => Classical.choose_spec (key i)⟩
    refine ⟨(List.range len).map fun i => (f i).1, some ad, cap, by simp, by simp; unfold maxLen at hm; omega, fun h0 => ?_⟩
    have hl0 : 0 < len := by simpa using h0
    have h00 := (hf 0 hl0).1.1
    obtain ⟨b, o, spot⟩ := ad
    have hspot : spot = none := by simpa [Addr.add] using World.cell?_spot h00
    subst hspot
    refine ⟨b, o, rfl, fun k hk => ?_⟩
    have hkl : k < len := by simpa using hk
    have hk1 := (hf k hkl).1
    rw [add_mk, add_mk, add_mk] at hk1
    have e : covN ((List.range len).map fun i => (f i).1) k = (f k).1 := by unfold covN; simp [List.getD, hkl]
    rw [e]
    exact ⟨(f k).2, hk1.1, hk1.2, (hf k hkl).2⟩
end Go.Proofs.YtdmfhlfhlflakaaDoor
