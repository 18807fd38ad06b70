/-
  Rows of relations as they come.
-/
import Derived.Test.YtdeiinfljfgmeaaHaOpen
import Derived.Test.YtdeiinfljfgmeaaHaAll
namespace Go.Proofs.Ytdeiinfljfgmeaa
open Go.RowKit Go.ChangeShapes Go.WideShapes Go.Deep
set_option linter.unusedVariables false
set_option linter.unusedSimpArgs false

set_option maxRecDepth 100000 in
theorem came_rels {H : Type} {enc : TypeId × Value → H} {W : World} {base : Nat} {held : Bool} {fuel : Nat} {a : Option Addr} {len cap : Nat} {x : DataW H × List MemPlace} (h : DataW.trod enc Try.prog W base (fun _ => true) held fuel 44 [.slice a len cap] = some x) : ∃ Rs, SlRl W (.slice a len cap) Rs := by
  rcases open_slice Try.underlying44 h with ⟨h0, _⟩ | ⟨ad, len', cap', m, n, D, Pl, hcs, hb, hl, hm, hmm, hx, hi⟩
  · simp at h0
    obtain ⟨rfl, rfl, rfl⟩ := h0
    exact ⟨[], none, 0, rfl, by simp, fun h => by simp at h⟩
  · simp at hcs
    obtain ⟨rfl, rfl, rfl⟩ := hcs
    have hC : Try.prog.cellsOf 25 = 2 := by kernel_rfl
    have hCs : Try.prog.cellsOf 22 = 1 := by kernel_rfl
    have hCr : Try.prog.cellsOf 23 = 1 := by kernel_rfl
    have key : ∀ i, ∃ p : Rl × Value × Value, i < len → (W.cell? ((ad.add (i * 2)).add 0) = some p.2.1 ∧ W.cell? ((ad.add (i * 2)).add 1) = some p.2.2) ∧ RlR W p.2.1 p.2.2 p.1 := by
      intro i
      by_cases hil : i < len
      · obtain ⟨cs', hc, ht⟩ := hi i (by rw [hmm]; split <;> omega)
        rw [hC] at hc
        obtain ⟨_, hcl, hat⟩ := World.cells?_some hc
        obtain ⟨c0, c1, rfl⟩ : ∃ c0 c1, cs' = [c0, c1] := by
          match cs', hcl with
          | [c0, c1], _ => exact ⟨_, _, rfl⟩
        obtain ⟨y0, y1, n', _, _, g0, g1⟩ := trod_struct2 Try.underlying25 ht
        simp [hCr, hCs] at g0 g1
        obtain ⟨zs, hzs⟩ := came_intsI g0
        obtain ⟨ls, hls⟩ := came_rowsU g1
        exact ⟨(⟨zs, ls⟩, c0, c1), fun _ => ⟨⟨by simpa using hat 0 (by omega), by simpa using hat 1 (by omega)⟩, ⟨hzs, hls⟩⟩⟩
      · exact ⟨(⟨[], []⟩, undef, undef), fun h => absurd h hil⟩
    obtain ⟨f, hf⟩ : ∃ f : Nat → Rl × Value × Value, ∀ i, i < len → (W.cell? ((ad.add (i * 2)).add 0) = some (f i).2.1 ∧ W.cell? ((ad.add (i * 2)).add 1) = some (f i).2.2) ∧ RlR W (f i).2.1 (f i).2.2 (f i).1 := ⟨fun i => Classical.choose (key i), fun i => Classical.choose_spec (key i)⟩
    refine ⟨(List.range len).map fun i => (f i).1, some ad, cap, by simp, by simp; unfold maxLen at hm; omega, fun h0 => ?_⟩
    have hl0 : 0 < len := by simpa using h0
    have h00 := (hf 0 hl0).1.1
    obtain ⟨b, o, spot⟩ := ad
    have hspot : spot = none := by simpa [Addr.add] using World.cell?_spot h00
    subst hspot
    refine ⟨b, o, rfl, fun k hk => ?_⟩
    have hkl : k < len := by simpa using hk
    have hk1 := (hf k hkl).1
    rw [add_mk, add_mk, add_mk] at hk1
    have e : relN ((List.range len).map fun i => (f i).1) k = (f k).1 := by unfold relN; simp [List.getD, hkl]
    rw [e]
    exact ⟨(f k).2.1, (f k).2.2, hk1.1, hk1.2, (hf k hkl).2⟩
end Go.Proofs.Ytdeiinfljfgmeaa
