/-
  From the form's own reading of a slice of slices of integers to mine.
-/
import Derived.Test.YtdfnfdgkhflonaaRows
import Derived.WalkKit
import Derived.Deep.Slices
import Derived.Deep.Fields
import Derived.ChangeSame
import Derived.OpenShut
import Derived.SizedLaws
import Derived.Test.YtdfnfdgkhflonaaOpen
import Derived.Test.YtdfnfdgkhflonaaTLawB
namespace Go.Proofs.Ytdfnfdgkhflonaa
open Go.RowKit Go.ChangeShapes Go.WideShapes Go.Deep
set_option linter.unusedVariables false

theorem came_ints {H : Type} {enc : TypeId × Value → H} {W : World} {base : Nat} {held : Bool} {fuel : Nat} {v : Value} {x : DataW H × List MemPlace} (h : DataW.trod enc Try.prog W base (fun _ => true) held fuel 23 [v] = some x) : ∃ zs, SlI .u64 W v zs := by
  rcases open_ints Try.underlying23 Try.underlying38 (by kernel_rfl) h with ⟨hcs, _⟩ | ⟨x, l, c, zs, hcs, _, hl, hm, hz, _, hcell, hwz⟩
  · simp at hcs
    subst hcs
    exact ⟨[], SlI.nil _ _⟩
  · simp at hcs
    subst hcs
    exact ⟨_, SlI.of_came hl hm (by simpa using hz) hcell hwz⟩

theorem came_paths {H : Type} {enc : TypeId × Value → H} {W : World} {base : Nat} {held : Bool} {fuel : Nat} {a : Option Addr} {len cap : Nat} {d : DataW H} {p : List MemPlace} {ts : List TypeId} {ds : List (DataW H)} {j : Nat}
    (h : DataW.trod enc Try.prog W base (fun _ => true) held fuel 69 [.slice a len cap] = some (d, p)) (hsz : (DataW.weightsEach Try.prog ts ds).all (· ≤ reachBytes) = true) (hts : ts[j]? = some 69) (hds : ds[j]? = some d) :
    ∃ vs xss, PathsAt W (.slice a len cap) vs xss := by
  rcases open_slice1 Try.underlying69 (by kernel_rfl) h with ⟨h0, _⟩ | ⟨ad, len', cap', m, n, V, D, Pl, hcs, hb, hl, hm, hmm, hx, hi⟩
  · simp at h0
    obtain ⟨rfl, rfl, rfl⟩ := h0
    exact ⟨[], [], SlC.nil _, rfl, fun i hi => by simp at hi, by simp⟩
  · simp at hcs
    obtain ⟨rfl, rfl, rfl⟩ := hcs
    have key : ∀ i, ∃ zs : List Int, i < len → SlI .u64 W (V i) zs := by
      intro i
      by_cases hil : i < len
      · obtain ⟨zs, hz⟩ := came_ints (hi i (by rw [hmm]; split <;> omega)).2
        exact ⟨zs, fun _ => hz⟩
      · exact ⟨[], fun h => absurd h hil⟩
    obtain ⟨f, hf⟩ : ∃ f : Nat → List Int, ∀ i, i < len → SlI .u64 W (V i) (f i) := ⟨fun i => Classical.choose (key i), fun i => Classical.choose_spec (key i)⟩
    refine ⟨(List.range len).map V, (List.range len).map f, ⟨some ad, cap, by simp, by simpa using hl, hm, fun h => (by cases h), fun hne => ?_⟩, by simp, fun i h1 h2 => by simpa using hf i (by simpa using h1), ?_⟩
    · have hl0 : 0 < len := by
        rcases Nat.eq_zero_or_pos len with e | e
        · subst e; simp at hne
        · exact e
      have h0 := (hi 0 (by rw [hmm]; split <;> omega)).1
      obtain ⟨b, off, spot⟩ := ad
      have hspot : spot = none := by simpa [Addr.add] using World.cell?_spot h0
      subst hspot
      refine ⟨b, off, rfl, lt_of_cell (o := off) (by simpa [Addr.add] using h0), fun i u hu => ?_⟩
      have hil : i < len := by have := (List.getElem?_eq_some_iff.1 hu).1; simpa using this
      have h1 := (hi i (by rw [hmm]; split <;> omega)).1
      rw [add_mk] at h1
      simp [hil] at hu
      rw [← hu]
      exact h1
    · have hd : d = .slice ((List.range len).map D) ((List.range (m - len)).map fun j => D (len + j)) := by
        have := congrArg Prod.fst hx
        simpa using this
      subst hd
      have hs := sized_slice hsz hts hds Try.underlying69
      have hby : Try.prog.bytesOf 23 = 24 := by kernel_rfl
      rw [hby] at hs
      simp at hs
      have hr : reachBytes = 140737488351232 := by decide
      rw [hr] at hs
      simp
      omega
end Go.Proofs.Ytdfnfdgkhflonaa
