/-
  Rows by what they have in columns: the groups in memory.
-/
import Derived.Test.YtdeiinfljfgmeaaHaMapP
import Derived.Test.YtdeiinfljfgmeaaMapV
namespace Go.Proofs.Ytdeiinfljfgmeaa
open Go.RowKit
set_option linter.unusedVariables false
set_option linter.unusedSimpArgs false

/-- The groups in memory, each in a block of its own. -/
structure GrpW (w0 : World) (base : Nat) (rows : List (List Int)) (o : List Int) (f : Lit → Option Value) (W : World) : Prop where
  no : ∀ s, grpL rows o s = [] → f (.string s) = none
  has : ∀ s, grpL rows o s ≠ [] → ∃ v vs g, f (.string s) = some v ∧ v.ownBlock = some g ∧ g < W.heap.size ∧ OldRows w0 base W v vs (grpL rows o s)
  apart : ∀ s s' v v' g, s ≠ s' → f (.string s) = some v → f (.string s') = some v' → v.ownBlock = some g → v'.ownBlock ≠ some g
theorem GrpW.nil (w0 : World) (base : Nat) (o : List Int) (W : World) : GrpW w0 base [] o (fun _ => none) W := ⟨fun _ _ => rfl, fun s h => absurd rfl h, fun _ _ _ _ _ _ h => by cases h⟩
/-- A row whose block is as it was. -/
theorem owns_same {W W' : World} {base g : Nat} {e : TypeId} {size n : Nat} {v : Value} {xs : List Value} (h : W.ownsRow base e size v n xs) (hv : v.ownBlock = some g) (hg : W'.heap[g]? = W.heap[g]?) : W'.ownsRow base e size v n xs := by
  obtain ⟨h1, h2⟩ := h
  refine ⟨h1, ?_⟩
  rcases h2 with h2 | ⟨g', cap, cur, rfl, hb, hh, r⟩
  · exact .inl h2
  · have e : g' = g := by simpa [Value.ownBlock] using hv
    subst e
    exact .inr ⟨g', cap, cur, rfl, hb, hg.trans hh, r⟩
theorem GrpW.later {w0 W W' : World} {base : Nat} {rows : List (List Int)} {o : List Int} {f : Lit → Option Value} (h : GrpW w0 base rows o f W) (hb : Below W.heap.size W W') : GrpW w0 base rows o f W' := by
  refine ⟨h.no, fun s hs => ?_, h.apart⟩
  obtain ⟨v, vs, g, e1, e2, e3, e4⟩ := h.has s hs
  exact ⟨v, vs, g, e1, e2, Nat.lt_of_lt_of_le e3 hb.size, ⟨owns_later e4.own hb, e4.len, e4.rows⟩⟩
/-- One row more. -/
theorem GrpW.next {w0 W W' : World} {base g' : Nat} {rows : List (List Int)} {r o : List Int} {f : Lit → Option Value} {own : Option Nat} {v' : Value} {vs' : List Value} (h : GrpW w0 base rows o f W)
    (hown : ∀ g, own = some g → ∃ v, f (.string (keyL (cellsL r o))) = some v ∧ v.ownBlock = some g) (hg : W.grownBy W' own) (hv' : v'.ownBlock = some g') (hlie : own = some g' ∨ W.heap.size ≤ g') (hlt : g' < W'.heap.size)
    (hO : OldRows w0 base W' v' vs' (grpL rows o (keyL (cellsL r o)) ++ [r])) : GrpW w0 base (rows ++ [r]) o (turnK f (.string (keyL (cellsL r o))) (some v')) W' := by
  obtain ⟨k, hk⟩ : ∃ k, keyL (cellsL r o) = k := ⟨_, rfl⟩
  rw [hk] at hown hO ⊢
  have hsame : grpL (rows ++ [r]) o k = grpL rows o k ++ [r] := by rw [grpL_snoc, if_pos hk]
  have hoth : ∀ s, s ≠ k → grpL (rows ++ [r]) o s = grpL rows o s := fun s hs => by rw [grpL_snoc, hk, if_neg (fun e => hs e.symm), List.append_nil]
  have ts : turnK f (.string k) (some v') (.string k) = some v' := turnK_same _ _ _
  have tO : ∀ s, s ≠ k → turnK f (.string k) (some v') (.string s) = f (.string s) := fun s hs => turnK_other (fun e => hs (by cases e; rfl))
  have hno : ∀ s v g, s ≠ k → f (.string s) = some v → v.ownBlock = some g → own ≠ some g := fun s v g hs hf hb e => by
    obtain ⟨u, hu, hub⟩ := hown g e
    exact h.apart k s u v g (fun q => hs q.symm) hu hf hub hb
  have hin : ∀ s v, f (.string s) = some v → ∃ g, v.ownBlock = some g ∧ g < W.heap.size := fun s v hf => by
    by_cases q : grpL rows o s = []
    · rw [h.no s q] at hf; cases hf
    · obtain ⟨u, us, g, e1, e2, e3, -⟩ := h.has s q
      rw [e1] at hf
      cases hf
      exact ⟨g, e2, e3⟩
  refine ⟨fun s hs => ?_, fun s hs => ?_, fun s s' v u g hss hf hf' hb => ?_⟩
  · by_cases q : s = k
    · subst q; rw [hsame] at hs; simp at hs
    · rw [tO s q]; exact h.no s (by rw [← hoth s q]; exact hs)
  · by_cases q : s = k
    · subst q
      exact ⟨v', vs', g', ts, hv', hlt, by rw [hsame]; exact hO⟩
    · rw [hoth s q] at hs ⊢
      obtain ⟨v, vs, g, e1, e2, e3, e4⟩ := h.has s hs
      have hkeep : W'.heap[g]? = W.heap[g]? := hg.block g e3 (fun e => hno s v g q e1 e2 e.symm)
      exact ⟨v, vs, g, by rw [tO s q]; exact e1, e2, Nat.lt_of_lt_of_le e3 hg.size, ⟨owns_same e4.own e2 hkeep, e4.len, e4.rows⟩⟩
  · by_cases q : s = k
    · subst q
      rw [ts] at hf
      cases hf
      rw [hv'] at hb
      cases hb
      rw [tO s' (fun e => hss e.symm)] at hf'
      obtain ⟨g2, c1, c2⟩ := hin s' u hf'
      intro e
      rcases hlie with e1 | e1
      · exact hno s' u _ (fun e => hss e.symm) hf' e e1
      · rw [c1] at e; cases e; omega
    · rw [tO s q] at hf
      by_cases q' : s' = k
      · subst q'
        rw [ts] at hf'
        cases hf'
        obtain ⟨g2, c1, c2⟩ := hin s v hf
        rw [c1] at hb
        cases hb
        intro e
        rw [hv'] at e
        cases e
        rcases hlie with e1 | e1
        · exact hno s v g' q hf c1 e1
        · omega
      · rw [tO s' q'] at hf'
        exact h.apart s s' v u g hss hf hf' hb
end Go.Proofs.Ytdeiinfljfgmeaa
