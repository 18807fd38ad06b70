/-
  The plain law of the trie: no program in sight.
-/
import Derived.Test.YtdfnfdgkhflonaaBase
import Derived.Test.YtdfnfdgkhflonaaBase2
namespace Go.Proofs.Ytdfnfdgkhflonaa
open Go.RowKit
set_option linter.unusedVariables false

def Br.no : Br := ⟨0, 0, 0⟩
/-- Where the branches ahead of place i end. -/
def endAt (B : List Br) (i : Nat) : Int := if i = 0 then 0 else (B.getD (i - 1) Br.no).t
/-- The leaves of a branch rise. -/
def SegOk (L : List Int) (b : Br) : Prop := ∀ k : Nat, b.f < k → (k : Int) < b.t → L.getD (k - 1) 0 < L.getD k 0
/-- The branch at place i stands where it has to. -/
def BrOk (B : List Br) (L : List Int) (i : Nat) : Prop :=
  (B.getD i Br.no).f = endAt B i ∧ (B.getD i Br.no).f < (B.getD i Br.no).t ∧ (B.getD i Br.no).t ≤ L.length ∧ (i = 0 ∨ (B.getD (i - 1) Br.no).k < (B.getD i Br.no).k)
/-- A trie that may be. -/
def TrieOk (B : List Br) (L : List Int) : Prop := L.length ≤ 1048576 ∧ (∀ i, i < B.length → BrOk B L i ∧ SegOk L (B.getD i Br.no)) ∧ endAt B B.length = L.length

theorem endAt_nonneg {B : List Br} {L : List Int} {n : Nat} (h : ∀ i, i < n → BrOk B L i) : 0 ≤ endAt B n := by
  induction n with
  | zero => simp [endAt]
  | succ n ih =>
    have h1 := ih (fun i hi => h i (by omega))
    obtain ⟨h2, h3, _⟩ := h n (by omega)
    have e : endAt B (n + 1) = (B.getD n Br.no).t := by simp [endAt]
    omega
theorem endAt_le {B : List Br} {L : List Int} {n : Nat} (h : ∀ i, i < n → BrOk B L i) : endAt B n ≤ L.length := by
  cases n with
  | zero => simp [endAt]
  | succ n =>
    obtain ⟨_, _, h3, _⟩ := h n (by omega)
    simpa [endAt] using h3
end Go.Proofs.Ytdfnfdgkhflonaa
