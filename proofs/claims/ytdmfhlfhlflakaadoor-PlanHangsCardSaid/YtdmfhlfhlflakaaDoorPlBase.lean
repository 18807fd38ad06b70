/-
  What is written; a scope with a label jumped back to; the package variable wide.one. No walk.
-/
import Derived.ScopeJumps
import Derived.WalkMore
import Derived.Outline
import Derived.Deep.QuietTactic
import Derived.BigQuiet
import Derived.Test.YtdmfhlfhlflakaaDoorWiChk2
import Derived.Test.YtdmfhlfhlflakaaDoorPlLib
namespace Go.Proofs.YtdmfhlfhlflakaaDoor
open Go.RowKit
set_option linter.unusedVariables false

/-- What is written: blocks of S alone. -/
structure Wrote (S : Nat → Prop) (w w' : World) : Prop where
  os : w'.os = w.os
  tape : w'.tape = w.tape
  output : w'.output = w.output
  size : w.heap.size ≤ w'.heap.size
  block : ∀ b, b < w.heap.size → ¬ S b → w'.heap[b]? = w.heap[b]?
theorem Wrote.of_below {S : Nat → Prop} {w w' : World} (h : Below w.heap.size w w') : Wrote S w w' := ⟨h.os, h.tape, h.output, h.size, fun b hb _ => h.block b hb⟩
theorem Wrote.trans {S : Nat → Prop} {w w' w'' : World} (h : Wrote S w w') (k : Wrote S w' w'') : Wrote S w w'' :=
  ⟨k.os.trans h.os, k.tape.trans h.tape, k.output.trans h.output, Nat.le_trans h.size k.size, fun b hb hS => (k.block b (Nat.lt_of_lt_of_le hb h.size) hS).trans (h.block b hb hS)⟩
theorem Wrote.set {S : Nat → Prop} {w w' : World} (h : Wrote S w w') {b i : Nat} (hb : S b) (u : Value) : Wrote S w (w'.setCell ⟨b, i, none⟩ u) :=
  h.trans ⟨rfl, rfl, rfl, by simp, fun c hc hS => Below.heap_setCell _ _ _ _ (fun e => hS (by have : c = b := e; rw [this]; exact hb))⟩
theorem Wrote.below {S : Nat → Prop} {B : Nat} {w w' : World} (h : Wrote S w w') (hS : ∀ b, S b → B ≤ b) (hB : B ≤ w.heap.size) : Below B w w' :=
  ⟨h.os, h.tape, h.output, h.size, fun b hb => h.block b (by omega) (fun e => by have := hS b e; omega)⟩

theorem least_of {p : Nat → Prop} (h : ∃ n, p n) : ∃ n, p n ∧ ∀ m, p m → n ≤ m := by
  obtain ⟨n, hn⟩ := h
  induction n using Nat.strongRecOn with
  | _ n ih =>
    by_cases h : ∃ m, m < n ∧ p m
    · obtain ⟨m, h1, h2⟩ := h
      exact ih m h1 h2
    · refine ⟨n, hn, fun m hm => ?_⟩
      by_cases hmn : m < n
      · exact absurd ⟨m, hmn, hm⟩ h
      · omega
open Classical in
/-- The least measure with which something holds. -/
noncomputable def leastG (J : Nat → Act → World → Prop) (a : Act) (w : World) : Nat := if h : ∃ n, J n a w then (least_of h).choose else 0
theorem leastG_at {J : Nat → Act → World → Prop} {a : Act} {w : World} (h : ∃ n, J n a w) : J (leastG J a w) a w := by
  unfold leastG
  rw [dif_pos h]
  exact (least_of h).choose_spec.1
theorem leastG_le {J : Nat → Act → World → Prop} {a : Act} {w : World} {n : Nat} (h : J n a w) : leastG J a w ≤ n := by
  unfold leastG
  rw [dif_pos ⟨n, h⟩]
  exact (least_of ⟨n, h⟩).choose_spec.2 n h
/-- The body of a scope, once: from what holds at the label, with a measure that is not in the frame. -/
theorem wp_scope_again {P : Program} {a : Act} {w : World} {Q : Exit → Act → World → Prop} {c rest : Code} (l : Nat) (J : Nat → Act → World → Prop) (hf : findLabel c l = some (Code.seq .skip rest))
    (pass : ∀ n a w, J n a w → rest.wp P (Exit.jump l (fun a' w' => ∃ n', n' < n ∧ J n' a' w') Q) a w)
    (first : (∀ n a w, J n a w → rest.wp P (Exit.jump l (fun a w => ∃ n, J n a w) Q) a w) → c.wp P (Exit.jump l (fun a w => ∃ n, J n a w) Q) a w) : (Code.scope c).wp P Q a w := by
  refine wp_scope_jumps l (fun a w => ∃ n, J n a w) (leastG J) hf (first fun n a w hJ => wp_mono (pass n a w hJ) ?_) fun a w hJ => wp_seq (wp_skip (wp_mono (pass _ a w (leastG_at hJ)) ?_))
  · intro e a' w' h
    cases e <;> first | exact h | exact ⟨h.1, h.2.imp fun _ h => h.2⟩
  · intro e a' w' h
    cases e <;> first | exact h | exact ⟨h.1, h.2.imp fun _ h => h.2, h.2.elim fun _ h => Nat.lt_of_le_of_lt (leastG_le h.2) h.1⟩

theorem below_set {B : Nat} {w w' : World} {b i : Nat} {u : Value} (h : Below B w w') (hb : B ≤ b) : Below B w (w'.setCell ⟨b, i, none⟩ u) := h.setCell (p := ⟨b, i, none⟩) hb u
/-- The package variable wide.one reads as 1. -/
structure One (w : World) : Prop where
  c0 : w.cell? ⟨0, 0, none⟩ = some (.int .u64 0)
  c1 : w.cell? ⟨0, 1, none⟩ = some (.int .u64 1)
theorem One.later {w w' : World} (h : One w) (hb : Below w.heap.size w w') : One w' := ⟨cell_next hb h.c0, cell_next hb h.c1⟩

/-- A wide number in a box. -/
def WB (w : World) (x a : Nat) : Prop := w.heap[x]? = some (.cells #[.int .u64 ((a / 18446744073709551616 : Nat) : Int), .int .u64 ((a % 18446744073709551616 : Nat) : Int)] 35 (0, 0))
theorem WB.later {w w' : World} {x a : Nat} (h : WB w x a) (hb : Below w.heap.size w w') : WB w' x a := (hb.block _ (lt_of_block h)).trans h
end Go.Proofs.YtdmfhlfhlflakaaDoor
