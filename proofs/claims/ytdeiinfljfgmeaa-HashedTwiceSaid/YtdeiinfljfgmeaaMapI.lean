/-
  A map of int to int that the call makes, 1 at just some numbers. (Printed by mkhalib.py.)
-/
import Derived.Maps.OwnIn
import Derived.Maps.OwnSet
import Derived.Test.YtdeiinfljfgmeaaHaLib
namespace Go.Proofs.Ytdeiinfljfgmeaa
open Go.RowKit Go.Maps
set_option linter.unusedVariables false

theorem lawI : Keyed Try.prog 3 := int_keyed Try.underlying3
theorem zeroI (w : World) : (zeroValue 3).run Try.prog w = .ok (.int .i64 0) w := by kernel_rfl
abbrev i64 (n : Int) : DataW Unit := .lit (.int .i64 n)
/-- Is it among them? 1 or 0. -/
def inI (l : List Int) (x : Int) : Int := if x ∈ l then 1 else 0
/-- Block b is a map, 1 at just the numbers of l. -/
def MpI (w : World) (b n : Nat) (l : List Int) : Prop :=
  ∃ D : DataW Unit, w.ownsMap Try.prog 3 (plainElem Try.prog 3) b n D ∧ ∀ x, (Lit.int .i64 x).wf = true → D.atKey (.int .i64 x) (i64 0) = i64 (inI l x)
theorem MpI.later {w w' : World} {b n : Nat} {l : List Int} (h : MpI w b n l) (hb : Below w.heap.size w w') : MpI w' b n l := by
  obtain ⟨D, h1, h2⟩ := h
  refine ⟨D, ?_, h2⟩
  obtain ⟨es, clock, hh, r⟩ := h1
  exact ⟨es, clock, (hb.block _ (lt_of_block hh)).trans hh, r⟩
theorem MpI.made (w : World) : MpI (w.alloc (.map #[] 0)) w.heap.size 0 [] := ⟨.map [], World.ownsMap_made _ _ _ _, fun x hx => rfl⟩
theorem MpI.lt {w : World} {b n : Nat} {l : List Int} (h : MpI w b n l) : b < w.heap.size := by obtain ⟨D, h1, -⟩ := h; exact h1.lt
theorem MpI.mono {w : World} {b n n' : Nat} {l : List Int} (h : MpI w b n l) (hn : n ≤ n') : MpI w b n' l := by obtain ⟨D, h1, h2⟩ := h; exact ⟨D, h1.mono hn, h2⟩
theorem i64_inj {a b : Int} (h : (i64 a : DataW Unit) = i64 b) : a = b := by
  simpa using h
theorem MpI.look {w : World} {b n : Nat} {l : List Int} (h : MpI w b n l) {x : Int} (hx : (Lit.int .i64 x).wf = true) : (Instr.lookup 94 (.map (some b)) (.int .i64 x) false).run Try.prog w = .ok (.int .i64 (inI l x)) w := by
  obtain ⟨D, h1, h2⟩ := h
  obtain ⟨c, hrun, hat, -⟩ := h1.lookup_int lawI Try.underlying94 Try.underlying3 (zeroI _) (keyOf_int_mk Try.underlying3 hx)
  rw [hrun]
  have := (h2 x hx).symm.trans hat
  rw [i64_inj this]
theorem MpI.put {w w' : World} {b n : Nat} {l : List Int} {x : Int} {D : DataW Unit} (h2 : ∀ x, (Lit.int .i64 x).wf = true → D.atKey (.int .i64 x) (i64 0) = i64 (inI l x)) (hx : (Lit.int .i64 x).wf = true)
    (hm : w.ownsMap Try.prog 3 (plainElem Try.prog 3) b n D) (h1 : w'.ownsMap Try.prog 3 (plainElem Try.prog 3) b (n + 1) (D.put (.int .i64 x) (i64 1))) : MpI w' b (n + 1) (l ++ [x]) := by
  refine ⟨_, h1, fun y hy => ?_⟩
  by_cases e : y = x
  · subst e
    rw [atKey_put_same (by obtain ⟨es, clock, _, _, _, hD⟩ := hm; exact ⟨_, hD⟩) (by trivial)]
    unfold inI
    rw [if_pos (by simp)]
  · rw [atKey_put_other (by simpa using e), h2 y hy]
    unfold inI
    by_cases h : y ∈ l
    · rw [if_pos h, if_pos (by simp [h])]
    · rw [if_neg h, if_neg (by simp [h, e])]
theorem inI_one {l : List Int} {x : Int} : (inI l x == 1) = decide (x ∈ l) := by
  unfold inI
  by_cases h : x ∈ l
  · rw [if_pos h, decide_eq_true h]; rfl
  · rw [if_neg h, decide_eq_false h]; rfl
theorem MapsOnly.grown {A B : World} {b n : Nat} {T : List Int} (hm : MpI A b n T) (h : A.grownBy B (some b)) : MapsOnly A B := by
  refine ⟨h.os, h.tape, h.output, h.size, fun c o hc ho => (h.block c (lt_of_block hc) (fun e => ?_)).trans hc⟩
  cases e
  obtain ⟨D, ⟨es, clock, hh, -⟩, -⟩ := hm
  rw [hh] at hc
  cases hc
  exact ho _ _ rfl
theorem cover_no {n j : Nat} {p : Nat → Bool} (hj : j < n) (h : p j = false) : (List.range n).all p = false := by
  rw [List.all_eq_false]; exact ⟨j, List.mem_range.2 hj, by rw [h]; decide⟩
theorem cover_yes {n : Nat} {p : Nat → Bool} (h : ∀ j, j < n → p j = true) : (List.range n).all p = true := by
  rw [List.all_eq_true]; exact fun j hj => h j (List.mem_range.1 hj)
end Go.Proofs.Ytdeiinfljfgmeaa
