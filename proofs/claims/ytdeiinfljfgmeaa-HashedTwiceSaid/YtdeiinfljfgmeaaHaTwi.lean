/-
  A map of uint64 to int that the call makes, 1 at just some numbers; and plainly: the rows that are picked by all values of a column are all rows. (Printed by mktwi.py: the map's laws are XMapI's.)
-/
import Derived.Maps.OwnIn
import Derived.Maps.OwnSet
import Derived.Test.YtdeiinfljfgmeaaHaJn
namespace Go.Proofs.Ytdeiinfljfgmeaa
open Go.RowKit Go.Maps
set_option linter.unusedVariables false

theorem lawU : Keyed Try.prog 38 := int_keyed Try.underlying38
/-- Block b is a map, 1 at just the numbers of l (of 64 bits). -/
def MpU (w : World) (b n : Nat) (l : List Int) : Prop :=
  ∃ D : DataW Unit, w.ownsMap Try.prog 38 (plainElem Try.prog 3) b n D ∧ ∀ x, (Lit.int .u64 x).wf = true → D.atKey (.int .u64 x) (i64 0) = i64 (inI l x)
theorem MpU.later {w w' : World} {b n : Nat} {l : List Int} (h : MpU w b n l) (hb : Below w.heap.size w w') : MpU w' b n l := by
  obtain ⟨D, h1, h2⟩ := h
  refine ⟨D, ?_, h2⟩
  obtain ⟨es, clock, hh, r⟩ := h1
  exact ⟨es, clock, (hb.block _ (lt_of_block hh)).trans hh, r⟩
theorem MpU.made (w : World) : MpU (w.alloc (.map #[] 0)) w.heap.size 0 [] := ⟨.map [], World.ownsMap_made _ _ _ _, fun x hx => rfl⟩
theorem MpU.lt {w : World} {b n : Nat} {l : List Int} (h : MpU w b n l) : b < w.heap.size := by obtain ⟨D, h1, -⟩ := h; exact h1.lt
theorem MpU.mono {w : World} {b n n' : Nat} {l : List Int} (h : MpU w b n l) (hn : n ≤ n') : MpU w b n' l := by obtain ⟨D, h1, h2⟩ := h; exact ⟨D, h1.mono hn, h2⟩
theorem MpU.look {w : World} {b n : Nat} {l : List Int} (h : MpU w b n l) {x : Int} (hx : (Lit.int .u64 x).wf = true) : (Instr.lookup 53 (.map (some b)) (.int .u64 x) false).run Try.prog w = .ok (.int .i64 (inI l x)) w := by
  obtain ⟨D, h1, h2⟩ := h
  obtain ⟨c, hrun, hat, -⟩ := h1.lookup_int lawU Try.underlying53 Try.underlying3 (zeroI _) (keyOf_int_mk Try.underlying38 hx)
  rw [hrun]
  have := (h2 x hx).symm.trans hat
  rw [i64_inj this]
theorem MpU.put {w w' : World} {b n : Nat} {l : List Int} {x : Int} {D : DataW Unit} (h2 : ∀ x, (Lit.int .u64 x).wf = true → D.atKey (.int .u64 x) (i64 0) = i64 (inI l x)) (hx : (Lit.int .u64 x).wf = true)
    (hm : w.ownsMap Try.prog 38 (plainElem Try.prog 3) b n D) (h1 : w'.ownsMap Try.prog 38 (plainElem Try.prog 3) b (n + 1) (D.put (.int .u64 x) (i64 1))) : MpU w' b (n + 1) (l ++ [x]) := by
  refine ⟨_, h1, fun y hy => ?_⟩
  by_cases e : y = x
  · subst e
    rw [atKey_put_same (by obtain ⟨es, clock, _, _, _, hD⟩ := hm; exact ⟨_, hD⟩) (by trivial)]
    unfold inI
    rw [if_pos (by simp)]
  · rw [atKey_put_other (by simpa using e), h2 y hy]
    unfold inI
    by_cases h : y ∈ l
    · rw [if_pos h, if_pos (by simp [h])]
    · rw [if_neg h, if_neg (by simp [h, e])]
/-- A variable's own place. -/
theorem idxI_own {vs : List Int} (hn : vs.Nodup) {i : Nat} (hi : i < vs.length) : idxI vs vs[i] = i := by
  unfold idxI
  rw [if_pos (List.getElem_mem hi), hn.idxOf_getElem i hi]
/-- The rows that have one of some values in a column. -/
def Some1 (R : Rl) (i : Nat) (M : List Int) (acc : List (List Int)) : Prop := Wd R.vars.length acc ∧ ∀ r, r ∈ acc ↔ r ∈ R.rows ∧ r.getD i 0 ∈ M
theorem Some1.nil (R : Rl) (i : Nat) : Some1 R i [] [] := ⟨fun r hr => (by cases hr), fun r => (by simp)⟩
theorem pick_rows {R : Rl} (hR : Ok R) {i : Nat} (hi : i < R.vars.length) (x : Int) (r : List Int) : r ∈ (pickL R R.vars[i] x).rows ↔ r ∈ R.rows ∧ r.getD i 0 = x := by
  unfold pickL
  simp only [idxI_own hR.nod hi, Int.toNat_natCast]
  rw [ofL_mem (n := R.vars.length) (fun s hs => hR.wd s (List.mem_filter.1 hs).1), List.mem_filter, decide_eq_true_iff]
theorem Some1.next {R : Rl} {i : Nat} {M : List Int} {acc : List (List Int)} (h : Some1 R i M acc) (hR : Ok R) (hi : i < R.vars.length) (x : Int) : Some1 R i (M ++ [x]) (acc ++ (pickL R R.vars[i] x).rows) := by
  refine ⟨fun r hr => ?_, fun r => ?_⟩
  · rcases List.mem_append.1 hr with hr | hr
    · exact h.1 r hr
    · exact hR.wd r ((pick_rows hR hi x r).1 hr).1
  · rw [List.mem_append, h.2, pick_rows hR hi, List.mem_append, List.mem_singleton]
    constructor
    · rintro (⟨h1, h2⟩ | ⟨h1, h2⟩)
      · exact ⟨h1, .inl h2⟩
      · exact ⟨h1, .inr h2⟩
    · rintro ⟨h1, h2 | h2⟩
      · exact .inl ⟨h1, h2⟩
      · exact .inr ⟨h1, h2⟩
theorem pick_len (R : Rl) (v x : Int) : (pickL R v x).rows.length ≤ R.rows.length := Nat.le_trans (ofL_len _) (List.length_filter_le _ _)
theorem pick_pos {R : Rl} (hR : Ok R) {i : Nat} (hi : i < R.vars.length) {r : List Int} (hr : r ∈ R.rows) : 0 < (pickL R R.vars[i] (r.getD i 0)).rows.length :=
  List.length_pos_of_mem ((pick_rows hR hi _ r).2 ⟨hr, rfl⟩)
/-- All values: all rows. -/
theorem Some1.all {R : Rl} {i : Nat} {M : List Int} {acc : List (List Int)} (h : Some1 R i M acc) (hR : Ok R) (hM : ∀ r ∈ R.rows, r.getD i 0 ∈ M) : (⟨R.vars, ofL acc⟩ : Rl) = R := by
  have e : R.rows = ofL acc := ofL_is h.1 hR.rise fun r => by
    rw [h.2]
    exact ⟨fun hr => ⟨hr, hM r hr⟩, fun hr => hr.1⟩
  rw [← e]
theorem Some1.bad {R : Rl} {i : Nat} {M : List Int} {acc : List (List Int)} (h : Some1 R i M acc) (hR : rightB R = true) : (colB R.vars && !badL R.vars.length acc) = true := by
  rw [((rightB_iff R).1 hR).1, Bool.true_and]
  unfold badL
  rw [Bool.not_eq_true', List.any_eq_false]
  intro r hr
  rw [h.1 r hr]
  simp
theorem once_take {o : List Int} (h : Once o) (k : Nat) : Once (o.take k) := once_iff.2 ((once_iff.1 h).sublist (List.take_sublist k o))
theorem has_take {vs o : List Int} (h : hasL vs o = true) (k : Nat) : hasL vs (o.take k) = true := List.all_eq_true.2 fun v hv => List.all_eq_true.1 h v (List.mem_of_mem_take hv)
theorem has_self {vs o : List Int} (h : ∀ v ∈ o, v ∈ vs) : hasL vs o = true := List.all_eq_true.2 fun v hv => decide_eq_true (h v hv)
theorem has_iff {vs o : List Int} (h : hasL vs o = true) : ∀ v ∈ o, v ∈ vs := fun v hv => of_decide_eq_true (List.all_eq_true.1 h v hv)
end Go.Proofs.Ytdeiinfljfgmeaa
