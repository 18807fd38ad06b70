/-
  The small laws that every seat wants. (Printed by mkcommon.py from the texts in which they first stood.)
-/
import Derived.ScopeJumps
import Derived.WalkMore
import Derived.Outline
import Derived.Deep.QuietTactic
import Derived.BigQuiet
import Derived.RangeFuncNested
import Derived.RangeFuncBox
import Derived.RangeFuncCalls
import Derived.RangeFuncLeaves
import Derived.RangeFuncBound
import Derived.Shelf.Abstract
import Derived.Laws.EntriesVeiled
import Derived.Test.YtplidcbfbonjlaaDoorLeOwn
namespace Go.Proofs.YtplidcbfbonjlaaDoor
open Go.RowKit Go.Shelf
set_option linter.unusedVariables false

/-- What is written: blocks of S alone. -/
structure Wrote (S : Nat → Prop) (w w' : World) : Prop where
  os : w'.os = w.os
  tape : w'.tape = w.tape
  output : w'.output = w.output
  size : w.heap.size ≤ w'.heap.size
  block : ∀ b, b < w.heap.size → ¬ S b → w'.heap[b]? = w.heap[b]?
theorem Wrote.of_below {S : Nat → Prop} {w w' : World} (h : Below w.heap.size w w') : Wrote S w w' := ⟨h.os, h.tape, h.output, h.size, fun b hb _ => h.block b hb⟩
theorem Wrote.trans {S : Nat → Prop} {w w' w'' : World} (h : Wrote S w w') (k : Wrote S w' w'') : Wrote S w w'' :=
  ⟨k.os.trans h.os, k.tape.trans h.tape, k.output.trans h.output, Nat.le_trans h.size k.size, fun b hb hS => (k.block b (Nat.lt_of_lt_of_le hb h.size) hS).trans (h.block b hb hS)⟩
theorem Wrote.set {S : Nat → Prop} {w w' : World} (h : Wrote S w w') {b i : Nat} (hb : S b) (u : Value) : Wrote S w (w'.setCell ⟨b, i, none⟩ u) :=
  h.trans ⟨rfl, rfl, rfl, by simp, fun c hc hS => Below.heap_setCell _ _ _ _ (fun e => hS (by have : c = b := e; rw [this]; exact hb))⟩
theorem Wrote.below {S : Nat → Prop} {B : Nat} {w w' : World} (h : Wrote S w w') (hS : ∀ b, S b → B ≤ b) (hB : B ≤ w.heap.size) : Below B w w' :=
  ⟨h.os, h.tape, h.output, h.size, fun b hb => h.block b (by omega) (fun e => by have := hS b e; omega)⟩
theorem least_of {p : Nat → Prop} (h : ∃ n, p n) : ∃ n, p n ∧ ∀ m, p m → n ≤ m := by
  obtain ⟨n, hn⟩ := h
  induction n using Nat.strongRecOn with
  | _ n ih =>
    by_cases h : ∃ m, m < n ∧ p m
    · obtain ⟨m, h1, h2⟩ := h
      exact ih m h1 h2
    · refine ⟨n, hn, fun m hm => ?_⟩
      by_cases hmn : m < n
      · exact absurd ⟨m, hmn, hm⟩ h
      · omega
open Classical in
/-- The least measure with which something holds. -/
noncomputable def leastG (J : Nat → Act → World → Prop) (a : Act) (w : World) : Nat := if h : ∃ n, J n a w then (least_of h).choose else 0
theorem leastG_at {J : Nat → Act → World → Prop} {a : Act} {w : World} (h : ∃ n, J n a w) : J (leastG J a w) a w := by
  unfold leastG
  rw [dif_pos h]
  exact (least_of h).choose_spec.1
theorem leastG_le {J : Nat → Act → World → Prop} {a : Act} {w : World} {n : Nat} (h : J n a w) : leastG J a w ≤ n := by
  unfold leastG
  rw [dif_pos ⟨n, h⟩]
  exact (least_of ⟨n, h⟩).choose_spec.2 n h
/-- The body of a scope, once: from what holds at the label, with a measure that is not in the frame. -/
theorem wp_scope_again {P : Program} {a : Act} {w : World} {Q : Exit → Act → World → Prop} {c rest : Code} (l : Nat) (J : Nat → Act → World → Prop) (hf : findLabel c l = some (Code.seq .skip rest))
    (pass : ∀ n a w, J n a w → rest.wp P (Exit.jump l (fun a' w' => ∃ n', n' < n ∧ J n' a' w') Q) a w)
    (first : (∀ n a w, J n a w → rest.wp P (Exit.jump l (fun a w => ∃ n, J n a w) Q) a w) → c.wp P (Exit.jump l (fun a w => ∃ n, J n a w) Q) a w) : (Code.scope c).wp P Q a w := by
  refine wp_scope_jumps l (fun a w => ∃ n, J n a w) (leastG J) hf (first fun n a w hJ => wp_mono (pass n a w hJ) ?_) fun a w hJ => wp_seq (wp_skip (wp_mono (pass _ a w (leastG_at hJ)) ?_))
  · intro e a' w' h
    cases e <;> first | exact h | exact ⟨h.1, h.2.imp fun _ h => h.2⟩
  · intro e a' w' h
    cases e <;> first | exact h | exact ⟨h.1, h.2.imp fun _ h => h.2, h.2.elim fun _ h => Nat.lt_of_le_of_lt (leastG_le h.2) h.1⟩
theorem below_set {B : Nat} {w w' : World} {b i : Nat} {u : Value} (h : Below B w w') (hb : B ≤ b) : Below B w (w'.setCell ⟨b, i, none⟩ u) := h.setCell (p := ⟨b, i, none⟩) hb u
/-- What was laid just ahead of a call stands behind it. -/
theorem new_kept {w w1 : World} {cs : Array Value} {t : TypeId} (hb : Below (w.alloc (.cells cs t)).heap.size (w.alloc (.cells cs t)) w1) : w1.heap[w.heap.size]? = some (.cells cs t (0, 0)) :=
  (hb.block _ (by simp)).trans (box_new _ _ _)
theorem new2 {w w1 : World} {u0 u1 : Value} {t : TypeId} (hb : Below (w.alloc (.cells #[u0, u1] t)).heap.size (w.alloc (.cells #[u0, u1] t)) w1) :
    w1.cell? ⟨w.heap.size, 0, none⟩ = some u0 ∧ w1.cell? ⟨w.heap.size, 1, none⟩ = some u1 ∧ w1.frozen? ⟨w.heap.size, 0, none⟩ = false ∧ w1.frozen? ⟨w.heap.size, 1, none⟩ = false ∧ w.heap.size < w1.heap.size := by
  have h := new_kept hb
  exact ⟨by simpa using box_cell (i := 0) h, by simpa using box_cell (i := 1) h, box_frozen h, box_frozen h, lt_of_block h⟩
theorem below_new {w w1 : World} {o : Obj} (hb : Below (w.alloc o).heap.size (w.alloc o) w1) : Below w.heap.size w w1 := later_trans (later_alloc w o) hb
theorem kept {W w1 : World} {b : Nat} {o : Obj} (hb : Below W.heap.size W w1) (h : W.heap[b]? = some o) : w1.heap[b]? = some o := (hb.block _ (lt_of_block h)).trans h
theorem new_keptD {w w1 : World} {cs : Array Value} {t : TypeId} (hb : Below (w.alloc (.cells cs t)).drew.heap.size (w.alloc (.cells cs t)).drew w1) : w1.heap[w.heap.size]? = some (.cells cs t (0, 0)) :=
  (hb.block _ (by show w.heap.size < (w.alloc (.cells cs t)).heap.size; simp)).trans (box_new _ _ _)
theorem two_of {W : World} {X : Nat} {u0 u1 : Value} {t : TypeId} (h : W.heap[X]? = some (.cells #[u0, u1] t (0, 0))) : W.cell? ⟨X, 0, none⟩ = some u0 ∧ W.cell? ⟨X, 1, none⟩ = some u1 ∧ W.frozen? ⟨X, 0, none⟩ = false ∧ W.frozen? ⟨X, 1, none⟩ = false ∧ X < W.heap.size :=
  ⟨box_cell (i := 0) h, box_cell (i := 1) h, box_frozen h, box_frozen h, lt_of_block h⟩
theorem wrap_u64 {x : Int} (h : 0 ≤ x) (h' : x ≤ 18446744073709551615) : IntKind.u64.wrap x = x := by
  unfold IntKind.wrap
  simp [IntKind.signed, IntKind.bits]
  omega
theorem three_of {W : World} {X : Nat} {u0 u1 u2 : Value} {t : TypeId} (h : W.heap[X]? = some (.cells #[u0, u1, u2] t (0, 0))) : W.cell? ⟨X, 0, none⟩ = some u0 ∧ W.cell? ⟨X, 1, none⟩ = some u1 ∧ W.cell? ⟨X, 2, none⟩ = some u2 ∧ W.frozen? ⟨X, 0, none⟩ = false ∧ W.frozen? ⟨X, 1, none⟩ = false ∧ W.frozen? ⟨X, 2, none⟩ = false ∧ X < W.heap.size :=
  ⟨box_cell (i := 0) h, box_cell (i := 1) h, box_cell (i := 2) h, box_frozen h, box_frozen h, box_frozen h, lt_of_block h⟩
/-- A row of the call's own stays where a row of another type grows. -/
theorem own_grown {w w' : World} {base base' : Nat} {e e' : TypeId} {size size' : Nat} {v v' : Value} {n n' : Nat} {xs xs' : List Value} (h : w.ownsRow base e size v n xs) (hg : w.grownBy w' v.ownBlock) (k : w.ownsRow base' e' size' v' n' xs') (hne : e ≠ e') : w'.ownsRow base' e' size' v' n' xs' := by
  obtain ⟨k1, k2⟩ := k
  refine ⟨k1, ?_⟩
  rcases k2 with k2 | ⟨g, cap, cur, hv, hg', hh, r⟩
  · exact .inl k2
  · exact .inr ⟨g, cap, cur, hv, hg', box_grown h hg hh hne, r⟩
theorem owns_setB {base : Nat} {W : World} {e : TypeId} {v : Value} {n : Nat} {xs : List Value} (h : W.ownsRow base e 1 v n xs) {b i : Nat} (hb : b < base) (u : Value) : (W.setCell ⟨b, i, none⟩ u).ownsRow base e 1 v n xs :=
  ownsRow_setCell_other h (a := ⟨b, i, none⟩) (fun h' => by have := owns_above h _ h'; simp at this; omega) u
/-- A row of rows. -/
def rowN (ls : List (List Int)) (r : Nat) : List Int := ls.getD r []
theorem rowN_mem {ls : List (List Int)} {r : Nat} (h : r < ls.length) : rowN ls r ∈ ls := by
  unfold rowN
  rw [List.getD_eq_getElem?_getD, List.getElem?_eq_getElem h]
  exact List.getElem_mem h
theorem rowN_at {ls : List (List Int)} {r : Nat} (h : r < ls.length) : rowN ls r = ls[r] := by
  unfold rowN
  rw [List.getD_eq_getElem?_getD, List.getElem?_eq_getElem h]; rfl
theorem getD_at {xs : List Int} {r : Nat} (h : r < xs.length) : xs.getD r 0 = xs[r] := by
  rw [List.getD_eq_getElem?_getD, List.getElem?_eq_getElem h]; rfl
/-- Rows of integers of one kind. -/
def SlRK (k : IntKind) (w : World) (v : Value) (ls : List (List Int)) : Prop := ∃ rv : Nat → Value, SlC w v ((List.range ls.length).map rv) ∧ ∀ r, r < ls.length → SlI k w (rv r) (rowN ls r)
theorem SlRK.later {k : IntKind} {w w' : World} {v : Value} {ls : List (List Int)} (h : SlRK k w v ls) (hb : Below w.heap.size w w') : SlRK k w' v ls := by
  obtain ⟨rv, h1, h2⟩ := h
  exact ⟨rv, h1.later hb, fun r hr => (h2 r hr).later hb⟩
theorem SlRK.open {k : IntKind} {w : World} {v : Value} {ls : List (List Int)} (h : SlRK k w v ls) :
    ∃ (a : Option Addr) (c : Nat), v = .slice a ls.length c ∧ ls.length ≤ c ∧ c ≤ 9223372036854775807 ∧ (a = none → c = 0) ∧
      (0 < ls.length → ∃ b o, a = some ⟨b, o, none⟩ ∧ b < w.heap.size ∧ ∀ r, r < ls.length → ∃ rv, w.cell? ⟨b, o + r, none⟩ = some rv ∧ SlI k w rv (rowN ls r)) := by
  obtain ⟨rv, ⟨a, c, rfl, h1, h2, h3, h4⟩, h5⟩ := h
  refine ⟨a, c, by simp, by simpa using h1, by simpa [maxLen] using h2, h3, fun h0 => ?_⟩
  obtain ⟨b, o, rfl, hlt, hc⟩ := h4 (by rw [Ne, List.map_eq_nil_iff, List.range_eq_nil]; omega)
  exact ⟨b, o, rfl, hlt, fun r hr => ⟨rv r, hc r _ (by simp [hr]), h5 r hr⟩⟩
theorem SlRK.nil (k : IntKind) (w : World) : SlRK k w (.slice none 0 0) [] := ⟨fun _ => .slice none 0 0, SlC.nil _, fun r hr => by simp at hr⟩
theorem SlRK.len {k : IntKind} {w : World} {v : Value} {ls : List (List Int)} (h : SlRK k w v ls) : ls.length ≤ 9223372036854775807 := by
  obtain ⟨a, c, -, h1, h2, -⟩ := h.open; omega
theorem box_kept {W W' : World} {row : Option Nat} {B b : Nat} {cs : Array Value} {e : TypeId} {fr : Nat × Nat} (h : W.heap[b]? = some (.cells cs e fr)) (hg : W.grownBy W' row) (hr : ∀ r, row = some r → B ≤ r ∧ ∃ o : Obj, W.heap[r]? = some o ∧ o.isCells = false) : W'.heap[b]? = some (.cells cs e fr) := by
  refine (hg.block b (lt_of_block h) ?_).trans h
  intro e1
  obtain ⟨_, o, h1, h2⟩ := hr b e1.symm
  rw [h] at h1
  cases h1
  simp [Obj.isCells] at h2
theorem ownsRow_kept {W W' : World} {row : Option Nat} {B base : Nat} {e : TypeId} {size : Nat} {v : Value} {n : Nat} {xs : List Value} (h : W.ownsRow base e size v n xs) (hg : W.grownBy W' row) (hr : ∀ r, row = some r → B ≤ r ∧ ∃ o : Obj, W.heap[r]? = some o ∧ o.isCells = false) : W'.ownsRow base e size v n xs := by
  obtain ⟨h1, h2⟩ := h
  refine ⟨h1, ?_⟩
  rcases h2 with h2 | ⟨g, cap, cur, hv, hg', hh, r⟩
  · exact .inl h2
  · exact .inr ⟨g, cap, cur, hv, hg', box_kept hh hg hr, r⟩
theorem own_isCells {w : World} {base : Nat} {e : TypeId} {size : Nat} {v : Value} {n : Nat} {xs : List Value} (h : w.ownsRow base e size v n xs) : ∀ (j : Nat) (o : Obj), v.ownBlock = some j → w.heap[j]? = some o → o.isCells = true := by
  intro j o h1 h2
  rcases h.2 with ⟨rfl, rfl⟩ | ⟨g, cap, cur, rfl, hg, hh, r⟩
  · simp [Value.ownBlock] at h1
  · simp [Value.ownBlock] at h1
    subst h1
    rw [hh] at h2
    cases h2
    rfl
theorem keeps_later {A C : World} (h : Below A.heap.size A C) (B : Nat) : KeepsFrom B A C := ⟨h.size, fun k o _ hk _ => (h.block k (Array.getElem?_eq_some_iff.1 hk).1).trans hk⟩
/-- What the iterator may turn: maps alone. -/
structure MapsOnly (A B : World) : Prop where
  os : B.os = A.os
  tape : B.tape = A.tape
  output : B.output = A.output
  size : A.heap.size ≤ B.heap.size
  block : ∀ (b : Nat) (o : Obj), A.heap[b]? = some o → (∀ es c, o ≠ Obj.map es c) → B.heap[b]? = some o
theorem MapsOnly.of_later {A B : World} (h : Below A.heap.size A B) : MapsOnly A B := ⟨h.os, h.tape, h.output, h.size, fun b o hb _ => (h.block _ (lt_of_block hb)).trans hb⟩
theorem MapsOnly.trans {A B C : World} (h : MapsOnly A B) (k : MapsOnly B C) : MapsOnly A C := ⟨k.os.trans h.os, k.tape.trans h.tape, k.output.trans h.output, Nat.le_trans h.size k.size, fun b o hb ho => k.block b o (h.block b o hb ho) ho⟩
theorem MapsOnly.cell {A B : World} (h : MapsOnly A B) {a : Addr} {u : Value} (hc : A.cell? a = some u) : B.cell? a = some u := by
  unfold World.cell? at hc ⊢
  cases hb : A.heap[a.block]? with
  | none => rw [hb] at hc; cases hc
  | some o =>
    rw [hb] at hc
    cases o with
    | cells c e f => rw [h.block _ _ hb (fun _ _ e => by cases e)]; exact hc
    | _ => cases hc
theorem SlC.maps {A B : World} {v : Value} {cs : List Value} (h : SlC A v cs) (hm : MapsOnly A B) : SlC B v cs := by
  obtain ⟨a, c, h1, h2, h3, h4, h5⟩ := h
  refine ⟨a, c, h1, h2, h3, h4, fun hn => ?_⟩
  obtain ⟨b, o, e, hb, hc⟩ := h5 hn
  exact ⟨b, o, e, Nat.lt_of_lt_of_le hb hm.size, fun i u hu => hm.cell (hc i u hu)⟩
theorem SlI.maps {k : IntKind} {A B : World} {v : Value} {xs : List Int} (h : SlI k A v xs) (hm : MapsOnly A B) : SlI k B v xs := ⟨h.1.maps hm, h.2⟩
theorem SlRK.maps {k : IntKind} {A B : World} {v : Value} {ls : List (List Int)} (h : SlRK k A v ls) (hm : MapsOnly A B) : SlRK k B v ls := by
  obtain ⟨rv, h1, h2⟩ := h
  exact ⟨rv, h1.maps hm, fun r hr => (h2 r hr).maps hm⟩
theorem owns_lt {w : World} {base : Nat} {e : TypeId} {g n c : Nat} {xs : List Value} (h : w.ownsRow base e 1 (.slice (some ⟨g, 0, none⟩) n c) n xs) : g < w.heap.size := (h.lt g rfl).2
/-- Behind a store into a map. -/
theorem MapsOnly.of_grown {A B : World} {b : Nat} (hm : ∃ es c, A.heap[b]? = some (.map es c)) (h : A.grownBy B (some b)) : MapsOnly A B := by
  refine ⟨h.os, h.tape, h.output, h.size, fun c o hc ho => (h.block c (lt_of_block hc) (fun e => ?_)).trans hc⟩
  cases e
  obtain ⟨es, clock, hh⟩ := hm
  rw [hh] at hc
  cases hc
  exact ho _ _ rfl
theorem wf_len (n : Nat) (h : n ≤ 9223372036854775807) : (Lit.int .i64 (n : Int)).wf = true := WalkArith.wf_i64 (by omega)
/-- Rows of the call's own, in a row of its own: of integers of the kind k (et: the integers' type, rt: the rows'). -/
structure OwnRK (k : IntKind) (et rt : TypeId) (base : Nat) (W : World) (v : Value) (ps : List (Value × List Int)) : Prop where
  own : W.ownsRow base rt 1 v ps.length (ps.map Prod.fst)
  rows : ∀ p ∈ ps, W.ownsRow base et 1 p.1 p.2.length (p.2.map (.int k)) ∧ ∀ x ∈ p.2, (Lit.int k x).wf = true
section
variable {k : IntKind} {et rt : TypeId} {base : Nat} {W W' : World} {v : Value} {ps : List (Value × List Int)}
theorem OwnRK.later (h : OwnRK k et rt base W v ps) (hb : Below W.heap.size W W') : OwnRK k et rt base W' v ps := ⟨owns_later h.own hb, fun p hp => ⟨owns_later (h.rows p hp).1 hb, (h.rows p hp).2⟩⟩
theorem OwnRK.down {base' : Nat} (h : OwnRK k et rt base W v ps) (hb : base' ≤ base) : OwnRK k et rt base' W v ps := ⟨owns_down h.own hb, fun p hp => ⟨owns_down (h.rows p hp).1 hb, (h.rows p hp).2⟩⟩
theorem OwnRK.nil (k : IntKind) (et rt : TypeId) (base : Nat) (W : World) : OwnRK k et rt base W (.slice none 0 0) [] := ⟨World.ownsRow_nil _ _ _ _, fun p hp => by cases hp⟩
theorem OwnRK.slR (h : OwnRK k et rt base W v ps) : SlRK k W v (ps.map Prod.snd) := by
  refine ⟨fun r => (ps.getD r (.slice none 0 0, [])).1, ?_, fun r hr => ?_⟩
  · have e : (List.range (ps.map Prod.snd).length).map (fun r => (ps.getD r (.slice none 0 0, [])).1) = ps.map Prod.fst := by
      refine List.ext_getElem (by simp) fun i h1 h2 => ?_
      simp at h2
      simp [List.getD, h2]
    rw [e]
    exact SlC.of_owns h.own
  · rw [List.length_map] at hr
    have hm : ps[r] ∈ ps := List.getElem_mem hr
    have e1 : (ps.getD r (.slice none 0 0, [])).1 = ps[r].1 := by simp [List.getD, hr]
    have e2 : rowN (ps.map Prod.snd) r = ps[r].2 := by rw [rowN_at (by simpa using hr), List.getElem_map]
    show SlI k W (ps.getD r (.slice none 0 0, [])).1 _
    rw [e1, e2]
    exact SlI.of_owns (h.rows _ hm).1 (h.rows _ hm).2
/-- One row more, laid by an append. -/
theorem OwnRK.next {wr wC w6 : World} {av avc : Option Addr} {cv q cvc g6 cap6 : Nat} {xs : List Int} (hne : rt ≠ et) (hown : OwnRK k et rt base wr (.slice av ps.length cv) ps) (bC : Below wr.heap.size wr wC) (hoC : wC.ownsRow base et 1 (.slice avc q cvc) q (xs.map (.int k))) (hq : xs.length = q) (hwf : ∀ x ∈ xs, (Lit.int k x).wf = true)
    (hown6 : w6.ownsRow base rt 1 (.slice (some ⟨g6, 0, none⟩) (ps.length + 1) cap6) (ps.length + 1) (ps.map Prod.fst ++ [.slice avc q cvc])) (hgrow6 : (wC.alloc (.cells #[.slice avc q cvc] rt)).grownBy w6 (Value.slice av ps.length cv).ownBlock) :
    OwnRK k et rt base w6 (.slice (some ⟨g6, 0, none⟩) (ps.length + 1) cap6) (ps ++ [(.slice avc q cvc, xs)]) := by
  have hA := later_trans bC (later_alloc wC (.cells #[.slice avc q cvc] rt))
  have hownA := owns_later hown.own hA
  refine ⟨by simpa using hown6, fun p hp => ?_⟩
  rcases List.mem_append.1 hp with hp | hp
  · exact ⟨own_grown hownA hgrow6 (owns_later (hown.rows p hp).1 hA) hne, (hown.rows p hp).2⟩
  · obtain rfl := List.mem_singleton.1 hp
    refine ⟨?_, hwf⟩
    show World.ownsRow _ _ _ _ (.slice avc q cvc) xs.length _
    rw [hq]
    exact own_grown hownA hgrow6 (owns_later hoC (later_alloc _ _)) hne
end
end Go.Proofs.YtplidcbfbonjlaaDoor
