/-
  The variables as they are chosen: plainly; what the iterator and the body keep; the closure near.
-/
import Derived.Test.YtdmfhlfhlflakaaDoorPlMap
import Derived.Test.YtdmfhlfhlflakaaDoorPlRange
namespace Go.Proofs.YtdmfhlfhlflakaaDoor
open Go.RowKit Go.Maps Go.Shelf
set_option linter.unusedVariables false

/-- Has an edge the variable, and one of some? -/
def nearB (S : Shp) (T : List Int) (v : Int) : Bool := S.edges.any fun e => decide (v ∈ e) && meetsB T e
/-- A variable's size, greater than all where no edge has it. -/
def sizeG (S : Shp) (v : Int) : Int := (sizeO S v).getD 1048577
/-- Is a variable taken in the place of the one found so far? -/
def takeB (S : Shp) (at_ : Int) (near is : Bool) (v : Int) : Bool := decide (at_ < 0) || (is && !near) || (is == near && decide (sizeG S v < sizeG S at_))
/-- The variable found among the first ones, and whether it is near. -/
def pickTo (S : Shp) (T : List Int) : Nat → Int × Bool
  | 0 => (-1, false)
  | v + 1 => if (v : Int) ∈ T then pickTo S T v else if takeB S (pickTo S T v).1 (pickTo S T v).2 (nearB S T v) v = true then ((v : Int), nearB S T v) else pickTo S T v
theorem pickTo_skip {S : Shp} {T : List Int} {v : Nat} (h : (v : Int) ∈ T) : pickTo S T (v + 1) = pickTo S T v := by
  show (if (v : Int) ∈ T then _ else _) = _
  rw [if_pos h]
theorem pickTo_take {S : Shp} {T : List Int} {v : Nat} (h : ¬ (v : Int) ∈ T) (ht : takeB S (pickTo S T v).1 (pickTo S T v).2 (nearB S T v) v = true) : pickTo S T (v + 1) = ((v : Int), nearB S T v) := by
  show (if (v : Int) ∈ T then _ else _) = _
  rw [if_neg h, if_pos ht]
theorem pickTo_leave {S : Shp} {T : List Int} {v : Nat} (h : ¬ (v : Int) ∈ T) (ht : takeB S (pickTo S T v).1 (pickTo S T v).2 (nearB S T v) v = false) : pickTo S T (v + 1) = pickTo S T v := by
  show (if (v : Int) ∈ T then _ else _) = _
  rw [if_neg h, if_neg (by rw [ht]; decide)]
theorem pickTo_bound (S : Shp) (T : List Int) : ∀ v : Nat, -1 ≤ (pickTo S T v).1 ∧ (pickTo S T v).1 < v
  | 0 => ⟨Int.le_refl _, by show (-1 : Int) < 0; decide⟩
  | v + 1 => by
    have ih := pickTo_bound S T v
    show -1 ≤ (if (v : Int) ∈ T then pickTo S T v else if takeB S (pickTo S T v).1 (pickTo S T v).2 (nearB S T v) v = true then ((v : Int), nearB S T v) else pickTo S T v).1 ∧ (if (v : Int) ∈ T then pickTo S T v else if takeB S (pickTo S T v).1 (pickTo S T v).2 (nearB S T v) v = true then ((v : Int), nearB S T v) else pickTo S T v).1 < ((v + 1 : Nat) : Int)
    split
    · omega
    · split
      · constructor
        · show (-1 : Int) ≤ v; omega
        · show (v : Int) < _; omega
      · omega
/-- The first variables that are chosen. -/
def chosenTo (S : Shp) : Nat → List Int
  | 0 => []
  | k + 1 => chosenTo S k ++ [(pickTo S (chosenTo S k) S.many.toNat).1]
theorem chosenTo_len (S : Shp) : ∀ k, (chosenTo S k).length = k
  | 0 => rfl
  | k + 1 => by
    show (chosenTo S k ++ [_]).length = _
    rw [List.length_append, chosenTo_len S k]; rfl

theorem near1_any {xv xt b n : Nat} {T xs : List Int} {v : Int} {ev : Value} {W : World} (hv : W.heap[xv]? = some (.cells #[.int .i64 v] 3 (0, 0))) (ht : W.heap[xt]? = some (.cells #[.map (some b)] 69 (0, 0))) (hm : MpI W b n T) (he : SlI .i64 W ev xs) :
    Calls Tryd.prog 103 #[ev, .pointer (some ⟨xv, 0, none⟩), .pointer (some ⟨xt, 0, none⟩)] W fun e w' => e = .returned (.bool (decide (v ∈ xs) && meetsB T xs)) ∧ Below W.heap.size W w' := by
  have c0 : W.cell? ⟨xv, 0, none⟩ = some (.int .i64 v) := by simpa using box_cell (i := 0) hv
  have t0 : W.cell? ⟨xt, 0, none⟩ = some (.map (some b)) := by simpa using box_cell (i := 0) ht
  have HC := Lib.hid (Contains_any ev xs v W he)
  have HM := Lib.hid (meets_any ev xs b n T W he hm)
  obtain ⟨a, c, rfl, -⟩ := he.open
  clear hv ht hm he
  by_cases h : v ∈ xs
  · rw [decide_eq_true h, Bool.true_and]
    rw [decide_eq_true h] at HC
    clear h
    go_enter Tryd.func103, Tryd.ntmps103
    go_wp2_with fail
    refine HC.out.mono ?_
    rintro e w' ⟨rfl, rfl⟩
    go_wp2_with fail
    refine HM.out.mono ?_
    rintro e w1 ⟨rfl, hb⟩
    go_wp2_with fail
    go_ret
    exact ⟨rfl, hb⟩
  · rw [decide_eq_false h, Bool.false_and]
    rw [decide_eq_false h] at HC
    clear h
    go_enter Tryd.func103, Tryd.ntmps103
    go_wp2_with fail
    refine HC.out.mono ?_
    rintro e w' ⟨rfl, rfl⟩
    go_wp2_with fail
    go_ret
    exact ⟨rfl, Below.refl _ _⟩

/-- What the iterator may turn: maps alone. -/
structure MapsOnly (A B : World) : Prop where
  os : B.os = A.os
  tape : B.tape = A.tape
  output : B.output = A.output
  size : A.heap.size ≤ B.heap.size
  block : ∀ (b : Nat) (o : Obj), A.heap[b]? = some o → (∀ es c, o ≠ Obj.map es c) → B.heap[b]? = some o
theorem MapsOnly.of_later {A B : World} (h : Below A.heap.size A B) : MapsOnly A B := ⟨h.os, h.tape, h.output, h.size, fun b o hb _ => (h.block _ (lt_of_block hb)).trans hb⟩
theorem MapsOnly.trans {A B C : World} (h : MapsOnly A B) (k : MapsOnly B C) : MapsOnly A C := ⟨k.os.trans h.os, k.tape.trans h.tape, k.output.trans h.output, Nat.le_trans h.size k.size, fun b o hb ho => k.block b o (h.block b o hb ho) ho⟩
theorem MapsOnly.grown {A B : World} {b n : Nat} {T : List Int} (hm : MpI A b n T) (h : A.grownBy B (some b)) : MapsOnly A B := by
  refine ⟨h.os, h.tape, h.output, h.size, fun c o hc ho => (h.block c (lt_of_block hc) (fun e => ?_)).trans hc⟩
  cases e
  obtain ⟨D, ⟨es, clock, hh, -⟩, -⟩ := hm
  rw [hh] at hc
  cases hc
  exact ho _ _ rfl
/-- .. and nothing below n0. -/
structure ChI (n0 : Nat) (A B : World) : Prop where
  maps : MapsOnly A B
  bel : Below n0 A B
theorem ChI.later {n0 : Nat} {A B : World} (h : Below A.heap.size A B) (hn : n0 ≤ A.heap.size) : ChI n0 A B := ⟨MapsOnly.of_later h, h.mono hn⟩
theorem ChI.grown {n0 : Nat} {A B : World} {b n : Nat} {T : List Int} (hm : MpI A b n T) (h : A.grownBy B (some b)) (hb : n0 ≤ b) : ChI n0 A B :=
  ⟨MapsOnly.grown hm h, (Below.refl n0 A).grown h (by have := hm.lt; omega) (fun k e => by cases e; exact hb)⟩
theorem ChI.rest {n0 : Nat} (A B : World) (h : ChI n0 A B) (b : Nat) : (∀ st, A.heap[b]? = some (Obj.loop st) → B.heap[b]? = some (Obj.loop st)) ∧ ∀ d, A.heap[b]? = some (Obj.deferred d) → B.heap[b]? = some (Obj.deferred d) :=
  ⟨fun st hs => h.maps.block _ _ hs (fun _ _ e => by cases e), fun d hs => h.maps.block _ _ hs (fun _ _ e => by cases e)⟩
/-- What the body of the range leaves alone: all that is no number and no row of numbers; and what lies below n0. -/
structure KeepI (n0 : Nat) (A B : World) : Prop where
  bel : Below n0 A B
  keep : ∀ (b : Nat) (o : Obj), A.heap[b]? = some o → (o.isCells = true ∨ o.isWalk = true) → (∀ cs e fr, o = Obj.cells cs e fr → e ≠ 3 ∧ e ≠ 25) → B.heap[b]? = some o
theorem KeepI.trans {n0 : Nat} {A B C : World} (h : KeepI n0 A B) (k : KeepI n0 B C) : KeepI n0 A C := ⟨h.bel.trans k.bel, fun b o hb hi ho => k.keep b o (h.keep b o hb hi ho) hi ho⟩
theorem KeepI.put {n0 B : Nat} (hn : n0 ≤ B) (W : World) (l : Nat) (o o' : Obj) (hl : B ≤ l) (h : W.heap[l]? = some o) (hc : o.isCells = false) (hw : o.isWalk = false) : KeepI n0 W (W.putObj l o') := by
  refine ⟨⟨rfl, rfl, rfl, by simp [World.putObj], fun b hb => World.putObj_heap_other (by omega)⟩, fun b o2 hb hi ho => ?_⟩
  have hne : b ≠ l := fun e => by
    subst e
    rw [h] at hb
    cases hb
    rw [hc, hw] at hi
    simp at hi
  exact (World.putObj_heap_other hne).trans hb
theorem KeepI.mp {n0 : Nat} {A B : World} {b n : Nat} {T : List Int} (h : KeepI n0 A B) (hm : MpI A b n T) : MpI B b n T := by
  obtain ⟨D, ⟨es, clock, hh, r⟩, h2⟩ := hm
  exact ⟨D, ⟨es, clock, h.keep _ _ hh (.inr rfl) (fun _ _ _ e => by cases e), r⟩, h2⟩
/-- A told variable. -/
def encI (x : Int) : Array Value := #[.int .i64 x]
end Go.Proofs.YtdmfhlfhlflakaaDoor
