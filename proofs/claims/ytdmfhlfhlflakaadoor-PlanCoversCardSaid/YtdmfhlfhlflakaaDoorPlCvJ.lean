/-
  PlanCovers, region 10: what stands of each operation that is listed. No walk.
-/
import Derived.Test.YtdmfhlfhlflakaaDoorPlLst
import Derived.Test.YtdmfhlfhlflakaaDoorInv2
namespace Go.Proofs.YtdmfhlfhlflakaaDoor
open Go.RowKit
set_option linter.unusedVariables false

/-- A row of the call's own that has got an element. -/
def rowG (B : Nat) (t : TypeId) (k : Nat) (xs : List Value) (w : World) (x : Value) : Prop := ∃ g cap, x = .slice (some ⟨g, 0, none⟩) k cap ∧ w.ownsRow B t 1 x k xs
theorem rowG.later {B : Nat} {t : TypeId} {k : Nat} {xs : List Value} {w w' : World} {x : Value} (h : rowG B t k xs w x) (hb : Below w.heap.size w w') : rowG B t k xs w' x := by
  obtain ⟨g, cap, e, ho⟩ := h
  exact ⟨g, cap, e, owns_later ho hb⟩
theorem rowG.grown {B B' : Nat} {t t' : TypeId} {k n : Nat} {xs ys : List Value} {w w' : World} {x v : Value} (h : rowG B t k xs w x) (ho : w.ownsRow B' t' 1 v n ys) (hg : w.grownBy w' v.ownBlock) (hne : t' ≠ t) : rowG B t k xs w' x := by
  obtain ⟨g, cap, e, hx⟩ := h
  exact ⟨g, cap, e, own_grown ho hg hx hne⟩
/-- A row of the call's own that is to get one. -/
def rowC (B : Nat) (t : TypeId) (k : Nat) (xs : List Value) (w : World) (x : Value) : Prop := ∃ av cv, x = .slice av k cv ∧ w.ownsRow B t 1 x k xs
/-- What it is to get. -/
def rowB (t : TypeId) (u : Value) (w : World) (x : Value) : Prop := ∃ b, x = .slice (some ⟨b, 0, none⟩) 1 1 ∧ w.heap[b]? = some (.cells #[u] t (0, 0))
/-- A shape's box. -/
def boxS (B : Nat) (cs : Array Value) (w : World) (x : Value) : Prop := ∃ X : Nat, x = .pointer (some ⟨X, 0, none⟩) ∧ B ≤ X ∧ w.heap[X]? = some (.cells cs 27 (0, 0))

/-- What stands of each operation that is listed. -/
def cvF (B Y : Nat) (m : Int) (ev sv : Value) (k : Nat) (rs : List Value) (zs : List Int) (more n : Int) : Nat → Array Bool → Act → World → Prop
  | 0, L, a, w => a.eval (.tmp 68) = .pointer (some ⟨Y, 0, none⟩)
  | 1, L, a, w => a.eval (.tmp 69) = .pointer (some ⟨Y, 0, none⟩)
  | 2, L, a, w => a.eval (.tmp 70) = .int .i64 m
  | 3, L, a, w => a.eval (.tmp 71) = .pointer (some ⟨Y, 0, none⟩)
  | 4, L, a, w => a.eval (.tmp 72) = .pointer (some ⟨Y, 1, none⟩)
  | 5, L, a, w => a.eval (.tmp 73) = ev
  | 6, L, a, w => L.getD 8 false = false → rowC B 25 k rs w (a.eval (.tmp 74))
  | 7, L, a, w => L.getD 8 false = false → rowB 25 (.slice none 0 0) w (a.eval (.tmp 75))
  | 8, L, a, w => rowG B 25 (k + 1) (rs ++ [.slice none 0 0]) w (a.eval (.tmp 76))
  | 9, L, a, w => L.getD 8 false = true ∧ ∃ x, a.eval (.tmp 77) = .agg #[.int .i64 m, x] ∧ rowG B 25 (k + 1) (rs ++ [.slice none 0 0]) w x
  | 10, L, a, w => a.eval (.tmp 78) = .pointer (some ⟨Y, 2, none⟩)
  | 11, L, a, w => a.eval (.tmp 79) = sv
  | 12, L, a, w => L.getD 18 false = false → rowC B 3 zs.length (zs.map (.int .i64)) w (a.eval (.tmp 80))
  | 13, L, a, w => a.eval (.tmp 81) = .int .i64 more
  | 14, L, a, w => a.eval (.tmp 82) = .int .u64 (IntKind.u64.wrap more)
  | 15, L, a, w => a.eval (.tmp 83) = .int .u64 n
  | 16, L, a, w => a.eval (.tmp 84) = .int .i64 n
  | 17, L, a, w => L.getD 18 false = false → rowB 3 (.int .i64 n) w (a.eval (.tmp 85))
  | 18, L, a, w => rowG B 3 (zs.length + 1) (zs.map (.int .i64) ++ [.int .i64 n]) w (a.eval (.tmp 86))
  | 19, L, a, w => (L.getD 8 false = true ∧ L.getD 18 false = true) ∧ ∃ x y, a.eval (.tmp 87) = .agg #[.int .i64 m, x, y] ∧ rowG B 25 (k + 1) (rs ++ [.slice none 0 0]) w x ∧ rowG B 3 (zs.length + 1) (zs.map (.int .i64) ++ [.int .i64 n]) w y
  | 20, L, a, w => L.getD 21 false = false → boxS B #[.int .i64 0, .slice none 0 0, .slice none 0 0] w (a.eval (.tmp 10))
  | 21, L, a, w => (L.getD 20 false = true ∧ L.getD 8 false = true ∧ L.getD 18 false = true) ∧ ∃ x y, boxS B #[.int .i64 m, x, y] w (a.eval (.tmp 10)) ∧ rowG B 25 (k + 1) (rs ++ [.slice none 0 0]) w x ∧ rowG B 3 (zs.length + 1) (zs.map (.int .i64) ++ [.int .i64 n]) w y
  | _, L, a, w => True
/-- The slot that an operation's fact speaks of. -/
def cvD : Nat → Nat
  | 0 => 68 | 1 => 69 | 2 => 70 | 3 => 71 | 4 => 72 | 5 => 73 | 6 => 74 | 7 => 75 | 8 => 76 | 9 => 77 | 10 => 78 | 11 => 79 | 12 => 80 | 13 => 81 | 14 => 82 | 15 => 83 | 16 => 84 | 17 => 85 | 18 => 86 | 19 => 87 | 20 => 10 | 21 => 10
  | _ => 0
section
variable {B Y : Nat} {m : Int} {ev sv : Value} {k : Nat} {rs : List Value} {zs : List Int} {more n : Int} {L : Array Bool} {a : Act} {w w' : World}
theorem rowC.later {t : TypeId} {xs : List Value} {x : Value} (h : rowC B t k xs w x) (hb : Below w.heap.size w w') : rowC B t k xs w' x := by
  obtain ⟨av, cv, e, ho⟩ := h
  exact ⟨av, cv, e, owns_later ho hb⟩
theorem rowB.later {t : TypeId} {u x : Value} (h : rowB t u w x) (hb : Below w.heap.size w w') : rowB t u w' x := by
  obtain ⟨b, e, ho⟩ := h
  exact ⟨b, e, kept hb ho⟩
theorem boxS.later {cs : Array Value} {x : Value} (h : boxS B cs w x) (hb : Below w.heap.size w w') : boxS B cs w' x := by
  obtain ⟨b, e, hB, ho⟩ := h
  exact ⟨b, e, hB, kept hb ho⟩
theorem up {L L' : Array Bool} (hL : ∀ j, L'.getD j false = false → L.getD j false = false) {j : Nat} (h : L.getD j false = true) : L'.getD j false = true := by
  cases h1 : L'.getD j false with
  | true => rfl
  | false => have := hL j h1; rw [this] at h; exact h
/-- The same frame's reads, a later world, no less listed. -/
theorem cvF_keep {L' : Array Bool} {a' : Act} {j : Nat} (h : cvF B Y m ev sv k rs zs more n j L a w) (he : j < 22 → a'.eval (.tmp (cvD j)) = a.eval (.tmp (cvD j))) (hL : ∀ j, L'.getD j false = false → L.getD j false = false) (hb : Below w.heap.size w w') : cvF B Y m ev sv k rs zs more n j L' a' w' := by
  match j, he, h with
  | 0, he, h => exact (he (by decide)).trans h
  | 1, he, h => exact (he (by decide)).trans h
  | 2, he, h => exact (he (by decide)).trans h
  | 3, he, h => exact (he (by decide)).trans h
  | 4, he, h => exact (he (by decide)).trans h
  | 5, he, h => exact (he (by decide)).trans h
  | 6, he, h => exact fun hl => by have h2 := (h (hL 8 hl)).later hb; rw [← (show a'.eval (.tmp 74) = a.eval (.tmp 74) from he (by decide))] at h2; exact h2
  | 7, he, h => exact fun hl => by have h2 := (h (hL 8 hl)).later hb; rw [← (show a'.eval (.tmp 75) = a.eval (.tmp 75) from he (by decide))] at h2; exact h2
  | 8, he, h => have h2 := rowG.later h hb; rw [← (show a'.eval (.tmp 76) = a.eval (.tmp 76) from he (by decide))] at h2; exact h2
  | 9, he, h => obtain ⟨h8, x, e, hx⟩ := h; exact ⟨up hL h8, x, (he (by decide)).trans e, hx.later hb⟩
  | 10, he, h => exact (he (by decide)).trans h
  | 11, he, h => exact (he (by decide)).trans h
  | 12, he, h => exact fun hl => by have h2 := (h (hL 18 hl)).later hb; rw [← (show a'.eval (.tmp 80) = a.eval (.tmp 80) from he (by decide))] at h2; exact h2
  | 13, he, h => exact (he (by decide)).trans h
  | 14, he, h => exact (he (by decide)).trans h
  | 15, he, h => exact (he (by decide)).trans h
  | 16, he, h => exact (he (by decide)).trans h
  | 17, he, h => exact fun hl => by have h2 := (h (hL 18 hl)).later hb; rw [← (show a'.eval (.tmp 85) = a.eval (.tmp 85) from he (by decide))] at h2; exact h2
  | 18, he, h => have h2 := rowG.later h hb; rw [← (show a'.eval (.tmp 86) = a.eval (.tmp 86) from he (by decide))] at h2; exact h2
  | 19, he, h => obtain ⟨⟨h8, h18⟩, x, y, e, hx, hy⟩ := h; exact ⟨⟨up hL h8, up hL h18⟩, x, y, (he (by decide)).trans e, hx.later hb, hy.later hb⟩
  | 20, he, h => exact fun hl => by have h2 := (h (hL 21 hl)).later hb; rw [← (show a'.eval (.tmp 10) = a.eval (.tmp 10) from he (by decide))] at h2; exact h2
  | 21, he, h =>
    obtain ⟨⟨h0, h8, h18⟩, x, y, hB, hx, hy⟩ := h
    refine ⟨⟨up hL h0, up hL h8, up hL h18⟩, x, y, ?_, hx.later hb, hy.later hb⟩
    have h2 := hB.later hb; rw [← (show a'.eval (.tmp 10) = a.eval (.tmp 10) from he (by decide))] at h2; exact h2
  | _ + 22, _, _ => trivial
/-- An append to the row of []int: the facts of all others. -/
theorem cvF_app1 {B' n' : Nat} {ys : List Value} {v : Value} {L' : Array Bool} {a' : Act} {j : Nat} (h : cvF B Y m ev sv k rs zs more n j L a w) (hj : j ≠ 8) (h0 : L.getD 8 false = false) (h1 : L'.getD 8 false = true) (he : j < 22 → a'.eval (.tmp (cvD j)) = a.eval (.tmp (cvD j))) (hL : ∀ j, L'.getD j false = false → L.getD j false = false) (ho : w.ownsRow B' 25 1 v n' ys) (hg : w.grownBy w' v.ownBlock) : cvF B Y m ev sv k rs zs more n j L' a' w' := by
  match j, he, h, hj with
  | 0, he, h, _ => exact (he (by decide)).trans h
  | 1, he, h, _ => exact (he (by decide)).trans h
  | 2, he, h, _ => exact (he (by decide)).trans h
  | 3, he, h, _ => exact (he (by decide)).trans h
  | 4, he, h, _ => exact (he (by decide)).trans h
  | 5, he, h, _ => exact (he (by decide)).trans h
  | 6, he, h, _ => exact fun hl => by rw [h1] at hl; cases hl
  | 7, he, h, _ => exact fun hl => by rw [h1] at hl; cases hl
  | 8, he, h, hj => exact absurd rfl hj
  | 9, he, h, _ => exact absurd h.1 (by rw [h0]; decide)
  | 10, he, h, _ => exact (he (by decide)).trans h
  | 11, he, h, _ => exact (he (by decide)).trans h
  | 12, he, h, _ =>
    intro hl
    obtain ⟨av, cv, e, hx⟩ := h (hL 18 hl)
    exact ⟨av, cv, (show a'.eval (.tmp 80) = a.eval (.tmp 80) from he (by decide)).trans e, by rw [show a'.eval (.tmp 80) = a.eval (.tmp 80) from he (by decide)]; exact own_grown ho hg hx (by decide)⟩
  | 13, he, h, _ => exact (he (by decide)).trans h
  | 14, he, h, _ => exact (he (by decide)).trans h
  | 15, he, h, _ => exact (he (by decide)).trans h
  | 16, he, h, _ => exact (he (by decide)).trans h
  | 17, he, h, _ =>
    intro hl
    obtain ⟨b, e, hx⟩ := h (hL 18 hl)
    exact ⟨b, (show a'.eval (.tmp 85) = a.eval (.tmp 85) from he (by decide)).trans e, box_grown ho hg hx (by decide)⟩
  | 18, he, h, _ =>
    have h2 := rowG.grown h ho hg (by decide)
    rw [← (show a'.eval (.tmp 86) = a.eval (.tmp 86) from he (by decide))] at h2
    exact h2
  | 19, he, h, _ => exact absurd h.1.1 (by rw [h0]; decide)
  | 20, he, h, _ =>
    intro hl
    obtain ⟨X, e, hB, hx⟩ := h (hL 21 hl)
    exact ⟨X, (show a'.eval (.tmp 10) = a.eval (.tmp 10) from he (by decide)).trans e, hB, box_grown ho hg hx (by decide)⟩
  | 21, he, h, _ => exact absurd h.1.2.1 (by rw [h0]; decide)
  | _ + 22, _, _, _ => trivial
/-- An append to the row of int: the facts of all others. -/
theorem cvF_app2 {B' n' : Nat} {ys : List Value} {v : Value} {L' : Array Bool} {a' : Act} {j : Nat} (h : cvF B Y m ev sv k rs zs more n j L a w) (hj : j ≠ 18) (h0 : L.getD 18 false = false) (h1 : L'.getD 18 false = true) (he : j < 22 → a'.eval (.tmp (cvD j)) = a.eval (.tmp (cvD j))) (hL : ∀ j, L'.getD j false = false → L.getD j false = false) (ho : w.ownsRow B' 3 1 v n' ys) (hg : w.grownBy w' v.ownBlock) : cvF B Y m ev sv k rs zs more n j L' a' w' := by
  match j, he, h, hj with
  | 0, he, h, _ => exact (he (by decide)).trans h
  | 1, he, h, _ => exact (he (by decide)).trans h
  | 2, he, h, _ => exact (he (by decide)).trans h
  | 3, he, h, _ => exact (he (by decide)).trans h
  | 4, he, h, _ => exact (he (by decide)).trans h
  | 5, he, h, _ => exact (he (by decide)).trans h
  | 6, he, h, _ =>
    intro hl
    obtain ⟨av, cv, e, hx⟩ := h (hL 8 hl)
    exact ⟨av, cv, (show a'.eval (.tmp 74) = a.eval (.tmp 74) from he (by decide)).trans e, by rw [show a'.eval (.tmp 74) = a.eval (.tmp 74) from he (by decide)]; exact own_grown ho hg hx (by decide)⟩
  | 7, he, h, _ =>
    intro hl
    obtain ⟨b, e, hx⟩ := h (hL 8 hl)
    exact ⟨b, (show a'.eval (.tmp 75) = a.eval (.tmp 75) from he (by decide)).trans e, box_grown ho hg hx (by decide)⟩
  | 8, he, h, _ =>
    have h2 := rowG.grown h ho hg (by decide)
    rw [← (show a'.eval (.tmp 76) = a.eval (.tmp 76) from he (by decide))] at h2
    exact h2
  | 9, he, h, _ => obtain ⟨h8, x, e, hx⟩ := h; exact ⟨up hL h8, x, (he (by decide)).trans e, hx.grown ho hg (by decide)⟩
  | 10, he, h, _ => exact (he (by decide)).trans h
  | 11, he, h, _ => exact (he (by decide)).trans h
  | 12, he, h, _ => exact fun hl => by rw [h1] at hl; cases hl
  | 13, he, h, _ => exact (he (by decide)).trans h
  | 14, he, h, _ => exact (he (by decide)).trans h
  | 15, he, h, _ => exact (he (by decide)).trans h
  | 16, he, h, _ => exact (he (by decide)).trans h
  | 17, he, h, _ => exact fun hl => by rw [h1] at hl; cases hl
  | 18, he, h, hj => exact absurd rfl hj
  | 19, he, h, _ => exact absurd h.1.2 (by rw [h0]; decide)
  | 20, he, h, _ =>
    intro hl
    obtain ⟨X, e, hB, hx⟩ := h (hL 21 hl)
    exact ⟨X, (show a'.eval (.tmp 10) = a.eval (.tmp 10) from he (by decide)).trans e, hB, box_grown ho hg hx (by decide)⟩
  | 21, he, h, _ => exact absurd h.1.2.2 (by rw [h0]; decide)
  | _ + 22, _, _, _ => trivial
/-- The region's slots. -/
abbrev cvS : List Nat := [68, 69, 70, 71, 72, 73, 74, 75, 76, 77, 78, 79, 80, 81, 82, 83, 84, 85, 86, 87, 10]
theorem set_less {i : Nat} (h0 : L.getD i true = false) : ∀ j, (L.setIfInBounds i true).getD j false = false → L.getD j false = false := by
  intro j hj
  rw [Inv.listed_set h0] at hj
  simp only [Bool.or_eq_false_iff] at hj
  exact hj.2
theorem cvD_ne : ∀ i, i < 21 → ∀ j, j < 21 → j ≠ i → cvD i ≠ cvD j := by decide
theorem cvD_in : ∀ i, i < 21 → cvD i ∈ cvS := by decide
theorem false_of {i : Nat} (h0 : L.getD i true = false) : L.getD i false = false := by
  rw [Array.getD_eq_getD_getElem?] at h0 ⊢
  cases h : L[i]? with
  | none => rfl
  | some b => rw [h] at h0; simpa using h0
theorem cv_put {i j : Nat} (hi : i < 21) (h0 : L.getD i true = false) (hj : j < 22) (hne : j ≠ i) (hf : cvF B Y m ev sv k rs zs more n j L a w) (v : Value) : (a.put (some (cvD i)) v).eval (.tmp (cvD j)) = a.eval (.tmp (cvD j)) := by
  refine Inv.eval_put_ne ?_ v
  rcases Nat.lt_or_ge j 21 with h | h
  · exact cvD_ne i hi j h hne
  · obtain rfl : j = 21 := by omega
    by_cases h20 : i = 20
    · subst h20
      have h1 : L.getD 20 false = true := hf.1.1
      rw [false_of h0] at h1
      cases h1
    · have : cvD 21 = cvD 20 := rfl
      rw [this]
      exact cvD_ne i hi 20 (by decide) (fun e => h20 e.symm)
/-- An operation that writes nothing old. -/
theorem cv_step {a0 : Act} {i : Nat} {v : Value} (hF : Inv.Fa 22 a0 cvS (cvF B Y m ev sv k rs zs more n) L a w) (hi : i < 21) (h0 : L.getD i true = false) (hb : Below w.heap.size w w') (new : cvF B Y m ev sv k rs zs more n i (L.setIfInBounds i true) (a.put (some (cvD i)) v) w') : Inv.Fa 22 a0 cvS (cvF B Y m ev sv k rs zs more n) (L.setIfInBounds i true) (a.put (some (cvD i)) v) w' :=
  hF.step h0 (cvD_in i hi) (fun j hj hne hl hf => cvF_keep hf (fun _ => cv_put hi h0 hj hne hf v) (set_less h0) hb) new
/-- A store into the shape's box: the facts of all others. -/
theorem cvF_box {w2 : World} {L' : Array Bool} {j : Nat} (h : cvF B Y m ev sv k rs zs more n j L a w) (hj : j ≠ 21) (h1 : L'.getD 21 false = true) (hL : ∀ j, L'.getD j false = false → L.getD j false = false) (ho : ∀ (t : TypeId) (n : Nat) (v : Value) (xs : List Value), t ≠ 27 → w.ownsRow B t 1 v n xs → w2.ownsRow B t 1 v n xs)
    (hb : ∀ (t : TypeId) (u : Value) (b : Nat), t ≠ 27 → w.heap[b]? = some (.cells #[u] t (0, 0)) → w2.heap[b]? = some (.cells #[u] t (0, 0))) : cvF B Y m ev sv k rs zs more n j L' a w2 := by
  match j, h, hj with
  | 0, h, _ => exact h
  | 1, h, _ => exact h
  | 2, h, _ => exact h
  | 3, h, _ => exact h
  | 4, h, _ => exact h
  | 5, h, _ => exact h
  | 6, h, _ =>
    intro hl
    obtain ⟨av, cv, e, hx⟩ := h (hL 8 hl)
    exact ⟨av, cv, e, ho _ _ _ _ (by decide) hx⟩
  | 7, h, _ =>
    intro hl
    obtain ⟨b, e, hx⟩ := h (hL 8 hl)
    exact ⟨b, e, hb _ _ _ (by decide) hx⟩
  | 8, h, _ => obtain ⟨g, cap, e, hx⟩ := h; exact ⟨g, cap, e, ho _ _ _ _ (by decide) hx⟩
  | 9, h, _ => obtain ⟨h8, x, e, g, cap, e2, hx⟩ := h; exact ⟨up hL h8, x, e, g, cap, e2, ho _ _ _ _ (by decide) hx⟩
  | 10, h, _ => exact h
  | 11, h, _ => exact h
  | 12, h, _ =>
    intro hl
    obtain ⟨av, cv, e, hx⟩ := h (hL 18 hl)
    exact ⟨av, cv, e, ho _ _ _ _ (by decide) hx⟩
  | 13, h, _ => exact h
  | 14, h, _ => exact h
  | 15, h, _ => exact h
  | 16, h, _ => exact h
  | 17, h, _ =>
    intro hl
    obtain ⟨b, e, hx⟩ := h (hL 18 hl)
    exact ⟨b, e, hb _ _ _ (by decide) hx⟩
  | 18, h, _ => obtain ⟨g, cap, e, hx⟩ := h; exact ⟨g, cap, e, ho _ _ _ _ (by decide) hx⟩
  | 19, h, _ =>
    obtain ⟨⟨h8, h18⟩, x, y, e, ⟨g, cap, e2, hx⟩, ⟨g', cap', e3, hy⟩⟩ := h
    exact ⟨⟨up hL h8, up hL h18⟩, x, y, e, ⟨g, cap, e2, ho _ _ _ _ (by decide) hx⟩, ⟨g', cap', e3, ho _ _ _ _ (by decide) hy⟩⟩
  | 20, h, _ => exact fun hl => by rw [h1] at hl; cases hl
  | 21, h, hj => exact absurd rfl hj
  | _ + 22, _, _ => trivial
/-- The operation that writes the box. -/
theorem cv_store {a0 : Act} {X : Nat} {x y : Value} (hF : Inv.Fa 22 a0 cvS (cvF B Y m ev sv k rs zs more n) L a w) (h0 : L.getD 21 true = false) (l20 : L.getD 20 false = true) (l8 : L.getD 8 false = true) (l18 : L.getD 18 false = true) (e : a.eval (.tmp 10) = .pointer (some ⟨X, 0, none⟩)) (hBX : B ≤ X) (hX : w.heap[X]? = some (.cells #[.int .i64 0, .slice none 0 0, .slice none 0 0] 27 (0, 0)))
    (gx : rowG B 25 (k + 1) (rs ++ [.slice none 0 0]) w x) (gy : rowG B 3 (zs.length + 1) (zs.map (.int .i64) ++ [.int .i64 n]) w y) :
    Inv.Fa 22 a0 cvS (cvF B Y m ev sv k rs zs more n) (L.setIfInBounds 21 true) a (((w.setCell ⟨X, 0, none⟩ (.int .i64 m)).setCell ⟨X, 1, none⟩ x).setCell ⟨X, 2, none⟩ y) := by
  have hl1 : (L.setIfInBounds 21 true).getD 21 false = true := by rw [Inv.listed_set h0]; simp
  have b1 := box_set (i := 0) hX (.int .i64 m)
  have b2 := box_set (i := 1) b1 x
  have b3 := box_set (i := 2) b2 y
  have ho : ∀ (t : TypeId) (n : Nat) (v : Value) (xs : List Value), t ≠ 27 → w.ownsRow B t 1 v n xs → (((w.setCell ⟨X, 0, none⟩ (.int .i64 m)).setCell ⟨X, 1, none⟩ x).setCell ⟨X, 2, none⟩ y).ownsRow B t 1 v n xs := fun t n v xs hne h => own_set (own_set (own_set h hX hne _) b1 hne _) b2 hne _
  have hb : ∀ (t : TypeId) (u : Value) (b : Nat), t ≠ 27 → w.heap[b]? = some (.cells #[u] t (0, 0)) → (((w.setCell ⟨X, 0, none⟩ (.int .i64 m)).setCell ⟨X, 1, none⟩ x).setCell ⟨X, 2, none⟩ y).heap[b]? = some (.cells #[u] t (0, 0)) := by
    intro t u b hne h
    have hbX : b ≠ X := by
      intro e
      subst e
      rw [h] at hX
      injection hX with hX
      injection hX with h1 h2
      exact hne h2
    exact box_other (box_other (box_other h hbX _) hbX _) hbX _
  refine hF.step0 h0 (fun j hj hne hl hf => cvF_box hf hne hl1 (set_less h0) ho hb) ?_
  obtain ⟨g1, c1, e1, o1⟩ := gx
  obtain ⟨g2, c2, e2, o2⟩ := gy
  refine ⟨⟨up (set_less h0) l20, up (set_less h0) l8, up (set_less h0) l18⟩, x, y, ⟨X, e, hBX, ?_⟩, ⟨g1, c1, e1, ho _ _ _ _ (by decide) o1⟩, ⟨g2, c2, e2, ho _ _ _ _ (by decide) o2⟩⟩
  simpa using b3
/-- Rows with one more, which is nil. -/
theorem SlRK.app {B : Nat} {W : World} {v : Value} {ls : List (List Int)} {rv : Nat → Value} (h : W.ownsRow B 25 1 v (ls.length + 1) ((List.range ls.length).map rv ++ [.slice none 0 0])) (hR : ∀ r, r < ls.length → SlI .i64 W (rv r) (rowN ls r)) : SlRK .i64 W v (ls ++ [[]]) := by
  refine ⟨fun r => if r < ls.length then rv r else .slice none 0 0, ?_, fun r hr => ?_⟩
  · have e : (List.range (ls ++ [[]]).length).map (fun r => if r < ls.length then rv r else .slice none 0 0) = (List.range ls.length).map rv ++ [.slice none 0 0] := by
      rw [List.length_append]
      show (List.range (ls.length + 1)).map _ = _
      rw [List.range_succ, List.map_append]
      congr 1
      · refine List.map_congr_left fun r hr => ?_
        rw [if_pos (List.mem_range.1 hr)]
      · simp
    rw [e]
    exact SlC.of_owns h
  · rw [List.length_append] at hr
    have hr' : r < ls.length + 1 := hr
    by_cases h1 : r < ls.length
    · have e : rowN (ls ++ [[]]) r = rowN ls r := by unfold rowN; simp [List.getD, List.getElem?_append_left h1]
      simp only [h1, if_true]
      rw [e]
      exact hR r h1
    · obtain rfl : r = ls.length := by omega
      have e : rowN (ls ++ [[]]) ls.length = [] := by unfold rowN; simp [List.getD]
      simp only [h1, if_false]
      rw [e]
      exact SlI.nil _ _
end
end Go.Proofs.YtdmfhlfhlflakaaDoor
