/-
  A region that clones rows, appends one and boxes a hypergraph: what stands of each operation that is listed. No walk.
-/
import Derived.Test.YtplidcbfbonjlaaDoorHzMore
import Derived.Test.YtplidcbfbonjlaaDoorInv2
namespace Go.Proofs.YtplidcbfbonjlaaDoor
open Go.RowKit
set_option linter.unusedVariables false

inductive Tg
  | val | clone | cell | grown | agg | box | store
deriving DecidableEq
/-- What is cloned and appended; the numbers of the append, the store and the box. -/
structure ApP where
  B : Nat
  n : Nat
  xs : List Value
  x : Value
  m : Value
  q : Nat
  s : Nat
  b : Nat
def rowGr (p : ApP) (w : World) (x : Value) : Prop := ∃ g cap, x = .slice (some ⟨g, 0, none⟩) (p.n + 1) cap ∧ w.ownsRow p.B 27 1 x (p.n + 1) (p.xs ++ [p.x])
def boxHy (p : ApP) (cs : Array Value) (w : World) (x : Value) : Prop := ∃ X : Nat, x = .pointer (some ⟨X, 0, none⟩) ∧ p.B ≤ X ∧ w.heap[X]? = some (.cells cs 24 (0, 0))
def FK (p : ApP) (v : Value) : Tg → Value → Array Bool → World → Prop
  | .val, u, _, _ => u = v
  | .clone, u, L, w => L.getD p.q false = false → ∃ av cv, u = .slice av p.n cv ∧ w.ownsRow p.B 27 1 u p.n p.xs
  | .cell, u, L, w => L.getD p.q false = false → ∃ b, u = .slice (some ⟨b, 0, none⟩) 1 1 ∧ w.heap[b]? = some (.cells #[p.x] 27 (0, 0))
  | .grown, u, _, w => rowGr p w u
  | .agg, u, L, w => L.getD p.q false = true ∧ ∃ x, u = .agg #[p.m, x] ∧ rowGr p w x
  | .box, u, L, w => L.getD p.s false = false → boxHy p #[.int .i64 0, .slice none 0 0] w u
  | .store, u, L, w => (L.getD p.b false = true ∧ L.getD p.q false = true) ∧ ∃ x, boxHy p #[p.m, x] w u ∧ rowGr p w x
theorem upT {L L' : Array Bool} (hL : ∀ j, L'.getD j false = false → L.getD j false = false) {j : Nat} (h : L.getD j false = true) : L'.getD j false = true := by
  cases h1 : L'.getD j false with
  | true => rfl
  | false => have := hL j h1; rw [this] at h; exact h
theorem false_of' {L : Array Bool} {i : Nat} (h : L.getD i true = false) : L.getD i false = false := by
  rw [Array.getD_eq_getD_getElem?] at h ⊢
  cases e : L[i]? with
  | none => rw [e] at h; cases h
  | some b => rw [e] at h; exact h
theorem set_less' {L : Array Bool} {i : Nat} (h0 : L.getD i true = false) : ∀ j, (L.setIfInBounds i true).getD j false = false → L.getD j false = false := fun j h => by
  rw [Inv.listed_set h0] at h
  exact (Bool.or_eq_false_iff.1 h).2
theorem set_true' {L : Array Bool} {i : Nat} (h0 : L.getD i true = false) : (L.setIfInBounds i true).getD i false = true := by
  rw [Inv.listed_set h0]; simp
theorem rowGr.later {p : ApP} {w w' : World} {x : Value} (h : rowGr p w x) (hb : Below w.heap.size w w') : rowGr p w' x := by
  obtain ⟨g, cap, e, ho⟩ := h
  exact ⟨g, cap, e, owns_later ho hb⟩
theorem FK.keep {p : ApP} {v u : Value} {k : Tg} {L L' : Array Bool} {w w' : World} (h : FK p v k u L w) (hL : ∀ j, L'.getD j false = false → L.getD j false = false) (hb : Below w.heap.size w w') : FK p v k u L' w' := by
  cases k with
  | val => exact h
  | clone => exact fun hl => by obtain ⟨a, c, e, ho⟩ := h (hL _ hl); exact ⟨a, c, e, owns_later ho hb⟩
  | cell => exact fun hl => by obtain ⟨b, e, ho⟩ := h (hL _ hl); exact ⟨b, e, kept hb ho⟩
  | grown => exact rowGr.later h hb
  | agg => obtain ⟨h1, x, e, hx⟩ := h; exact ⟨upT hL h1, x, e, hx.later hb⟩
  | box => exact fun hl => by obtain ⟨X, e, hB, ho⟩ := h (hL _ hl); exact ⟨X, e, hB, kept hb ho⟩
  | store => obtain ⟨⟨h1, h2⟩, x, ⟨X, e, hB, ho⟩, hx⟩ := h; exact ⟨⟨upT hL h1, upT hL h2⟩, x, ⟨X, e, hB, kept hb ho⟩, hx.later hb⟩
/-- The append: the facts of all others. -/
theorem FK.app {p : ApP} {v u vC : Value} {k : Tg} {L L' : Array Bool} {w w' : World} (h : FK p v k u L w) (hk : k ≠ .grown) (h0 : L.getD p.q false = false) (h1 : L'.getD p.q false = true) (hL : ∀ j, L'.getD j false = false → L.getD j false = false)
    (ho : w.ownsRow p.B 27 1 vC p.n p.xs) (hg : w.grownBy w' vC.ownBlock) : FK p v k u L' w' := by
  cases k with
  | val => exact h
  | clone => exact fun hl => by rw [h1] at hl; cases hl
  | cell => exact fun hl => by rw [h1] at hl; cases hl
  | grown => exact absurd rfl hk
  | agg => exact absurd h.1 (by rw [h0]; decide)
  | box => exact fun hl => by obtain ⟨X, e, hB, hx⟩ := h (hL _ hl); exact ⟨X, e, hB, box_grown ho hg hx (by decide)⟩
  | store => exact absurd h.1.2 (by rw [h0]; decide)
/-- The store: the facts of all others. -/
theorem FK.put {p : ApP} {v u : Value} {k : Tg} {L L' : Array Bool} {w w' : World} (h : FK p v k u L w) (hk : k ≠ .store) (h1 : L'.getD p.s false = true) (hL : ∀ j, L'.getD j false = false → L.getD j false = false)
    (ho : ∀ (n : Nat) (v : Value) (xs : List Value), w.ownsRow p.B 27 1 v n xs → w'.ownsRow p.B 27 1 v n xs)
    (hb : ∀ (u : Value) (b : Nat), w.heap[b]? = some (.cells #[u] 27 (0, 0)) → w'.heap[b]? = some (.cells #[u] 27 (0, 0))) : FK p v k u L' w' := by
  cases k with
  | val => exact h
  | clone => exact fun hl => by obtain ⟨a, c, e, hx⟩ := h (hL _ hl); exact ⟨a, c, e, ho _ _ _ hx⟩
  | cell => exact fun hl => by obtain ⟨b, e, hx⟩ := h (hL _ hl); exact ⟨b, e, hb _ _ hx⟩
  | grown => obtain ⟨g, c, e, hx⟩ := h; exact ⟨g, c, e, ho _ _ _ hx⟩
  | agg => obtain ⟨h1, x, e, g, c, e2, hx⟩ := h; exact ⟨upT hL h1, x, e, g, c, e2, ho _ _ _ hx⟩
  | box => exact fun hl => by rw [h1] at hl; cases hl
  | store => exact absurd rfl hk
/-- The slots and kinds of the region's operations. -/
abbrev TabT := List (Nat × Tg)
def TabT.d (T : TabT) (j : Nat) : Nat := (T.getD j (0, .val)).1
def TabT.k (T : TabT) (j : Nat) : Tg := (T.getD j (0, .val)).2
def TabT.ok (T : TabT) (q s b : Nat) : Bool := ((List.range T.length).all fun i => (List.range T.length).all fun j => i == s || j == i || T.d i != T.d j || (i == b && j == s)) && ((List.range T.length).all fun j => (decide (T.k j ≠ .grown) || j == q) && (decide (T.k j ≠ .store) || j == s)) && decide (T.k s = .store)
structure TabOk (T : TabT) (q s b : Nat) : Prop where
  sep : ∀ i, i < T.length → i ≠ s → ∀ j, j < T.length → j ≠ i → T.d i = T.d j → i = b ∧ j = s
  gr : ∀ j, j < T.length → T.k j = .grown → j = q
  st : ∀ j, j < T.length → T.k j = .store → j = s
  ks : T.k s = .store
theorem TabT.ok_ok {T : TabT} {q s b : Nat} (h : T.ok q s b = true) : TabOk T q s b := by
  unfold TabT.ok at h
  simp only [Bool.and_eq_true, List.all_eq_true, List.mem_range, Bool.or_eq_true, beq_iff_eq, bne_iff_ne, decide_eq_true_eq] at h
  obtain ⟨⟨h1, h2⟩, h3⟩ := h
  refine ⟨fun i hi his j hj hne he => ?_, fun j hj he => ?_, fun j hj he => ?_, h3⟩
  · rcases h1 i hi j hj with ((q | q) | q) | q
    · exact absurd q his
    · exact absurd q hne
    · exact absurd he q
    · exact q
  · rcases (h2 j hj).1 with q | q
    · exact absurd he q
    · exact q
  · rcases (h2 j hj).2 with q | q
    · exact absurd he q
    · exact q
def FA (p : ApP) (T : TabT) (V : Nat → Value) (j : Nat) (L : Array Bool) (a : Act) (w : World) : Prop := FK p (V j) (T.k j) (a.eval (.tmp (T.d j))) L w
section
variable {p : ApP} {T : TabT} {V : Nat → Value} {L : Array Bool} {a a0 : Act} {w w' : World} {ds : List Nat}
theorem ap_other {i j : Nat} (hT : TabOk T p.q p.s p.b) (hi : i < T.length) (his : i ≠ p.s) (h0 : L.getD i true = false) (hj : j < T.length) (hne : j ≠ i) (hf : FA p T V j L a w) (v : Value) : (a.put (some (T.d i)) v).eval (.tmp (T.d j)) = a.eval (.tmp (T.d j)) := by
  refine Inv.eval_put_ne (fun e => ?_) v
  obtain ⟨e1, e2⟩ := hT.sep i hi his j hj hne e
  subst e1 e2
  unfold FA at hf
  rw [hT.ks] at hf
  have h1 : L.getD p.b false = true := hf.1.1
  rw [false_of' h0] at h1
  cases h1
/-- An operation that writes nothing old. -/
theorem ap_step {i : Nat} {v : Value} (hT : TabOk T p.q p.s p.b) (hF : Inv.Fa T.length a0 ds (FA p T V) L a w) (hi : i < T.length) (his : i ≠ p.s) (hd : T.d i ∈ ds) (hs : T.d i < a.tmps.size) (h0 : L.getD i true = false) (hb : Below w.heap.size w w') (new : FK p (V i) (T.k i) v (L.setIfInBounds i true) w') : Inv.Fa T.length a0 ds (FA p T V) (L.setIfInBounds i true) (a.put (some (T.d i)) v) w' :=
  hF.step h0 hd (fun j hj hne hl hf => by
    show FK _ _ _ _ _ _
    rw [ap_other hT hi his h0 hj hne hf]
    exact FK.keep hf (set_less' h0) hb) (by
    show FK _ _ _ _ _ _
    rw [Inv.eval_put_same hs]
    exact new)
/-- The append. -/
theorem ap_app {vC v : Value} (hT : TabOk T p.q p.s p.b) (hF : Inv.Fa T.length a0 ds (FA p T V) L a w) (hi : p.q < T.length) (hqs : p.q ≠ p.s) (hd : T.d p.q ∈ ds) (hs : T.d p.q < a.tmps.size) (h0 : L.getD p.q true = false) (hk : T.k p.q = .grown) (ho : w.ownsRow p.B 27 1 vC p.n p.xs) (hg : w.grownBy w' vC.ownBlock) (new : rowGr p w' v) : Inv.Fa T.length a0 ds (FA p T V) (L.setIfInBounds p.q true) (a.put (some (T.d p.q)) v) w' :=
  hF.step h0 hd (fun j hj hne hl hf => by
    show FK _ _ _ _ _ _
    rw [ap_other hT hi hqs h0 hj hne hf]
    exact FK.app hf (fun e => hne (hT.gr j hj e)) (false_of' h0) (set_true' h0) (set_less' h0) ho hg) (by
    show FK _ _ _ _ _ _
    rw [Inv.eval_put_same hs, hk]
    exact new)
/-- The store. -/
theorem ap_store {X : Nat} {x : Value} {mi : Int} (hm : p.m = .int .i64 mi) (hT : TabOk T p.q p.s p.b) (hF : Inv.Fa T.length a0 ds (FA p T V) L a w) (h0 : L.getD p.s true = false) (lb : L.getD p.b false = true) (lq : L.getD p.q false = true) (e : a.eval (.tmp (T.d p.s)) = .pointer (some ⟨X, 0, none⟩)) (hBX : p.B ≤ X) (hX : w.heap[X]? = some (.cells #[.int .i64 0, .slice none 0 0] 24 (0, 0))) (gx : rowGr p w x) :
    Inv.Fa T.length a0 ds (FA p T V) (L.setIfInBounds p.s true) a ((w.setCell ⟨X, 0, none⟩ p.m).setCell ⟨X, 1, none⟩ x) := by
  rw [hm]
  have ho : ∀ (n : Nat) (v : Value) (xs : List Value), w.ownsRow p.B 27 1 v n xs → ((w.setCell ⟨X, 0, none⟩ (.int .i64 mi)).setCell ⟨X, 1, none⟩ x).ownsRow p.B 27 1 v n xs := fun n v xs h => rb_own hX h
  refine hF.step0 h0 (fun j hj hne hl hf => ?_) ?_
  · refine FK.put hf (fun e => hne (hT.st j hj e)) (set_true' h0) (set_less' h0) ho fun u b hb => ?_
    have hbX : b ≠ X := by
      intro e
      subst e
      rw [hb] at hX
      injection hX with hX
      injection hX with h1 h2
      exact absurd h2 (by decide)
    exact box_other (box_other hb hbX _) hbX _
  · show FK _ _ _ _ _ _
    rw [hT.ks]
    obtain ⟨g, c, e1, o1⟩ := gx
    exact ⟨⟨upT (set_less' h0) lb, upT (set_less' h0) lq⟩, x, ⟨X, e, hBX, by rw [hm]; exact rb_hyp hX⟩, ⟨g, c, e1, ho _ _ _ o1⟩⟩
end
end Go.Proofs.YtplidcbfbonjlaaDoor
