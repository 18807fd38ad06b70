/-
  The law TrieJoins, walked.
-/
import Derived.Test.YtdfnfdgkhflonaaTWakes
import Derived.Test.YtdfnfdgkhflonaaTSame
import Derived.Test.YtdfnfdgkhflonaaTRight
import Derived.Test.YtdfnfdgkhflonaaTOwn
import Derived.Test.YtdfnfdgkhflonaaTRefRun
import Derived.Test.YtdfnfdgkhflonaaTOfP2
import Derived.Test.YtdfnfdgkhflonaaTRefCut
import Derived.Test.YtdfnfdgkhflonaaTCutF
import Derived.Test.YtdfnfdgkhflonaaTLawA
import Derived.Test.YtdfnfdgkhflonaaTMerge
import Derived.Test.YtdfnfdgkhflonaaTJoinP
import Derived.Test.YtdfnfdgkhflonaaTCompact
namespace Go.Proofs.Ytdfnfdgkhflonaa
open Go.RowKit
set_option linter.unusedVariables false

/-- What the law keeps: the tries that came in and their boxes, the numbers', the own tries and theirs. -/
def TJ (w : World) (va0 vl0 vb0 vm0 va vl vb vm : Value) (A B : List Br) (L M : List Int) (f t : Int) (X3 X4 X5 X7 X8 : Nat) (W : World) : Prop :=
  Below w.heap.size w W ∧ SlB W va A ∧ SlI .u64 W vl L ∧ SlB W vb B ∧ SlI .u64 W vm M ∧
    W.heap[X3]? = some (.cells #[va0, vl0] 25 (0, 0)) ∧ W.heap[X4]? = some (.cells #[vb0, vm0] 25 (0, 0)) ∧ W.heap[X5]? = some (.cells #[.int .u64 f, .int .u64 t] 77 (0, 0)) ∧
    W.heap[X7]? = some (.cells #[va, vl] 25 (0, 0)) ∧ W.heap[X8]? = some (.cells #[vb, vm] 25 (0, 0))
theorem TJ.later {w : World} {va0 vl0 vb0 vm0 va vl vb vm : Value} {A B : List Br} {L M : List Int} {f t : Int} {X3 X4 X5 X7 X8 : Nat} {W W' : World} (h : TJ w va0 vl0 vb0 vm0 va vl vb vm A B L M f t X3 X4 X5 X7 X8 W) (hb : Below W.heap.size W W') : TJ w va0 vl0 vb0 vm0 va vl vb vm A B L M f t X3 X4 X5 X7 X8 W' := by
  obtain ⟨h1, h2, h3, h4, h5, h6, h7, h8, h9, h10⟩ := h
  exact ⟨later_trans h1 hb, h2.later hb, h3.later hb, h4.later hb, h5.later hb, (hb.block _ (lt_of_block h6)).trans h6, (hb.block _ (lt_of_block h7)).trans h7, (hb.block _ (lt_of_block h8)).trans h8, (hb.block _ (lt_of_block h9)).trans h9, (hb.block _ (lt_of_block h10)).trans h10⟩

theorem TJ.all {w : World} {va0 vl0 vb0 vm0 va vl vb vm : Value} {A B : List Br} {L M : List Int} {f t : Int} {X3 X4 X5 X7 X8 : Nat} {W : World} (h : TJ w va0 vl0 vb0 vm0 va vl vb vm A B L M f t X3 X4 X5 X7 X8 W) :
    (W.cell? ⟨X7, 0, none⟩ = some va ∧ W.cell? ⟨X7, 1, none⟩ = some vl ∧ W.cell? ⟨X8, 0, none⟩ = some vb ∧ W.cell? ⟨X8, 1, none⟩ = some vm) ∧ (W.cell? ⟨X3, 0, none⟩ = some va0 ∧ W.cell? ⟨X3, 1, none⟩ = some vl0 ∧ W.cell? ⟨X4, 0, none⟩ = some vb0 ∧ W.cell? ⟨X4, 1, none⟩ = some vm0) ∧
      (W.cell? ⟨X5, 0, none⟩ = some (.int .u64 f) ∧ W.cell? ⟨X5, 1, none⟩ = some (.int .u64 t)) ∧ X3 < W.heap.size ∧ X4 < W.heap.size ∧ X5 < W.heap.size ∧ X7 < W.heap.size ∧ X8 < W.heap.size := by
  obtain ⟨-, -, -, -, -, h1, h2, h3, h4, h5⟩ := h
  exact ⟨⟨by simpa using box_cell (i := 0) h4, by simpa using box_cell (i := 1) h4, by simpa using box_cell (i := 0) h5, by simpa using box_cell (i := 1) h5⟩, ⟨by simpa using box_cell (i := 0) h1, by simpa using box_cell (i := 1) h1, by simpa using box_cell (i := 0) h2, by simpa using box_cell (i := 1) h2⟩, ⟨by simpa using box_cell (i := 0) h3, by simpa using box_cell (i := 1) h3⟩, lt_of_block h1, lt_of_block h2, lt_of_block h3, lt_of_block h4, lt_of_block h5⟩
theorem TJ.mk2 {w w2 : World} {va0 vl0 vb0 vm0 va vl vb vm : Value} {A B : List Br} {L M : List Int} {f t : Int} {X3 X4 X5 X7 X8 : Nat} {W : World} (hb02 : Below w.heap.size w w2) (h3 : w2.heap[X3]? = some (.cells #[va0, vl0] 25 (0, 0))) (h4 : w2.heap[X4]? = some (.cells #[vb0, vm0] 25 (0, 0))) (h5 : w2.heap[X5]? = some (.cells #[.int .u64 f, .int .u64 t] 77 (0, 0))) (wA : ∀ p ∈ A, p.wf) (wL : ∀ x ∈ L, (Lit.int .u64 x).wf = true) (wB : ∀ p ∈ B, p.wf) (wM : ∀ x ∈ M, (Lit.int .u64 x).wf = true)
    (hbE : Below w2.heap.size w2 W) (oA : W.ownsRow 0 40 3 va A.length (A.flatMap Br.cells)) (oL : W.ownsRow 0 38 1 vl L.length (L.map (.int .u64))) (oB : W.ownsRow 0 40 3 vb B.length (B.flatMap Br.cells)) (oM : W.ownsRow 0 38 1 vm M.length (M.map (.int .u64)))
    (h7 : W.heap[X7]? = some (.cells #[va, vl] 25 (0, 0))) (h8 : W.heap[X8]? = some (.cells #[vb, vm] 25 (0, 0))) : TJ w va0 vl0 vb0 vm0 va vl vb vm A B L M f t X3 X4 X5 X7 X8 W :=
  ⟨later_trans hb02 hbE, ⟨SlT.of_owns oA, wA⟩, SlI.of_owns oL wL, ⟨SlT.of_owns oB, wB⟩, SlI.of_owns oM wM, (hbE.block _ (lt_of_block h3)).trans h3, (hbE.block _ (lt_of_block h4)).trans h4, (hbE.block _ (lt_of_block h5)).trans h5, h7, h8⟩
theorem TJ.eight {w : World} {va0 vl0 vb0 vm0 va vl vb vm : Value} {A B : List Br} {L M : List Int} {f t : Int} {X3 X4 X5 X7 X8 : Nat} {W : World} (h : TJ w va0 vl0 vb0 vm0 va vl vb vm A B L M f t X3 X4 X5 X7 X8 W) :
    W.cell? ⟨X7, 0, none⟩ = some va ∧ W.cell? ⟨X7, 1, none⟩ = some vl ∧ W.cell? ⟨X8, 0, none⟩ = some vb ∧ W.cell? ⟨X8, 1, none⟩ = some vm ∧ W.cell? ⟨X3, 0, none⟩ = some va0 ∧ W.cell? ⟨X3, 1, none⟩ = some vl0 ∧ W.cell? ⟨X4, 0, none⟩ = some vb0 ∧ W.cell? ⟨X4, 1, none⟩ = some vm0 := by
  obtain ⟨⟨a1, a2, a3, a4⟩, ⟨b1, b2, b3, b4⟩, -⟩ := h.all
  exact ⟨a1, a2, a3, a4, b1, b2, b3, b4⟩
theorem own_set2 {w : World} {base : Nat} {e e' : TypeId} {size : Nat} {v : Value} {n : Nat} {xs : List Value} {b : Nat} {cs : Array Value} (h : w.ownsRow base e size v n xs) (hb : w.heap[b]? = some (.cells cs e' (0, 0))) (hne : e ≠ e') (x y : Value) : ((w.setCell ⟨b, 0, none⟩ x).setCell ⟨b, 1, none⟩ y).ownsRow base e size v n xs := own_set (own_set h hb hne x) (box_set hb x) hne y
theorem box_set2 {w : World} {b : Nat} {p q : Value} {e : TypeId} (h : w.heap[b]? = some (.cells #[p, q] e (0, 0))) (x y : Value) : ((w.setCell ⟨b, 0, none⟩ x).setCell ⟨b, 1, none⟩ y).heap[b]? = some (.cells #[x, y] e (0, 0)) := by
  have := box_set (i := 1) (box_set (i := 0) h x) y
  simpa using this
theorem box_other2 {w : World} {b b' : Nat} {cs : Array Value} {e : TypeId} (h : w.heap[b]? = some (.cells cs e (0, 0))) (hne : b ≠ b') (x y : Value) : ((w.setCell ⟨b', 0, none⟩ x).setCell ⟨b', 1, none⟩ y).heap[b]? = some (.cells cs e (0, 0)) := box_other (box_other h hne x) hne y
theorem box_newS (w : World) (b : Nat) (x y : Value) (cs : Array Value) (e : TypeId) : (((w.setCell ⟨b, 0, none⟩ x).setCell ⟨b, 1, none⟩ y).alloc (.cells cs e)).heap[w.heap.size]? = some (.cells cs e (0, 0)) := by simpa using box_new ((w.setCell ⟨b, 0, none⟩ x).setCell ⟨b, 1, none⟩ y) cs e

theorem idx0 (a b c d : Value) (w : World) : Sem.run Try.prog (Instr.index 82 (.agg #[a, b, c, d]) (.int .i64 0)) w = .ok (.agg #[a, b]) w := by kernel_rfl
theorem idx1 (a b c d : Value) (w : World) : Sem.run Try.prog (Instr.index 82 (.agg #[a, b, c, d]) (.int .i64 1)) w = .ok (.agg #[c, d]) w := by kernel_rfl

/-- The same, of the boxes of the law's own as they are made. -/
theorem own_setZ {w : World} {base : Nat} {e : TypeId} {size : Nat} {v : Value} {n : Nat} {xs : List Value} {b : Nat} (h : w.ownsRow base e size v n xs) (hb : w.heap[b]? = some (.cells #[.slice none 0 0, .slice none 0 0] 25 (0, 0))) (hne : e ≠ 25) (x y : Value) : ((w.setCell ⟨b, 0, none⟩ x).setCell ⟨b, 1, none⟩ y).ownsRow base e size v n xs := own_set2 h hb hne x y
theorem box_setZ {w : World} {b : Nat} (h : w.heap[b]? = some (.cells #[.slice none 0 0, .slice none 0 0] 25 (0, 0))) (x y : Value) : ((w.setCell ⟨b, 0, none⟩ x).setCell ⟨b, 1, none⟩ y).heap[b]? = some (.cells #[x, y] 25 (0, 0)) := box_set2 h x y

/-- What it keeps behind Merge and Cut: their boxes, and what lies in them. -/
def TM (w : World) (base : Nat) (am cm lm dm : Value) (mB cB : List Br) (mL cL : List Int) (n5 X9 X11 : Nat) (W : World) : Prop :=
  W.heap[X9]? = some (.cells #[am, lm] 25 (0, 0)) ∧ W.heap[X11]? = some (.cells #[cm, dm] 25 (0, 0)) ∧ SlB W am mB ∧ SlI .u64 W lm mL ∧ SlB W cm cB ∧ SlI .u64 W dm cL ∧
    W.ownsRow base 38 1 lm mL.length (mL.map (.int .u64)) ∧ W.ownsRow n5 38 1 dm cL.length (cL.map (.int .u64))
theorem TM.later {w : World} {base : Nat} {am cm lm dm : Value} {mB cB : List Br} {mL cL : List Int} {n5 X9 X11 : Nat} {W W' : World} (h : TM w base am cm lm dm mB cB mL cL n5 X9 X11 W) (hb : Below W.heap.size W W') : TM w base am cm lm dm mB cB mL cL n5 X9 X11 W' := by
  obtain ⟨h1, h2, h3, h4, h5, h6, h7, h8⟩ := h
  exact ⟨(hb.block _ (lt_of_block h1)).trans h1, (hb.block _ (lt_of_block h2)).trans h2, h3.later hb, h4.later hb, h5.later hb, h6.later hb, owns_later h7 hb, owns_later h8 hb⟩
theorem TM.cells {w : World} {base : Nat} {am cm lm dm : Value} {mB cB : List Br} {mL cL : List Int} {n5 X9 X11 : Nat} {W : World} (h : TM w base am cm lm dm mB cB mL cL n5 X9 X11 W) :
    W.cell? ⟨X9, 0, none⟩ = some am ∧ W.cell? ⟨X9, 1, none⟩ = some lm ∧ W.cell? ⟨X11, 0, none⟩ = some cm ∧ W.cell? ⟨X11, 1, none⟩ = some dm :=
  ⟨by simpa using box_cell (i := 0) h.1, by simpa using box_cell (i := 1) h.1, by simpa using box_cell (i := 0) h.2.1, by simpa using box_cell (i := 1) h.2.1⟩
/-- What it keeps of the two references' tries: their boxes, and rows of the call's own in them. -/
def TU (W5 : World) (X15 X16 : Nat) (v1 v2 u1 u2 : Value) (mB : List Br) (mL : List Int) (cB : List Br) (cL : List Int) (W : World) : Prop :=
  Below W5.heap.size W5 W ∧ W5.heap.size ≤ X15 ∧ W5.heap.size ≤ X16 ∧ X15 ≠ X16 ∧ W.heap[X15]? = some (.cells #[v1, v2] 25 (0, 0)) ∧ W.heap[X16]? = some (.cells #[u1, u2] 25 (0, 0)) ∧
    W.ownsRow 0 40 3 v1 mB.length (mB.flatMap Br.cells) ∧ W.ownsRow 0 38 1 v2 mL.length (mL.map (.int .u64)) ∧ W.ownsRow 0 40 3 u1 cB.length (cB.flatMap Br.cells) ∧ W.ownsRow 0 38 1 u2 cL.length (cL.map (.int .u64))
theorem TU.later {W5 : World} {X15 X16 : Nat} {v1 v2 u1 u2 : Value} {mB : List Br} {mL : List Int} {cB : List Br} {cL : List Int} {W W' : World} (h : TU W5 X15 X16 v1 v2 u1 u2 mB mL cB cL W) (hb : Below W.heap.size W W') : TU W5 X15 X16 v1 v2 u1 u2 mB mL cB cL W' := by
  obtain ⟨h1, h2, h3, h4, h5, h6, h7, h8, h9, h10⟩ := h
  exact ⟨later_trans h1 hb, h2, h3, h4, (hb.block _ (lt_of_block h5)).trans h5, (hb.block _ (lt_of_block h6)).trans h6, owns_later h7 hb, owns_later h8 hb, owns_later h9 hb, owns_later h10 hb⟩
theorem TU.set15 {W5 : World} {X15 X16 : Nat} {v1 v2 u1 u2 v1' v2' : Value} {mB mB' : List Br} {mL mL' : List Int} {cB : List Br} {cL : List Int} {W : World} (h : TU W5 X15 X16 v1 v2 u1 u2 mB mL cB cL W) (o1 : W.ownsRow 0 40 3 v1' mB'.length (mB'.flatMap Br.cells)) (o2 : W.ownsRow 0 38 1 v2' mL'.length (mL'.map (.int .u64))) :
    TU W5 X15 X16 v1' v2' u1 u2 mB' mL' cB cL ((W.setCell ⟨X15, 0, none⟩ v1').setCell ⟨X15, 1, none⟩ v2') := by
  obtain ⟨h1, h2, h3, h4, h5, h6, h7, h8, h9, h10⟩ := h
  have b1 := box_set (i := 0) h5 v1'
  have b2 := box_set (i := 1) b1 v2'
  exact ⟨(h1.setCell h2 _).setCell h2 _, h2, h3, h4, by simpa using b2, box_other (box_other h6 (Ne.symm h4) _) (Ne.symm h4) _, own_set (own_set o1 h5 (by decide) _) b1 (by decide) _, own_set (own_set o2 h5 (by decide) _) b1 (by decide) _, own_set (own_set h9 h5 (by decide) _) b1 (by decide) _, own_set (own_set h10 h5 (by decide) _) b1 (by decide) _⟩
theorem TU.set16 {W5 : World} {X15 X16 : Nat} {v1 v2 u1 u2 u1' u2' : Value} {mB : List Br} {mL : List Int} {cB cB' : List Br} {cL cL' : List Int} {W : World} (h : TU W5 X15 X16 v1 v2 u1 u2 mB mL cB cL W) (o1 : W.ownsRow 0 40 3 u1' cB'.length (cB'.flatMap Br.cells)) (o2 : W.ownsRow 0 38 1 u2' cL'.length (cL'.map (.int .u64))) :
    TU W5 X15 X16 v1 v2 u1' u2' mB mL cB' cL' ((W.setCell ⟨X16, 0, none⟩ u1').setCell ⟨X16, 1, none⟩ u2') := by
  obtain ⟨h1, h2, h3, h4, h5, h6, h7, h8, h9, h10⟩ := h
  have b1 := box_set (i := 0) h6 u1'
  have b2 := box_set (i := 1) b1 u2'
  exact ⟨(h1.setCell h3 _).setCell h3 _, h2, h3, h4, box_other (box_other h5 h4 _) h4 _, by simpa using b2, own_set (own_set h7 h6 (by decide) _) b1 (by decide) _, own_set (own_set h8 h6 (by decide) _) b1 (by decide) _, own_set (own_set o1 h6 (by decide) _) b1 (by decide) _, own_set (own_set o2 h6 (by decide) _) b1 (by decide) _⟩
theorem TU.cells {W5 : World} {X15 X16 : Nat} {v1 v2 u1 u2 : Value} {mB : List Br} {mL : List Int} {cB : List Br} {cL : List Int} {W : World} (h : TU W5 X15 X16 v1 v2 u1 u2 mB mL cB cL W) :
    W.cell? ⟨X15, 0, none⟩ = some v1 ∧ W.cell? ⟨X15, 1, none⟩ = some v2 ∧ W.cell? ⟨X16, 0, none⟩ = some u1 ∧ W.cell? ⟨X16, 1, none⟩ = some u2 :=
  ⟨by simpa using box_cell (i := 0) h.2.2.2.2.1, by simpa using box_cell (i := 1) h.2.2.2.2.1, by simpa using box_cell (i := 0) h.2.2.2.2.2.1, by simpa using box_cell (i := 1) h.2.2.2.2.2.1⟩
theorem TU.new (W5 W : World) (hb : Below W5.heap.size W5 W) : TU W5 W.heap.size (W.heap.size + 1) (.slice none 0 0) (.slice none 0 0) (.slice none 0 0) (.slice none 0 0) [] [] [] [] ((W.alloc (.cells #[.slice none 0 0, .slice none 0 0] 25)).alloc (.cells #[.slice none 0 0, .slice none 0 0] 25)) :=
  ⟨later_trans hb (later_trans (later_alloc _ _) (later_alloc _ _)), hb.size, Nat.le_trans hb.size (Nat.le_succ _), by omega, box_alloc (box_new _ _ _) _, by simpa using box_new (W.alloc (.cells #[.slice none 0 0, .slice none 0 0] 25)) #[.slice none 0 0, .slice none 0 0] 25, World.ownsRow_nil _ _ _ _, World.ownsRow_nil _ _ _ _, World.ownsRow_nil _ _ _ _, World.ownsRow_nil _ _ _ _⟩
theorem refofO_any (v : Value) (l : List Pr) (w : World) (h : SlP w v l) (hr : RunOk l) :
    Calls Try.prog 40 #[v] w fun e w' => ∃ ab cb al cl, e = .returned (.agg #[.slice ab (brOf l).length cb, .slice al l.length cl]) ∧ Below w.heap.size w w' ∧ w'.ownsRow 0 40 3 (.slice ab (brOf l).length cb) (brOf l).length ((brOf l).flatMap Br.cells) ∧ w'.ownsRow 0 38 1 (.slice al l.length cl) (l.map Pr.b).length ((l.map Pr.b).map (.int .u64)) := by
  refine (refof_any v l w h hr.1).mono ?_
  rintro e w' ⟨vb, vl, rfl, hb, hB, hL⟩
  rw [br_same hr.2] at hB
  obtain ⟨ab, cb, rfl⟩ := owns_shape2 hB
  obtain ⟨al, cl, rfl⟩ := owns_shape2 hL
  rw [show (.slice al (l.map Pr.b).length cl : Value) = .slice al l.length cl from by rw [List.length_map]] at hL ⊢
  exact ⟨ab, cb, al, cl, rfl, hb, owns_down hB (Nat.zero_le _), owns_down hL (Nat.zero_le _)⟩

/-- Two rows of one call behind another lie in blocks apart. -/
theorem owns_apart {w w' : World} {b b' : Nat} {e e' : TypeId} {s s' n n' : Nat} {v v' : Value} {xs xs' : List Value} (h : w.ownsRow b e s v n xs) (h' : w'.ownsRow b' e' s' v' n' xs') (hl : w.heap.size ≤ b') : ∀ k k', v.ownBlock = some k → v'.ownBlock = some k' → k < k' := fun k k' hk hk' => by
  have h1 := (h.lt k hk).2
  have h2 := (h'.lt k' hk').1
  omega

/-- What a box of two says, also with one more block behind. -/
theorem box_two {w : World} {b : Nat} {u v : Value} {e : TypeId} (h : w.heap[b]? = some (.cells #[u, v] e (0, 0))) : w.cell? ⟨b, 0, none⟩ = some u ∧ w.cell? ⟨b, 1, none⟩ = some v ∧ w.frozen? ⟨b, 0, none⟩ = false ∧ w.frozen? ⟨b, 1, none⟩ = false ∧ b < w.heap.size ∧ (∀ o, (w.alloc o).cell? ⟨b, 0, none⟩ = some u) ∧ (∀ o, (w.alloc o).cell? ⟨b, 1, none⟩ = some v) ∧ (∀ o, (w.alloc o).frozen? ⟨b, 0, none⟩ = false) ∧ (∀ o, (w.alloc o).frozen? ⟨b, 1, none⟩ = false) :=
  ⟨by simpa using box_cell (i := 0) h, by simpa using box_cell (i := 1) h, box_frozen h, box_frozen h, lt_of_block h, fun o => by simpa using box_cell (i := 0) (box_alloc h o), fun o => by simpa using box_cell (i := 1) (box_alloc h o), fun o => box_frozen (box_alloc h o), fun o => box_frozen (box_alloc h o)⟩

theorem box_new2 (w : World) (o : Obj) (cs : Array Value) (e : TypeId) : ((w.alloc o).alloc (.cells cs e)).heap[w.heap.size + 1]? = some (.cells cs e (0, 0)) := by simpa using box_new (w.alloc o) cs e

/-- What a box of two says behind two stores into another. -/
theorem box_two2 {w : World} {b b' : Nat} {u v : Value} {e : TypeId} (h : w.heap[b]? = some (.cells #[u, v] e (0, 0))) (hne : b ≠ b') : (∀ x y, ((w.setCell ⟨b', 0, none⟩ x).setCell ⟨b', 1, none⟩ y).cell? ⟨b, 0, none⟩ = some u) ∧ (∀ x y, ((w.setCell ⟨b', 0, none⟩ x).setCell ⟨b', 1, none⟩ y).cell? ⟨b, 1, none⟩ = some v) ∧ (∀ x y, ((w.setCell ⟨b', 0, none⟩ x).setCell ⟨b', 1, none⟩ y).frozen? ⟨b, 0, none⟩ = false) ∧ (∀ x y, ((w.setCell ⟨b', 0, none⟩ x).setCell ⟨b', 1, none⟩ y).frozen? ⟨b, 1, none⟩ = false) :=
  ⟨fun x y => by simpa using box_cell (i := 0) (box_other (box_other h hne x) hne y), fun x y => by simpa using box_cell (i := 1) (box_other (box_other h hne x) hne y), fun x y => box_frozen (box_other (box_other h hne x) hne y), fun x y => box_frozen (box_other (box_other h hne x) hne y)⟩

set_option maxRecDepth 100000 in
set_option maxHeartbeats 40000000 in
open Classical in
theorem lawJoins_walk (va vl vb vm : Value) (A0 B0 : List Br) (L0 M0 : List Int) (f t : Int) (w : World) (hA : SlB w va A0) (hL : SlI .u64 w vl L0) (hB : SlB w vb B0) (hM : SlI .u64 w vm M0) :
    Calls Try.prog 10 #[.agg #[va, vl], .agg #[vb, vm], .agg #[.int .u64 f, .int .u64 t]] w fun e w' => e = .returned (.bool true) ∧ Below w.heap.size w w' := by
  obtain ⟨a, c, rfl, -⟩ := hA.open
  obtain ⟨a', c', rfl, -⟩ := hL.open
  obtain ⟨b, d, rfl, -⟩ := hB.open
  obtain ⟨b', d', rfl, -⟩ := hM.open
  obtain ⟨A, hA6⟩ : ∃ l, A0.take (min A0.length 40) = l := ⟨_, rfl⟩
  obtain ⟨L, hL6⟩ : ∃ l, L0.take (min L0.length 60) = l := ⟨_, rfl⟩
  obtain ⟨B, hB6⟩ : ∃ l, B0.take (min B0.length 40) = l := ⟨_, rfl⟩
  obtain ⟨M, hM6⟩ : ∃ l, M0.take (min M0.length 60) = l := ⟨_, rfl⟩
  have hAl : A.length ≤ 40 := by rw [← hA6]; simp; omega
  have hLl : L.length ≤ 60 := by rw [← hL6]; simp; omega
  have hBl : B.length ≤ 40 := by rw [← hB6]; simp; omega
  have hMl : M.length ≤ 60 := by rw [← hM6]; simp; omega
  have wfA : ∀ p ∈ A, p.wf := fun p hp => hA.2 p (List.mem_of_mem_take (by rw [hA6]; exact hp))
  have wfL : ∀ x ∈ L, (Lit.int .u64 x).wf = true := fun p hp => hL.2 p (List.mem_of_mem_take (by rw [hL6]; exact hp))
  have wfB : ∀ p ∈ B, p.wf := fun p hp => hB.2 p (List.mem_of_mem_take (by rw [hB6]; exact hp))
  have wfM : ∀ x ∈ M, (Lit.int .u64 x).wf = true := fun p hp => hM.2 p (List.mem_of_mem_take (by rw [hM6]; exact hp))
  have HOwn1 := Lib.hid (fun V (hV : Below w.heap.size w V) => (own7_any _ _ A0 L0 V (hA.later hV) (hL.later hV)).mono (R' := fun e w' => ∃ a6 c6 a7 c7, e = .returned (.agg #[.slice a6 A.length c6, .slice a7 L.length c7]) ∧ SlB w' (.slice a6 A.length c6) A ∧ SlI .u64 w' (.slice a7 L.length c7) L ∧ Below V.heap.size V w' ∧ w'.ownsRow 0 40 3 (.slice a6 A.length c6) A.length (A.flatMap Br.cells) ∧ w'.ownsRow 0 38 1 (.slice a7 L.length c7) L.length (L.map (.int .u64))) (by
    rintro e w' ⟨vb', vl', rfl, hob, hol, hb⟩
    rw [hA6] at hob
    rw [hL6] at hol
    obtain ⟨a6, c6, rfl⟩ := owns_shape2 hob
    obtain ⟨a7, c7, rfl⟩ := owns_shape2 hol
    exact ⟨_, _, _, _, rfl, ⟨SlT.of_owns hob, wfA⟩, SlI.of_owns hol wfL, hb, owns_down hob (Nat.zero_le _), owns_down hol (Nat.zero_le _)⟩))
  have HOwn2 := Lib.hid (fun V (hV : Below w.heap.size w V) => (own7_any _ _ B0 M0 V (hB.later hV) (hM.later hV)).mono (R' := fun e w' => ∃ a6 c6 a7 c7, e = .returned (.agg #[.slice a6 B.length c6, .slice a7 M.length c7]) ∧ SlB w' (.slice a6 B.length c6) B ∧ SlI .u64 w' (.slice a7 M.length c7) M ∧ Below V.heap.size V w' ∧ w'.ownsRow 0 40 3 (.slice a6 B.length c6) B.length (B.flatMap Br.cells) ∧ w'.ownsRow 0 38 1 (.slice a7 M.length c7) M.length (M.map (.int .u64))) (by
    rintro e w' ⟨vb', vl', rfl, hob, hol, hb⟩
    rw [hB6] at hob
    rw [hM6] at hol
    obtain ⟨a6, c6, rfl⟩ := owns_shape2 hob
    obtain ⟨a7, c7, rfl⟩ := owns_shape2 hol
    exact ⟨_, _, _, _, rfl, ⟨SlT.of_owns hob, wfB⟩, SlI.of_owns hol wfM, hb, owns_down hob (Nat.zero_le _), owns_down hol (Nat.zero_le _)⟩))
  clear hA hL hB hM hA6 hL6 hB6 hM6
  have HWA := Lib.hid wfA
  have HWL := Lib.hid wfL
  have HWB := Lib.hid wfB
  have HWM := Lib.hid wfM
  clear wfA wfL wfB wfM
  obtain ⟨W, hW⟩ : ∃ W, ((w.alloc (.cells #[.slice a A0.length c, .slice a' L0.length c'] 25)).alloc (.cells #[.slice b B0.length d, .slice b' M0.length d'] 25)).alloc (.cells #[.int .u64 f, .int .u64 t] 77) = W := ⟨_, rfl⟩
  have hbW : Below w.heap.size w W := by rw [← hW]; exact later_trans (later_trans (later_alloc w _) (later_alloc _ _)) (later_alloc _ _)
  obtain ⟨X3, hX3e⟩ : ∃ X, w.heap.size = X := ⟨_, rfl⟩
  have hX3 : W.heap[X3]? = some (.cells #[.slice a A0.length c, .slice a' L0.length c'] 25 (0, 0)) := by rw [← hW, ← hX3e]; exact box_alloc (box_alloc (box_new w _ _) _) _
  have hX4 : W.heap[X3 + 1]? = some (.cells #[.slice b B0.length d, .slice b' M0.length d'] 25 (0, 0)) := by
    rw [← hW, ← hX3e]
    have := box_new (w.alloc (.cells #[.slice a A0.length c, .slice a' L0.length c'] 25)) #[.slice b B0.length d, .slice b' M0.length d'] 25
    exact box_alloc (by simpa using this) _
  have hX5 : W.heap[X3 + 1 + 1]? = some (.cells #[.int .u64 f, .int .u64 t] 77 (0, 0)) := by
    rw [← hW, ← hX3e]
    have := box_new ((w.alloc (.cells #[.slice a A0.length c, .slice a' L0.length c'] 25)).alloc (.cells #[.slice b B0.length d, .slice b' M0.length d'] 25)) #[.int .u64 f, .int .u64 t] 77
    simpa using this
  go_enter Try.func10, Try.ntmps10
  go_wp2_with fail
  refine (wakes7_any _).mono ?_
  rintro e w2 ⟨rfl, hb2⟩
  have hX3 := (hb2.block _ (lt_of_block hX3)).trans hX3
  have hX4 := (hb2.block _ (lt_of_block hX4)).trans hX4
  have hX5 := (hb2.block _ (lt_of_block hX5)).trans hX5
  have hb02 := later_trans hbW hb2
  have x0 := box_cell (i := 0) hX3
  have x1 := box_cell (i := 1) hX3
  have y0 := box_cell (i := 0) hX4
  have y1 := box_cell (i := 1) hX4
  simp at x0 x1 y0 y1
  have hx3l := lt_of_block hX3
  have hx4l := lt_of_block hX4
  have hx5l := lt_of_block hX5
  clear hb2 hbW hW
  go_wp2_with fail
  rename_i Q1 K1 hK1
  have hf4 : w2.cell? ⟨X3, 0, none⟩ = some (.slice a A0.length c) ∧ w2.cell? ⟨X3, 1, none⟩ = some (.slice a' L0.length c') ∧ w2.cell? ⟨X3 + 1, 0, none⟩ = some (.slice b B0.length d) ∧ w2.cell? ⟨X3 + 1, 1, none⟩ = some (.slice b' M0.length d') := ⟨x0, x1, y0, y1⟩
  have HT : ∀ (V : World) (X7 X8 : Nat) (a6 : Option Addr) (c6 : Nat) (a7 : Option Addr) (c7 : Nat) (b6 : Option Addr) (d6 : Nat) (b7 : Option Addr) (d7 : Nat), TJ w (.slice a A0.length c) (.slice a' L0.length c') (.slice b B0.length d) (.slice b' M0.length d') (.slice a6 A.length c6) (.slice a7 L.length c7) (.slice b6 B.length d6) (.slice b7 M.length d7) A B L M f t X3 (X3 + 1) (X3 + 1 + 1) X7 X8 V →
      K1 { tmps := #[.agg #[.slice a A0.length c, .slice a' L0.length c'], .agg #[.slice b B0.length d, .slice b' M0.length d'], .agg #[.int .u64 f, .int .u64 t], .pointer (some ⟨X3, 0, none⟩), .pointer (some ⟨X3 + 1, 0, none⟩), .pointer (some ⟨X3 + 1 + 1, 0, none⟩), .bool false, .pointer (some ⟨X7, 0, none⟩), .pointer (some ⟨X8, 0, none⟩), undef, undef, undef, undef, undef, undef, undef, undef, undef, undef, undef, undef, undef, .bool true, .bool false, .agg #[.slice a A0.length c, .slice a' L0.length c'], .agg #[.slice a6 A.length c6, .slice a7 L.length c7], .agg #[.slice b B0.length d, .slice b' M0.length d'], .agg #[.slice b6 B.length d6, .slice b7 M.length d7], undef, undef, undef, undef, undef, undef, undef, undef, undef, undef, undef, undef, undef, undef, undef, undef, undef, undef, undef, undef, undef, undef, undef, undef, undef, undef, undef, undef, undef, undef, undef, undef, undef, undef, undef, undef, undef, undef, undef, undef, undef, undef, undef, undef, undef, undef, undef, undef, undef, undef, undef, undef, undef, undef, undef, undef, undef, undef, undef, undef, undef, undef, undef, undef, undef, undef, undef, undef, undef, undef, undef, undef, undef, undef, undef, undef, undef, undef, undef, undef, undef, undef, undef, undef, undef, undef, undef, undef, undef, undef, undef, undef, undef, undef], defers := [] } V := by
    intro V X7 X8 a6 c6 a7 c7 b6 d6 b7 d7 k
    refine hK1 _ _ ?_
    clear hK1 x0 x1 y0 y1 hX3 hX4 hX5 hx3l hx4l hx5l hb02 hf4
    obtain ⟨X4, hX4e⟩ : ∃ X, X3 + 1 = X := ⟨_, rfl⟩
    rw [hX4e] at k ⊢
    obtain ⟨X5, hX5e⟩ : ∃ X, X4 + 1 = X := ⟨_, rfl⟩
    rw [hX5e] at k ⊢
    have HK0 := Lib.hid (fun W (hb : Below V.heap.size V W) => k.later hb)
    clear hX4e hX5e hX3e
    obtain ⟨⟨x0, x1, y0, y1⟩, -, -, -, -, hx5l, hx7l, hx8l⟩ := k.all
    go_wp2_with fail
    refine (mergeU_any _ _ _ _ A B L M _ k.2.1 k.2.2.1 k.2.2.2.1 k.2.2.2.2.1 (by omega)).mono ?_
    rintro e w4 ⟨a9, c9, l9, d9, mB, mL, qm, rfl, hb4, sB4, sL4, oL4, hml, hjm⟩
    have hVn4 := hb4.size
    clear x0 x1 y0 y1 hx5l hx7l hx8l
    have k4 := HK0.out _ hb4
    obtain ⟨⟨x0, x1, y0, y1⟩, -, ⟨z0, z1⟩, -, -, hx5l, hx7l, hx8l⟩ := k4.all
    have HJM := Lib.hid hjm
    clear hjm
    have bX9 := box_new w4 #[.slice a9 mB.length c9, .slice l9 mL.length d9] 25
    have hb4a := later_alloc w4 (.cells #[.slice a9 mB.length c9, .slice l9 mL.length d9] 25)
    have hn4a : w4.heap.size < (w4.alloc (.cells #[.slice a9 mB.length c9, .slice l9 mL.length d9] 25)).heap.size := by simp
    have k4a := k4.later hb4a
    clear k4
    go_wp2_with fail
    refine (cutU_any _ _ A L f t _ k4a.2.1 k4a.2.2.1 (by omega)).mono ?_
    rintro e w5 ⟨a11, c11, l11, d11, cB, cL, qc, rfl, hb5, sB5, sL5, oL5, hcl, hjc⟩
    have HJC := Lib.hid hjc
    clear hjc
    have hbV5 : Below V.heap.size V w5 := later_trans hb4 (later_trans hb4a hb5)
    have sB4 := sB4.later (later_trans hb4a hb5)
    have sL4 := sL4.later (later_trans hb4a hb5)
    have hap := Lib.hid (owns_apart oL4 oL5 (by omega))
    have oL4 := owns_later oL4 (later_trans hb4a hb5)
    have bX9 := (hb5.block _ (lt_of_block bX9)).trans bX9
    have bX11 := box_new w5 #[.slice a11 cB.length c11, .slice l11 cL.length d11] 25
    obtain ⟨n5, hn5⟩ : ∃ n, (w4.alloc (.cells #[.slice a9 mB.length c9, .slice l9 mL.length d9] 25)).heap.size = n := ⟨_, rfl⟩
    obtain ⟨X9, hX9⟩ : ∃ n, w4.heap.size = n := ⟨_, rfl⟩
    have hn5' : V.heap.size ≤ n5 := by omega
    rw [hn5] at oL5
    rw [hX9] at bX9
    have hb5a := later_alloc w5 (.cells #[.slice a11 cB.length c11, .slice l11 cL.length d11] 25)
    have hbVa := later_trans hbV5 hb5a
    have km : TM w V.heap.size (.slice a9 mB.length c9) (.slice a11 cB.length c11) (.slice l9 mL.length d9) (.slice l11 cL.length d11) mB cB mL cL n5 X9 w5.heap.size (w5.alloc (.cells #[.slice a11 cB.length c11, .slice l11 cL.length d11] 25)) :=
      ⟨box_alloc bX9 _, bX11, sB4.later hb5a, sL4.later hb5a, sB5.later hb5a, sL5.later hb5a, owns_later oL4 hb5a, owns_later oL5 hb5a⟩
    obtain ⟨X11, hX11⟩ : ∃ n, w5.heap.size = n := ⟨_, rfl⟩
    rw [hX11] at km
    clear x0 x1 y0 y1 z0 z1 hx5l hx7l hx8l bX9 bX11 sB4 sL4 oL4 sB5 sL5 oL5 k4a hb4 hb4a hn4a hb5 hVn4 k
    obtain ⟨W5, hW5⟩ : ∃ W, w5.alloc (.cells #[.slice a11 cB.length c11, .slice l11 cL.length d11] 25) = W := ⟨_, rfl⟩
    rw [hW5] at km hb5a hbVa
    have HM := Lib.hid (fun W (hb : Below W5.heap.size W5 W) => km.later hb)
    have HB := Lib.hid hbVa
    have k5 := HK0.out _ hbV5
    obtain ⟨⟨x0, x1, y0, y1⟩, -, -, -, -, hx5l, hx7l, hx8l⟩ := k5.all
    clear k5 km
    obtain ⟨rP, hrP⟩ : ∃ r, Value.bool (decide (TrieOk A L)) = r := ⟨_, rfl⟩
    obtain ⟨rQ, hrQ⟩ : ∃ r, Value.bool (decide (TrieOk B M)) = r := ⟨_, rfl⟩
    have HP := Lib.hid hrP
    have HQ := Lib.hid hrQ
    clear hrP hrQ
    go_wp2_with fail
    rename_i K6 hK6
    have HT6 : ∀ (W6 : World) (s0 s1 s2 s6 s19 s20 s21 s22 s23 s24 s25 s26 s27 s28 s29 s30 s31 s32 s33 s34 s35 s36 s37 s38 s39 s40 s41 s42 s43 s44 s45 s46 : Value), Below W5.heap.size W5 W6 →
        K6 { tmps := #[s0, s1, s2, .pointer (some ⟨X3, 0, none⟩), .pointer (some ⟨X4, 0, none⟩), .pointer (some ⟨X5, 0, none⟩), s6, .pointer (some ⟨X7, 0, none⟩), .pointer (some ⟨X8, 0, none⟩), .pointer (some ⟨X9, 0, none⟩), .int .i64 qm, .pointer (some ⟨X11, 0, none⟩), .int .i64 qc, rP, rQ, undef, undef, undef, undef, s19, s20, s21, s22, s23, s24, s25, s26, s27, s28, s29, s30, s31, s32, s33, s34, s35, s36, s37, s38, s39, s40, s41, s42, s43, s44, s45, s46, undef, undef, undef, undef, undef, undef, undef, undef, undef, undef, undef, undef, undef, undef, undef, undef, undef, undef, undef, undef, undef, undef, undef, undef, undef, undef, undef, undef, undef, undef, undef, undef, undef, undef, undef, undef, undef, undef, undef, undef, undef, undef, undef, undef, undef, undef, undef, undef, undef, undef, undef, undef, undef, undef, undef, undef, undef, undef, undef, undef, undef, undef, undef, undef, undef, undef, undef, undef, undef, undef, undef, undef, undef, undef, undef], defers := [] } W6 := by
      intro W6 s0 s1 s2 s6 s19 s20 s21 s22 s23 s24 s25 s26 s27 s28 s29 s30 s31 s32 s33 s34 s35 s36 s37 s38 s39 s40 s41 s42 s43 s44 s45 s46 hb6
      refine hK6 _ _ ?_
      clear hK6 x0 x1 y0 y1 hx5l hx7l hx8l
      have tu := TU.new W5 W6 hb6
      iterate 23 go_step
      rename_i K11 hK11
      obtain ⟨X15, hX15⟩ : ∃ n, W6.heap.size = n := ⟨_, rfl⟩
      have HT11 : ∀ (W11 : World) (v1 v2 : Value) (s0 s1 s2 s6 s19 s20 s21 s22 s23 s24 s25 s26 s27 s28 s29 s30 s31 s32 s33 s34 s35 s36 s37 s38 s39 s40 s41 s42 s43 s44 s45 s46 s47 s48 s49 s50 s51 s52 s53 s54 s55 s56 : Value), TU W5 X15 (X15 + 1) v1 v2 (.slice none 0 0) (.slice none 0 0) mB mL [] [] W11 →
          K11 { tmps := #[s0, s1, s2, .pointer (some ⟨X3, 0, none⟩), .pointer (some ⟨X4, 0, none⟩), .pointer (some ⟨X5, 0, none⟩), s6, .pointer (some ⟨X7, 0, none⟩), .pointer (some ⟨X8, 0, none⟩), .pointer (some ⟨X9, 0, none⟩), .int .i64 qm, .pointer (some ⟨X11, 0, none⟩), .int .i64 qc, rP, rQ, .pointer (some ⟨X15, 0, none⟩), .pointer (some ⟨X15 + 1, 0, none⟩), .int .i64 qm, .int .i64 170, s19, s20, s21, s22, s23, s24, s25, s26, s27, s28, s29, s30, s31, s32, s33, s34, s35, s36, s37, s38, s39, s40, s41, s42, s43, s44, s45, s46, s47, s48, s49, s50, s51, s52, s53, s54, s55, s56, undef, undef, undef, undef, undef, undef, undef, undef, undef, undef, undef, undef, undef, undef, undef, undef, undef, undef, undef, undef, undef, undef, undef, undef, undef, undef, undef, undef, undef, undef, undef, undef, undef, undef, undef, undef, undef, undef, undef, undef, undef, undef, undef, undef, undef, undef, undef, undef, undef, undef, undef, undef, undef, undef, undef, undef, undef, undef, undef, undef, undef, undef, undef, undef, undef], defers := [] } W11 := by
        intro W11 v1 v2 s0 s1 s2 s6 s19 s20 s21 s22 s23 s24 s25 s26 s27 s28 s29 s30 s31 s32 s33 s34 s35 s36 s37 s38 s39 s40 s41 s42 s43 s44 s45 s46 s47 s48 s49 s50 s51 s52 s53 s54 s55 s56 tu11
        refine hK11 _ _ ?_
        clear hK11 tu hX15
        obtain ⟨X16, hX16⟩ : ∃ n, X15 + 1 = n := ⟨_, rfl⟩
        rw [hX16] at tu11 ⊢
        clear hX16
        go_step
        rename_i K15 hK15
        have HT15 : ∀ (W15 : World) (v1 v2 u1 u2 : Value) (s0 s1 s2 s6 s19 s20 s21 s22 s23 s24 s25 s26 s27 s28 s29 s30 s31 s32 s33 s34 s35 s36 s37 s38 s39 s40 s41 s42 s43 s44 s45 s46 s47 s48 s49 s50 s51 s52 s53 s54 s55 s56 s57 s58 s59 s60 s61 s62 s63 s64 s65 s66 s67 s68 s69 s70 : Value), TU W5 X15 X16 v1 v2 u1 u2 mB mL cB cL W15 →
            K15 { tmps := #[s0, s1, s2, .pointer (some ⟨X3, 0, none⟩), .pointer (some ⟨X4, 0, none⟩), .pointer (some ⟨X5, 0, none⟩), s6, .pointer (some ⟨X7, 0, none⟩), .pointer (some ⟨X8, 0, none⟩), .pointer (some ⟨X9, 0, none⟩), .int .i64 qm, .pointer (some ⟨X11, 0, none⟩), .int .i64 qc, rP, rQ, .pointer (some ⟨X15, 0, none⟩), .pointer (some ⟨X16, 0, none⟩), .int .i64 qm, .int .i64 qc, s19, s20, s21, s22, s23, s24, s25, s26, s27, s28, s29, s30, s31, s32, s33, s34, s35, s36, s37, s38, s39, s40, s41, s42, s43, s44, s45, s46, s47, s48, s49, s50, s51, s52, s53, s54, s55, s56, s57, s58, s59, s60, s61, s62, s63, s64, s65, s66, s67, s68, s69, s70, undef, undef, undef, undef, undef, undef, undef, undef, undef, undef, undef, undef, undef, undef, undef, undef, undef, undef, undef, undef, undef, undef, undef, undef, undef, undef, undef, undef, undef, undef, undef, undef, undef, undef, undef, undef, undef, undef, undef, undef, undef, undef, undef, undef, undef, undef, undef, undef, undef, undef, undef], defers := [] } W15 := by
          intro W15 v1 v2 u1 u2 s0 s1 s2 s6 s19 s20 s21 s22 s23 s24 s25 s26 s27 s28 s29 s30 s31 s32 s33 s34 s35 s36 s37 s38 s39 s40 s41 s42 s43 s44 s45 s46 s47 s48 s49 s50 s51 s52 s53 s54 s55 s56 s57 s58 s59 s60 s61 s62 s63 s64 s65 s66 s67 s68 s69 s70 tu15
          refine hK15 _ _ ?_
          clear hK15 tu11
          have km := HM.out _ tu15.1
          obtain ⟨p0, p1, p2, p3⟩ := km.cells
          obtain ⟨q0, q1, q2, q3⟩ := tu15.cells
          go_wp2_with fail
          refine (same7_any _ _ _ _ mB mB mL mL _ km.2.2.1 km.2.2.2.1 ⟨SlT.of_owns tu15.2.2.2.2.2.2.1, km.2.2.1.2⟩ (SlI.of_owns tu15.2.2.2.2.2.2.2.1 km.2.2.2.1.2)).mono ?_
          rintro e wS ⟨rfl, hbS⟩
          rw [show decide (mB = mB ∧ mL = mL) = true from by simp]
          have tuS := tu15.later hbS
          have kmS := HM.out _ tuS.1
          clear p0 p1 p2 p3 q0 q1 q2 q3 km
          obtain ⟨p0, p1, p2, p3⟩ := kmS.cells
          obtain ⟨q0, q1, q2, q3⟩ := tuS.cells
          go_wp2_with fail
          refine (same7_any _ _ _ _ cB cB cL cL _ kmS.2.2.2.2.1 kmS.2.2.2.2.2.1 ⟨SlT.of_owns tuS.2.2.2.2.2.2.2.2.1, kmS.2.2.2.2.1.2⟩ (SlI.of_owns tuS.2.2.2.2.2.2.2.2.2 kmS.2.2.2.2.2.1.2)).mono ?_
          rintro e wT ⟨rfl, hbT⟩
          rw [show decide (cB = cB ∧ cL = cL) = true from by simp]
          have tuT := tuS.later hbT
          have kmT := HM.out _ tuT.1
          clear p0 p1 p2 p3 q0 q1 q2 q3 kmS
          obtain ⟨p0, p1, p2, p3⟩ := kmT.cells
          have hbVT := later_trans HB.out tuT.1
          have HOY := Lib.hid kmT.2.2.2.2.2.2.1
          have HOZ := Lib.hid kmT.2.2.2.2.2.2.2
          clear kmT tuT tuS tu15 hbS hbT
          go_wp2_with fail
          clear p0 p1 p2 p3
          go_loopw [94] (fun j wr => (j = .int .i64 0 ∨ j = .int .i64 1 ∨ j = .int .i64 2) ∧ Below V.heap.size V wr ∧ (∃ ys : List Int, ys.length = mL.length ∧ wr.ownsRow V.heap.size 38 1 (.slice l9 mL.length d9) mL.length (ys.map (.int .u64))) ∧ (∃ zs : List Int, zs.length = cL.length ∧ wr.ownsRow n5 38 1 (.slice l11 cL.length d11) cL.length (zs.map (.int .u64)))) (fun j _ => 2 - (intOf j).toNat)
          case atStart => exact ⟨Or.inl rfl, hbVT, ⟨mL, rfl, HOY.out⟩, ⟨cL, rfl, HOZ.out⟩⟩
          case round =>
            obtain ⟨hj, hb, ⟨ys, hys, oy⟩, ⟨zs, hzs, oz⟩⟩ := hrel
            have HHB := Lib.hid hb
            have HOY := Lib.hid oy
            have HOZ := Lib.hid oz
            clear hb oy oz hbVT
            obtain ⟨wo, rfl⟩ : ∃ W, W = wr := ⟨wr, rfl⟩
            rcases hj with rfl | rfl | rfl
            · go_wp2_with fail
              rw [idx0]
              go_wp2_with fail
              go_loopw [100] (fun q wi => ∃ n : Nat, n ≤ mL.length ∧ q = .int .i64 n ∧ Below V.heap.size V wi ∧ wi.heap[wo.heap.size]? = some (.cells #[.slice a9 mB.length c9, .slice l9 mL.length d9] 25 (0, 0)) ∧ (∃ us : List Int, us.length = mL.length ∧ wi.ownsRow V.heap.size 38 1 (.slice l9 mL.length d9) mL.length (us.map (.int .u64))) ∧ wi.ownsRow n5 38 1 (.slice l11 cL.length d11) cL.length (zs.map (.int .u64))) (fun q _ => mL.length - (intOf q).toNat)
              case atStart => exact ⟨0, Nat.zero_le _, rfl, later_trans HHB.out (later_alloc _ _), box_new _ _ _, ⟨_, hys, owns_later HOY.out (later_alloc _ _)⟩, owns_later HOZ.out (later_alloc _ _)⟩
              case round =>
                obtain ⟨n, hn, rfl, hbi, hbx, ⟨us, hus, ou⟩, ox⟩ := hrel
                by_cases hnl : n < mL.length
                · obtain ⟨g1, c99, e⟩ := ownsRow_pos1 ou (by omega)
                  cases e
                  obtain ⟨hc1, hf1⟩ := owns_cell (j := n) (u := .int .u64 (us[n]'(by omega))) ou (by simp [show n < us.length from by omega])
                  have hgo : V.heap.size ≤ g1 := owns_above ou g1 rfl
                  have hx1 := box_cell (i := 1) hbx
                  simp at hx1
                  have hne := Lib.hid (show wo.heap.size ≠ g1 from fun h => own_ne ou hbx (by decide) (by rw [h]; rfl))
                  have hno : (.slice l11 cL.length d11 : Value).ownBlock ≠ some g1 := fun h => Nat.lt_irrefl g1 (hap.out g1 g1 rfl h)
                  have HNO := Lib.hid hno
                  obtain ⟨y, hy⟩ : ∃ y, us[n]'(by omega) = y := ⟨_, rfl⟩
                  rw [hy] at hc1
                  have HHO := Lib.hid ou
                  have HHX := Lib.hid ox
                  have HBI := Lib.hid hbi
                  have HBX := Lib.hid hbx
                  clear ou ox hbi hbx hy hno
                  go_wp2_with fail
                  go_roundw
                  case rel =>
                    refine ⟨n + 1, by omega, by go_num, HBI.out.setCell hgo _, box_other HBX.out hne.out _, ⟨us.set n (IntKind.u64.wrap (y + 1)), by simpa using hus, ?_⟩, ownsRow_setCell_other HHX.out (a := ⟨g1, n, none⟩) HNO.out _⟩
                    rw [List.map_set]
                    exact owns_set HHO.out _
                  case measure => simp [intOf]; omega
                · obtain rfl : n = mL.length := by omega
                  have hx1 := box_cell (i := 1) hbx
                  simp at hx1
                  go_wp2_with fail
                  go_roundw
                  case rel => exact ⟨Or.inr (Or.inl rfl), hbi, ⟨us, hus, ou⟩, ⟨zs, hzs, ox⟩⟩
                  case measure => simp [intOf]
            · go_wp2_with fail
              rw [idx1]
              go_wp2_with fail
              go_loopw [100] (fun q wi => ∃ n : Nat, n ≤ cL.length ∧ q = .int .i64 n ∧ Below V.heap.size V wi ∧ wi.heap[wo.heap.size]? = some (.cells #[.slice a11 cB.length c11, .slice l11 cL.length d11] 25 (0, 0)) ∧ (∃ us : List Int, us.length = cL.length ∧ wi.ownsRow n5 38 1 (.slice l11 cL.length d11) cL.length (us.map (.int .u64))) ∧ wi.ownsRow V.heap.size 38 1 (.slice l9 mL.length d9) mL.length (ys.map (.int .u64))) (fun q _ => cL.length - (intOf q).toNat)
              case atStart => exact ⟨0, Nat.zero_le _, rfl, later_trans HHB.out (later_alloc _ _), box_new _ _ _, ⟨_, hzs, owns_later HOZ.out (later_alloc _ _)⟩, owns_later HOY.out (later_alloc _ _)⟩
              case round =>
                obtain ⟨n, hn, rfl, hbi, hbx, ⟨us, hus, ou⟩, ox⟩ := hrel
                by_cases hnl : n < cL.length
                · obtain ⟨g1, c99, e⟩ := ownsRow_pos1 ou (by omega)
                  cases e
                  obtain ⟨hc1, hf1⟩ := owns_cell (j := n) (u := .int .u64 (us[n]'(by omega))) ou (by simp [show n < us.length from by omega])
                  have hgo : V.heap.size ≤ g1 := Nat.le_trans hn5' (owns_above ou g1 rfl)
                  have hx1 := box_cell (i := 1) hbx
                  simp at hx1
                  have hne := Lib.hid (show wo.heap.size ≠ g1 from fun h => own_ne ou hbx (by decide) (by rw [h]; rfl))
                  have hno : (.slice l9 mL.length d9 : Value).ownBlock ≠ some g1 := fun h => Nat.lt_irrefl g1 (hap.out g1 g1 h rfl)
                  have HNO := Lib.hid hno
                  obtain ⟨y, hy⟩ : ∃ y, us[n]'(by omega) = y := ⟨_, rfl⟩
                  rw [hy] at hc1
                  have HHO := Lib.hid ou
                  have HHX := Lib.hid ox
                  have HBI := Lib.hid hbi
                  have HBX := Lib.hid hbx
                  clear ou ox hbi hbx hy hno
                  go_wp2_with fail
                  go_roundw
                  case rel =>
                    refine ⟨n + 1, by omega, by go_num, HBI.out.setCell hgo _, box_other HBX.out hne.out _, ⟨us.set n (IntKind.u64.wrap (y + 1)), by simpa using hus, ?_⟩, ownsRow_setCell_other HHX.out (a := ⟨g1, n, none⟩) HNO.out _⟩
                    rw [List.map_set]
                    exact owns_set HHO.out _
                  case measure => simp [intOf]; omega
                · obtain rfl : n = cL.length := by omega
                  have hx1 := box_cell (i := 1) hbx
                  simp at hx1
                  go_wp2_with fail
                  go_roundw
                  case rel => exact ⟨Or.inr (Or.inr rfl), hbi, ⟨ys, hys, ox⟩, ⟨us, hus, ou⟩⟩
                  case measure => simp [intOf]
            · have kz := HK0.out _ HHB.out
              have kd := HK0.out _ (later_trans HHB.out (later_drew _))
              have hS := kz.eight
              obtain ⟨x0, x1, x2, x3, x4, x5, x6, x7⟩ := kz.eight
              go_wp2_with fail
              go_region_held3 (fun W' => W'.cell? ⟨X7, 0, none⟩ = some (.slice a6 A.length c6) ∧ W'.cell? ⟨X7, 1, none⟩ = some (.slice a7 L.length c7) ∧ W'.cell? ⟨X8, 0, none⟩ = some (.slice b6 B.length d6) ∧ W'.cell? ⟨X8, 1, none⟩ = some (.slice b7 M.length d7) ∧ W'.cell? ⟨X3, 0, none⟩ = some (.slice a A0.length c) ∧ W'.cell? ⟨X3, 1, none⟩ = some (.slice a' L0.length c') ∧ W'.cell? ⟨X4, 0, none⟩ = some (.slice b B0.length d) ∧ W'.cell? ⟨X4, 1, none⟩ = some (.slice b' M0.length d'))
                (first | exact hS | exact kO1.eight | exact kZ1.eight | exact kO2.eight | exact kZ2.eight | assumption)
                (first
                  | (have hq := hbO2; go_at_call 39; refine (same7_any _ _ _ _ B B M M _ kO2.2.2.2.1 kO2.2.2.2.2.1 sB2 sM2).mono ?_; rintro e wZ2 ⟨rfl, hbZ2⟩; rw [show decide (B = B ∧ M = M) = true from by simp]; have kZ2 := HK0.out _ (later_trans hv3 hbZ2))
                  | (have hq := hbZ1; go_at_call 36; refine (HOwn2.out _ kZ1.1).mono ?_; rintro e wO2 ⟨aO2, cO2, aP2, cP2, rfl, sB2, sM2, hbO2, -, -⟩; have hv3 := later_trans hv2 hbO2; have kO2 := HK0.out _ hv3)
                  | (have hq := hbO1; go_at_call 39; refine (same7_any _ _ _ _ A A L L _ kO1.2.1 kO1.2.2.1 sA1 sL1).mono ?_; rintro e wZ1 ⟨rfl, hbZ1⟩; rw [show decide (A = A ∧ L = L) = true from by simp]; have hv2 := later_trans hv1 hbZ1; have kZ1 := HK0.out _ hv2)
                  | (go_at_call 36; refine (HOwn1.out _ kd.1).mono ?_; rintro e wO1 ⟨aO1, cO1, aP1, cP1, rfl, sA1, sL1, hbO1, -, -⟩; have hv1 := later_trans (later_trans HHB.out (later_drew _)) hbO1; have kO1 := HK0.out _ hv1))
              all_goals go_wp2_with fail
              all_goals go_ret
              all_goals exact ⟨by simp, kZ2.1⟩
        have HH15 := Lib.hid HT15
        clear HT15 hK15
        by_cases hP : TrieOk A L
        · obtain rfl : Value.bool true = rP := by rw [← HP.out, decide_eq_true hP]
          have HPA := Lib.hid hP
          clear hP
          have kz := HK0.out _ (later_trans HB.out tu11.1)
          by_cases hft : f ≤ t
          · obtain ⟨e1, e2, rfl⟩ := HJC.out.1 HPA.out hft
            have HE1 := Lib.hid e1
            have HE2 := Lib.hid e2
            obtain ⟨⟨x0, x1, y0, y1⟩, -, ⟨z0, z1⟩, -⟩ := kz.all
            have hc0 := kz.all.2.2.1
            clear e1 e2
            go_wp2_with fail
            have kd := HK0.out _ (later_trans (later_trans HB.out tu11.1) (later_drew _))
            have kd' := tu11.later (later_drew _)
            have hS : W11.cell? ⟨X7, 0, none⟩ = some (.slice a6 A.length c6) ∧ W11.cell? ⟨X7, 1, none⟩ = some (.slice a7 L.length c7) ∧ W11.cell? ⟨X5, 0, none⟩ = some (.int .u64 f) ∧ W11.cell? ⟨X5, 1, none⟩ = some (.int .u64 t) := ⟨x0, x1, z0, z1⟩
            go_region_held3 (fun W' => W'.cell? ⟨X7, 0, none⟩ = some (.slice a6 A.length c6) ∧ W'.cell? ⟨X7, 1, none⟩ = some (.slice a7 L.length c7) ∧ W'.cell? ⟨X5, 0, none⟩ = some (.int .u64 f) ∧ W'.cell? ⟨X5, 1, none⟩ = some (.int .u64 t))
              (first | exact hS | exact ⟨kRA.all.1.1, kRA.all.1.2.1, kRA.all.2.2.1⟩ | exact ⟨kU.all.1.1, kU.all.1.2.1, kU.all.2.2.1⟩ | exact ⟨kO.all.1.1, kO.all.1.2.1, kO.all.2.2.1⟩ | exact ⟨kX.all.1.1, kX.all.1.2.1, kX.all.2.2.1⟩ | assumption)
              (first
                | (have hq := hbU; go_at_call 40; refine (refofO_any _ (partOf A L f t) _ sU (part_run HPA.out)).mono ?_; rintro e wO ⟨o1, o2, o3, o4, rfl, hbO, oB, oL⟩; have tuO := ((kd'.later hbRA).later hbU).later hbO; have kO := HK0.out _ (later_trans HB.out tuO.1); obtain ⟨nq1, oq1, gq1, hq1, lq1, -, -, -, -⟩ := box_two tuO.2.2.2.2.2.1; have tuX := tuO.set16 oB oL; have kX := HK0.out _ (later_trans HB.out tuX.1))
                | (have hq := hbRA; go_at_call 50; refine (refcut_any _ (runOf A L) f t _ sRA (by rw [run_length HPA.out]; omega)).mono ?_; rintro e wU ⟨vU, rfl, sU, hbU⟩; have kU := HK0.out _ (later_trans HB.out ((kd'.later hbRA).later hbU).1))
                | (go_at_call 41; refine (refrun_any _ _ A L _ kd.2.1 kd.2.2.1 HPA.out).mono ?_; rintro e wRA ⟨vRA, rfl, oRA, hbRA⟩; have sRA : SlP wRA vRA (runOf A L) := ⟨SlT.of_owns oRA, run_wf kd.2.1 kd.2.2.1⟩; have kRA := HK0.out _ (later_trans HB.out (kd'.later hbRA).1)))
            all_goals (
              have hh := HH15.out
              rw [HE1.out, HE2.out] at hh
              exact hh _ _ _ _ _ _ _ _ _ _ _ _ _ _ _ _ _ _ _ _ _ _ _ _ _ _ _ _ _ _ _ _ _ _ _ _ _ _ _ _ _ _ _ _ _ _ _ _ _ _ _ _ _ _ _ _ _ _ _ _ _ tuX)
          · obtain ⟨rfl, rfl, rfl⟩ := HJC.out.2.1 HPA.out hft
            obtain ⟨-, -, ⟨z0, z1⟩, -⟩ := kz.all
            go_wp2_with fail
            exact HH15.out _ _ _ _ _ _ _ _ _ _ _ _ _ _ _ _ _ _ _ _ _ _ _ _ _ _ _ _ _ _ _ _ _ _ _ _ _ _ _ _ _ _ _ _ _ _ _ _ _ _ _ _ _ _ _ _ _ _ _ _ _ tu11
        · obtain rfl : Value.bool false = rP := by rw [← HP.out, decide_eq_false hP]
          obtain ⟨rfl, rfl, rfl⟩ := HJC.out.2.2 hP
          go_wp2_with fail
          exact HH15.out _ _ _ _ _ _ _ _ _ _ _ _ _ _ _ _ _ _ _ _ _ _ _ _ _ _ _ _ _ _ _ _ _ _ _ _ _ _ _ _ _ _ _ _ _ _ _ _ _ _ _ _ _ _ _ _ _ _ _ _ _ tu11
      have HH11 := Lib.hid HT11
      clear HT11 hK11
      obtain ⟨W7, hW7⟩ : ∃ W, (W6.alloc (.cells #[.slice none 0 0, .slice none 0 0] 25)).alloc (.cells #[.slice none 0 0, .slice none 0 0] 25) = W := ⟨_, rfl⟩
      rw [hX15, hW7] at tu
      rw [hX15, hW7]
      clear hX15 hW7
      by_cases hP : TrieOk A L ∧ TrieOk B M
      · obtain ⟨e1, e2, rfl⟩ := HJM.out.1 hP
        have HE1 := Lib.hid e1
        have HE2 := Lib.hid e2
        obtain rfl : Value.bool true = rP := by rw [← HP.out, decide_eq_true hP.1]
        obtain rfl : Value.bool true = rQ := by rw [← HQ.out, decide_eq_true hP.2]
        have HPP := Lib.hid hP
        have kz := HK0.out _ (later_trans HB.out tu.1)
        have kd := HK0.out _ (later_trans (later_trans HB.out tu.1) (later_drew _))
        have kd' := tu.later (later_drew _)
        have hS := kz.all.1
        obtain ⟨⟨x0, x1, y0, y1⟩, -⟩ := kz.all
        clear e1 e2 hP
        go_wp2_with fail
        go_region_held3 (fun W' => W'.cell? ⟨X7, 0, none⟩ = some (.slice a6 A.length c6) ∧ W'.cell? ⟨X7, 1, none⟩ = some (.slice a7 L.length c7) ∧ W'.cell? ⟨X8, 0, none⟩ = some (.slice b6 B.length d6) ∧ W'.cell? ⟨X8, 1, none⟩ = some (.slice b7 M.length d7))
          (first | exact hS | exact kRA.all.1 | exact kRB.all.1 | exact kU.all.1 | exact kO.all.1 | exact kX.all.1 | assumption)
          (first
            | (have hq := hbU; go_at_call 40; refine (refofO_any _ (bothOf A B L M) _ sU (both_run HPP.out.1 HPP.out.2 (by omega))).mono ?_; rintro e wO ⟨o1, o2, o3, o4, rfl, hbO, oB, oL⟩; have tuO := (((kd'.later hbRA).later hbRB).later hbU).later hbO; have kO := HK0.out _ (later_trans HB.out tuO.1); obtain ⟨nq1, oq1, gq1, hq1, lq1, -, -, -, -⟩ := box_two tuO.2.2.2.2.1; have tuX := tuO.set15 oB oL; have kX := HK0.out _ (later_trans HB.out tuX.1))
            | (have hq := hbRB; go_at_call 49; refine (refunion_any _ _ (runOf A L) (runOf B M) _ (sRA.later hbRB) sRB (by rw [run_length HPP.out.1, run_length HPP.out.2]; omega)).mono ?_; rintro e wU ⟨vU, rfl, sU, hbU⟩; rw [both_same HPP.out.1 HPP.out.2] at sU; have kU := HK0.out _ (later_trans HB.out (((kd'.later hbRA).later hbRB).later hbU).1))
            | (have hq := hbRA; go_at_call 41; refine (refrun_any _ _ B M _ kRA.2.2.2.1 kRA.2.2.2.2.1 HPP.out.2).mono ?_; rintro e wRB ⟨vRB, rfl, oRB, hbRB⟩; have sRB : SlP wRB vRB (runOf B M) := ⟨SlT.of_owns oRB, run_wf kRA.2.2.2.1 kRA.2.2.2.2.1⟩; have kRB := HK0.out _ (later_trans HB.out ((kd'.later hbRA).later hbRB).1))
            | (go_at_call 41; refine (refrun_any _ _ A L _ kd.2.1 kd.2.2.1 HPP.out.1).mono ?_; rintro e wRA ⟨vRA, rfl, oRA, hbRA⟩; have sRA : SlP wRA vRA (runOf A L) := ⟨SlT.of_owns oRA, run_wf kd.2.1 kd.2.2.1⟩; have kRA := HK0.out _ (later_trans HB.out (kd'.later hbRA).1)))
        all_goals (
          have hh := HH11.out
          rw [HE1.out, HE2.out] at hh
          exact hh _ _ _ _ _ _ _ _ _ _ _ _ _ _ _ _ _ _ _ _ _ _ _ _ _ _ _ _ _ _ _ _ _ _ _ _ _ _ _ _ _ _ _ _ _ tuX)
      · obtain ⟨rfl, rfl, rfl⟩ := HJM.out.2 hP
        by_cases hA1 : TrieOk A L
        · obtain rfl : Value.bool true = rP := by rw [← HP.out, decide_eq_true hA1]
          obtain rfl : Value.bool false = rQ := by rw [← HQ.out, decide_eq_false (fun h => hP ⟨hA1, h⟩)]
          clear hP hA1
          go_wp2_with fail
          exact HH11.out _ _ _ _ _ _ _ _ _ _ _ _ _ _ _ _ _ _ _ _ _ _ _ _ _ _ _ _ _ _ _ _ _ _ _ _ _ _ _ _ _ _ _ _ _ tu
        · obtain rfl : Value.bool false = rP := by rw [← HP.out, decide_eq_false hA1]
          clear hP hA1
          go_wp2_with fail
          exact HH11.out _ _ _ _ _ _ _ _ _ _ _ _ _ _ _ _ _ _ _ _ _ _ _ _ _ _ _ _ _ _ _ _ _ _ _ _ _ _ _ _ _ _ _ _ _ tu
    rw [hW5] at *
    have kd := HK0.out _ (later_trans hbVa (later_drew _))
    have hS := kd.all.1
    go_region_held3 (fun W' => W'.cell? ⟨X7, 0, none⟩ = some (.slice a6 A.length c6) ∧ W'.cell? ⟨X7, 1, none⟩ = some (.slice a7 L.length c7) ∧ W'.cell? ⟨X8, 0, none⟩ = some (.slice b6 B.length d6) ∧ W'.cell? ⟨X8, 1, none⟩ = some (.slice b7 M.length d7))
      (first | exact hS | exact kR1.all.1 | exact kR2.all.1 | assumption)
      (first
        | (have hq := hbR1; go_at_call 16; refine (right7_any _ _ B M _ kR1.2.2.2.1 kR1.2.2.2.2.1).mono ?_; rintro e wR2 ⟨rfl, hbR2⟩; rw [HQ.out]; have kR2 := HK0.out _ (later_trans (later_trans (later_trans hbVa (later_drew _)) hbR1) hbR2))
        | (go_at_call 16; refine (right7_any _ _ A L _ kd.2.1 kd.2.2.1).mono ?_; rintro e wR1 ⟨rfl, hbR1⟩; rw [HP.out]; have kR1 := HK0.out _ (later_trans (later_trans hbVa (later_drew _)) hbR1)))
    exact HT6 _ _ _ _ _ _ _ _ _ _ _ _ _ _ _ _ _ _ _ _ _ _ _ _ _ _ _ _ _ _ _ _ _ (later_trans (later_trans (later_drew _) hbR1) hbR2)
  have HHT := Lib.hid HT
  have HX3 := Lib.hid hX3
  have HX4 := Lib.hid hX4
  have HX5 := Lib.hid hX5
  clear HT hK1
  go_region_held3 (fun W' => W'.cell? ⟨X3, 0, none⟩ = some (.slice a A0.length c) ∧ W'.cell? ⟨X3, 1, none⟩ = some (.slice a' L0.length c') ∧ W'.cell? ⟨X3 + 1, 0, none⟩ = some (.slice b B0.length d) ∧ W'.cell? ⟨X3 + 1, 1, none⟩ = some (.slice b' M0.length d'))
    (first | exact hf4 | exact cells4_next hbWQ hf4 | exact cells4_next hbWP hf4 | (refine cells4_next (W := w2) ?_ hf4; first | exact (Below.refl _ w2).alloc (Nat.le_refl _) _ | exact ((Below.refl _ w2).alloc (Nat.le_refl _) _).drew | exact (Below.refl _ w2).drew | exact (((Below.refl _ w2).alloc (Nat.le_refl _) _).alloc (by simp) _).drew | exact Below.alloc hbWP hbWP.size _ | exact Below.alloc hbWQ hbWQ.size _ | exact Below.alloc (Below.alloc hbWP hbWP.size _) (by have := hbWP.size; simp; omega) _ | exact Below.alloc (Below.alloc hbWQ hbWQ.size _) (by have := hbWQ.size; simp; omega) _ | (have s1 := hbWP.size; have s2 := hbWQ.size; (repeat (first | exact hbWQ | refine Below.setCell ?_ (by first | (simp; done) | (simp; omega)) _ | refine Below.alloc ?_ (by first | (simp; done) | (simp; omega)) _)))) | assumption)
    (first
      | (go_at_call 36; have hq := hbWP; refine (HOwn2.out _ (by first | exact later_trans hb02 hbWP | exact later_trans hb02 (later_trans hbWP (later_alloc _ _)) | exact later_trans hb02 (later_trans hbWP (later_trans (later_alloc _ _) (later_alloc _ _))))).mono ?_; rintro e wQ ⟨b6, d6, b7, d7, rfl, -, -, hbQ, oB, oM⟩; ((first | (have hbPQ : Below wP.heap.size wP wQ := hbQ) | (have hbPQ : Below wP.heap.size wP wQ := later_trans (later_alloc _ _) hbQ) | (have hbPQ : Below wP.heap.size wP wQ := later_trans (later_trans (later_alloc _ _) (later_alloc _ _)) hbQ))); have hbWQ := later_trans hbWP hbPQ;
          (try (have bQ1 := (hbPQ.block _ (lt_of_block bP1)).trans bP1; obtain ⟨nq1, oq1, gq1, hq1, lq1, rq1, sq1, tq1, uq1⟩ := box_two bQ1)); (try (have bQ2 := (hbPQ.block _ (lt_of_block bP2)).trans bP2; obtain ⟨nq2, oq2, gq2, hq2, lq2, rq2, sq2, tq2, uq2⟩ := box_two bQ2)); (first | (have bQ4 := (hbQ.block _ (lt_of_block (box_new2 wP (.cells #[.slice none 0 0, .slice none 0 0] 25) #[.slice none 0 0, .slice none 0 0] 25))).trans (box_new2 wP (.cells #[.slice none 0 0, .slice none 0 0] 25) #[.slice none 0 0, .slice none 0 0] 25); have bQ3 := (hbQ.block _ (lt_of_block (box_alloc (box_new wP #[.slice none 0 0, .slice none 0 0] 25) (.cells #[.slice none 0 0, .slice none 0 0] 25)))).trans (box_alloc (box_new wP #[.slice none 0 0, .slice none 0 0] 25) (.cells #[.slice none 0 0, .slice none 0 0] 25)); obtain ⟨nq3, oq3, gq3, hq3, lq3, rq3, sq3, tq3, uq3⟩ := box_two bQ3; obtain ⟨nq4, oq4, gq4, hq4, lq4, rq4, sq4, tq4, uq4⟩ := box_two bQ4) | (have bQ3 := (hbQ.block _ (lt_of_block (box_new wP #[.slice none 0 0, .slice none 0 0] 25))).trans (box_new wP #[.slice none 0 0, .slice none 0 0] 25); obtain ⟨nq3, oq3, gq3, hq3, lq3, rq3, sq3, tq3, uq3⟩ := box_two bQ3) | skip); (try (have hz := bQ4; clear hz; have hne : wP.heap.size + 1 ≠ wP.heap.size := (by omega); have hz := box_two2 bQ4 hne; clear hne; obtain ⟨va0, va1, va2, va3⟩ := hz)); (try (have hz := bQ3; clear hz; have hne : wP.heap.size ≠ wP.heap.size + 1 := (by omega); have hz := box_two2 bQ3 hne; clear hne; obtain ⟨vb0, vb1, vb2, vb3⟩ := hz)); (try (have hz := bQ2; clear hz; have hne : w2.heap.size + 1 ≠ w2.heap.size := (by omega); have hz := box_two2 bQ2 hne; clear hne; obtain ⟨vc0, vc1, vc2, vc3⟩ := hz)); (try (have hz := bQ1; clear hz; have hne : w2.heap.size ≠ w2.heap.size + 1 := (by omega); have hz := box_two2 bQ1 hne; clear hne; obtain ⟨vd0, vd1, vd2, vd3⟩ := hz)); (try (have hz := bQ3; clear hz; have hne : wP.heap.size ≠ w2.heap.size := (by have := lt_of_block bP1; omega); have hz := box_two2 bQ3 hne; clear hne; obtain ⟨ve0, ve1, ve2, ve3⟩ := hz)); (try (have hz := bQ1; clear hz; have hne : w2.heap.size ≠ wP.heap.size := (by have := lt_of_block bP1; omega); have hz := box_two2 bQ1 hne; clear hne; obtain ⟨vf0, vf1, vf2, vf3⟩ := hz)))
      | (go_at_call 36; refine (HOwn1.out _ (by first | exact later_trans hb02 (later_drew w2) | exact later_trans hb02 (later_trans (later_alloc w2 _) (later_drew _)) | exact later_trans hb02 (later_trans (later_trans (later_alloc w2 _) (later_alloc _ _)) (later_drew _)))).mono ?_; rintro e wP ⟨a6, c6, a7, c7, rfl, -, -, hbP, oA, oL⟩; ((first | (have hbWP : Below w2.heap.size w2 wP := later_trans (later_drew w2) hbP) | (have hbWP : Below w2.heap.size w2 wP := later_trans (later_trans (later_alloc w2 _) (later_drew _)) hbP) | (have hbWP : Below w2.heap.size w2 wP := later_trans (later_trans (later_trans (later_alloc w2 _) (later_alloc _ _)) (later_drew _)) hbP)));
          (first | (have bP2 := (hbP.block _ (lt_of_block (box_new2 w2 (.cells #[.slice none 0 0, .slice none 0 0] 25) #[.slice none 0 0, .slice none 0 0] 25))).trans (box_new2 w2 (.cells #[.slice none 0 0, .slice none 0 0] 25) #[.slice none 0 0, .slice none 0 0] 25); have bP1 := (hbP.block _ (lt_of_block (box_alloc (box_new w2 #[.slice none 0 0, .slice none 0 0] 25) (.cells #[.slice none 0 0, .slice none 0 0] 25)))).trans (box_alloc (box_new w2 #[.slice none 0 0, .slice none 0 0] 25) (.cells #[.slice none 0 0, .slice none 0 0] 25))) | (have bP1 := (hbP.block _ (lt_of_block (box_new w2 #[.slice none 0 0, .slice none 0 0] 25))).trans (box_new w2 #[.slice none 0 0, .slice none 0 0] 25)) | skip)))
  all_goals (
    have s1 := hbWP.size
    have s2 := hbPQ.size
    have hne1 : (40 : TypeId) ≠ 25 := by decide
    have hne2 : (38 : TypeId) ≠ 25 := by decide
    (try have lp1 := lt_of_block bP1)
    (try have lp2 := lt_of_block bP2)
    have oA := owns_later oA hbPQ
    have oL := owns_later oL hbPQ
    refine HHT.out _ _ _ _ _ _ _ _ _ _ _ (TJ.mk2 hb02 HX3.out HX4.out HX5.out HWA.out HWL.out HWB.out HWM.out ?_ ?_ ?_ ?_ ?_ ?_ ?_)
    · (repeat' (first | with_reducible exact hbWQ | with_reducible refine Below.setCell ?_ ?_ _ | with_reducible refine Below.alloc ?_ ?_ _ | (simp; done) | omega | (simp; omega)))
    · (repeat' (first | with_reducible exact oA | with_reducible exact oL | with_reducible exact oB | with_reducible exact oM | with_reducible refine own_setZ ?_ ?_ ?_ _ _ | exact hne1 | exact hne2 | with_reducible refine owns_later ?_ (later_alloc _ _) | with_reducible exact bQ1 | with_reducible exact bQ2 | with_reducible exact bQ3 | with_reducible exact bQ4 | with_reducible refine box_setZ ?_ _ _ | with_reducible refine box_alloc ?_ _ | with_reducible refine box_other2 ?_ ?_ _ _ | omega))
    · (repeat' (first | with_reducible exact oA | with_reducible exact oL | with_reducible exact oB | with_reducible exact oM | with_reducible refine own_setZ ?_ ?_ ?_ _ _ | exact hne1 | exact hne2 | with_reducible refine owns_later ?_ (later_alloc _ _) | with_reducible exact bQ1 | with_reducible exact bQ2 | with_reducible exact bQ3 | with_reducible exact bQ4 | with_reducible refine box_setZ ?_ _ _ | with_reducible refine box_alloc ?_ _ | with_reducible refine box_other2 ?_ ?_ _ _ | omega))
    · (repeat' (first | with_reducible exact oA | with_reducible exact oL | with_reducible exact oB | with_reducible exact oM | with_reducible refine own_setZ ?_ ?_ ?_ _ _ | exact hne1 | exact hne2 | with_reducible refine owns_later ?_ (later_alloc _ _) | with_reducible exact bQ1 | with_reducible exact bQ2 | with_reducible exact bQ3 | with_reducible exact bQ4 | with_reducible refine box_setZ ?_ _ _ | with_reducible refine box_alloc ?_ _ | with_reducible refine box_other2 ?_ ?_ _ _ | omega))
    · (repeat' (first | with_reducible exact oA | with_reducible exact oL | with_reducible exact oB | with_reducible exact oM | with_reducible refine own_setZ ?_ ?_ ?_ _ _ | exact hne1 | exact hne2 | with_reducible refine owns_later ?_ (later_alloc _ _) | with_reducible exact bQ1 | with_reducible exact bQ2 | with_reducible exact bQ3 | with_reducible exact bQ4 | with_reducible refine box_setZ ?_ _ _ | with_reducible refine box_alloc ?_ _ | with_reducible refine box_other2 ?_ ?_ _ _ | omega))
    · (repeat' (first | with_reducible exact bQ1 | with_reducible exact bQ2 | with_reducible exact bQ3 | with_reducible exact bQ4 | with_reducible exact box_new _ _ _ | with_reducible exact box_new2 _ _ _ _ | with_reducible exact box_newS _ _ _ _ _ _ | with_reducible refine box_setZ ?_ _ _ | with_reducible refine box_alloc ?_ _ | with_reducible refine box_other2 ?_ ?_ _ _ | omega))
    · (repeat' (first | with_reducible exact bQ1 | with_reducible exact bQ2 | with_reducible exact bQ3 | with_reducible exact bQ4 | with_reducible exact box_new _ _ _ | with_reducible exact box_new2 _ _ _ _ | with_reducible exact box_newS _ _ _ _ _ _ | with_reducible refine box_setZ ?_ _ _ | with_reducible refine box_alloc ?_ _ | with_reducible refine box_other2 ?_ ?_ _ _ | omega)))
end Go.Proofs.Ytdfnfdgkhflonaa
