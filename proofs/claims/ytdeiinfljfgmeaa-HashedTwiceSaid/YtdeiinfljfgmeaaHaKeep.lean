/-
  What the body of a range over matches leaves alone: all but one box, and the row of the call's own that it holds. No program's walk.
-/
import Derived.Test.YtdeiinfljfgmeaaRange
import Derived.Test.YtdeiinfljfgmeaaHaMap
namespace Go.Proofs.Ytdeiinfljfgmeaa
open Go.RowKit Go.Maps Go.WideMaps
set_option linter.unusedVariables false

/-- The row of the call's own that the box T holds. -/
def ownT (T : Nat) (W : World) : Option Nat := match W.cell? ⟨T, 0, none⟩ with | some v => v.ownBlock | none => none
theorem ownT_box {T : Nat} {W : World} {v : Value} {t : TypeId} (h : W.heap[T]? = some (.cells #[v] t (0, 0))) : ownT T W = v.ownBlock := by
  have h1 := box_cell (i := 0) h
  unfold ownT
  rw [h1]
  rfl
theorem ownT_block {T : Nat} {A B : World} (h : B.heap[T]? = A.heap[T]?) : ownT T B = ownT T A := by
  unfold ownT
  rw [World.cell?_of_block (a := ⟨T, 0, none⟩) h]
structure KeepT (T n0 : Nat) (A B : World) : Prop where
  bel : Below n0 A B
  keep : ∀ (b : Nat) (o : Obj), A.heap[b]? = some o → (o.isCells = true ∨ o.isWalk = true) → b ≠ T → ownT T A ≠ some b → B.heap[b]? = some o
  own : ownT T B = ownT T A ∨ ∃ g, ownT T B = some g ∧ A.heap.size ≤ g
theorem KeepT.trans {T n0 : Nat} {A B C : World} (h : KeepT T n0 A B) (k : KeepT T n0 B C) : KeepT T n0 A C := by
  refine ⟨h.bel.trans k.bel, fun b o hb hi hT ho => k.keep b o (h.keep b o hb hi hT ho) hi hT fun e => ?_, ?_⟩
  · rcases h.own with q | ⟨g, q, hg⟩
    · exact ho (q.symm.trans e)
    · rw [q] at e
      cases e
      have := lt_of_block hb
      omega
  · rcases k.own with q | ⟨g, q, hg⟩
    · rcases h.own with q' | ⟨g', q', hg'⟩
      · exact .inl (q.trans q')
      · exact .inr ⟨g', q.trans q', hg'⟩
    · exact .inr ⟨g, q, Nat.le_trans h.bel.size hg⟩
theorem KeepT.later {T n0 : Nat} {A B : World} (hT : T < A.heap.size) (hn : n0 ≤ A.heap.size) (h : Below A.heap.size A B) : KeepT T n0 A B :=
  ⟨h.mono hn, fun b o hb _ _ _ => (h.block b (lt_of_block hb)).trans hb, .inl (ownT_block (h.block T hT))⟩
theorem KeepT.put {T n0 B : Nat} (hn : n0 ≤ B) (hT : T < B) (W : World) (l : Nat) (o o' : Obj) (hl : B ≤ l) (h : W.heap[l]? = some o) (hc : o.isCells = false) (hw : o.isWalk = false) : KeepT T n0 W (W.putObj l o') := by
  refine ⟨⟨rfl, rfl, rfl, by simp [World.putObj], fun b hb => World.putObj_heap_other (by omega)⟩, fun b o2 hb hi _ _ => ?_, .inl (ownT_block (World.putObj_heap_other (by omega)))⟩
  have hne : b ≠ l := fun e => by
    subst e
    rw [h] at hb
    cases hb
    rw [hc, hw] at hi
    simp at hi
  exact (World.putObj_heap_other hne).trans hb
section
variable {T n0 : Nat} {A B : World}
theorem KeepT.box (h : KeepT T n0 A B) (h0 : ownT T A = none) {b : Nat} {cs : Array Value} {t : TypeId} {fr : Nat × Nat} (hb : A.heap[b]? = some (.cells cs t fr)) (hT : b ≠ T) : B.heap[b]? = some (.cells cs t fr) :=
  h.keep b _ hb (.inl rfl) hT (by rw [h0]; intro e; cases e)
theorem KeepT.owns (h : KeepT T n0 A B) (h0 : ownT T A = none) {base : Nat} {e : TypeId} {size n : Nat} {v : Value} {xs : List Value} (ho : A.ownsRow base e size v n xs) (hT : T < base) : B.ownsRow base e size v n xs := by
  obtain ⟨h1, h2⟩ := ho
  refine ⟨h1, ?_⟩
  rcases h2 with h2 | ⟨g, cap, cur, hv, hb, hh, r⟩
  · exact .inl h2
  · exact .inr ⟨g, cap, cur, hv, hb, h.box h0 hh (by omega), r⟩
theorem KeepT.hash {w0 : World} {base b : Nat} {rows : List (List Int)} {o : List Int} (h : KeepT T n0 A B) (h0 : ownT T A = none) (hw : w0.heap.size ≤ n0) (hm : HashB w0 base b rows o A) (hT : T < base) (hb : base ≤ b) : HashB w0 base b rows o B := by
  obtain ⟨f, n, h1, h2, h3⟩ := hm
  obtain ⟨es, c, hh⟩ := h1.isMap
  refine ⟨f, n, h1.block ((h.keep b _ hh (.inr rfl) (by omega) (by rw [h0]; intro e; cases e)).trans hh.symm), ⟨h2.no, fun s hs => ?_, h2.apart⟩, h3.trans (h.bel.mono hw)⟩
  obtain ⟨v, vs, g, e1, e2, e3, e4⟩ := h2.has s hs
  have h5 := h.owns h0 e4.own hT
  exact ⟨v, vs, g, e1, e2, (h5.lt g e2).2, ⟨h5, e4.len, e4.rows⟩⟩
end
/-- What a key has, whatever the body has done since. -/
theorem HashB.look2 {T n0 : Nat} {w0 A : World} {base b : Nat} {rows : List (List Int)} {o : List Int} (hm : HashB w0 base b rows o A) (h0 : ownT T A = none) (hb : T < b) (L : List UInt8) (hL : L.length ≤ maxLen) :
    ∃ v vs, OldRows w0 base A v vs (grpL rows o L) ∧ ∀ B, KeepT T n0 A B → (Instr.lookup 75 (.map (some b)) (.string ⟨L.toArray⟩) false).run Try.prog B = .ok v B := by
  obtain ⟨f, n, h1, h2, h3⟩ := hm
  obtain ⟨vs, hO, -⟩ := h2.at_ L
  refine ⟨_, vs, hO, fun B h => ?_⟩
  obtain ⟨es, c, hh⟩ := h1.isMap
  exact (h1.block ((h.keep b _ hh (.inr rfl) (by omega) (by rw [h0]; intro e; cases e)).trans hh.symm)).look lawS Try.underlying75 (zeroRows B) (keyOf_string_mk Try.underlying9 (s := ⟨L.toArray⟩) (by simpa [ByteArray.size] using hL))
/-- Two rows that match, where they lie. -/
structure Pair (w0 : World) (A B : Rl) where
  xv : Value
  yv : Value
  x : List Int
  y : List Int
  hx : SlI .u64 w0 xv x
  hy : SlI .u64 w0 yv y
  mx : x ∈ A.rows
  my : y ∈ B.rows
def encP {w0 : World} {A B : Rl} (p : Pair w0 A B) : Array Value := #[p.xv, p.yv]
def prP {w0 : World} {A B : Rl} (p : Pair w0 A B) : List Int × List Int := (p.x, p.y)
/-- All rows that match, in order. -/
def mateL (q o : List Int) (rs ls : List (List Int)) : List (List Int × List Int) := rs.flatMap fun x => (grpL ls o (keyL (cellsL x q))).map fun y => (x, y)
def matchL (A B : Rl) : List (List Int × List Int) := mateL (placesL A.vars (sharedL A B)) (placesL B.vars (sharedL A B)) A.rows B.rows
theorem mateL_snoc (q o : List Int) (rs ls : List (List Int)) (x : List Int) : mateL q o (rs ++ [x]) ls = mateL q o rs ls ++ (grpL ls o (keyL (cellsL x q))).map fun y => (x, y) := by
  unfold mateL
  rw [List.flatMap_append]
  simp
theorem mateL_len (q o : List Int) (rs ls : List (List Int)) : (mateL q o rs ls).length ≤ rs.length * ls.length := by
  induction rs with
  | nil => simp [mateL]
  | cons x rs ih =>
    have e : mateL q o (x :: rs) ls = ((grpL ls o (keyL (cellsL x q))).map fun y => (x, y)) ++ mateL q o rs ls := by simp [mateL]
    have h1 : (grpL ls o (keyL (cellsL x q))).length ≤ ls.length := List.length_filter_le _ _
    rw [e, List.length_append, List.length_map, List.length_cons, Nat.succ_mul]
    omega
end Go.Proofs.Ytdeiinfljfgmeaa
