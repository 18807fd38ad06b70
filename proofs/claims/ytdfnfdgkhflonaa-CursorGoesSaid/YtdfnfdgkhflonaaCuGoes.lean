/-
  CursorGoes, walked.
-/
import Derived.Test.YtdfnfdgkhflonaaCuS1
import Derived.Test.YtdfnfdgkhflonaaCuN2
import Derived.Test.YtdfnfdgkhflonaaTRight
namespace Go.Proofs.Ytdfnfdgkhflonaa
open Go.RowKit
set_option linter.unusedVariables false

theorem CuM.weaken {w : World} {C C' : Nat → Prop} {c N : Nat} {rv : Value} {bs : List Br} {ls : List Int} {ats : List Nat} {st : Int} (h : CuM w C' c N rv bs ls ats st) (hC : C c) (hs : ∀ b, C b → C' b) : CuM w C c N rv bs ls ats st := by
  obtain ⟨kv, bv, lv, rs, hS, _, h1, h2, h3, l1, l2, l3, hR⟩ := h
  have lw : ∀ v, Low N C' v → Low N C v := fun v hv b hb => ⟨(hv b hb).1, fun h => (hv b hb).2 (hs b h)⟩
  refine ⟨kv, bv, lv, rs, hS, hC, h1, h2, h3, lw _ l1, lw _ l2, lw _ l3, ?_⟩
  unfold RowsAre at *
  split at hR
  · exact hR
  · exact hR
  · obtain ⟨a, v2, e, b, d, f⟩ := hR
    exact ⟨a, v2, e, b, lw _ d, f⟩
  · exact hR

/-- A row whose numbers may be raised. -/
def RowUp (base : Nat) (T : TypeId) (s : Nat) (v : Value) (n : Nat) (W : World) : Prop := ∃ vs, W.ownsRow base T s v n vs ∧ ∀ i, i < n → ∃ k, vs[i * s]? = some (.int .u64 k)
/-- What the law keeps while its own trie is spoilt. -/
structure SpW (w : World) (c N D X5 X8 : Nat) (bs : List Br) (ls : List Int) (ab al abp alp : Option Addr) (cb cl cbp clp : Nat) (W : World) : Prop where
  cu : CuM W (fun b => b = c ∨ b < D) c N (.slice none 0 0) bs ls [] 0
  low : D ≤ c
  bel : Below w.heap.size w W
  x5 : W.heap[X5]? = some (.cells #[.slice ab bs.length cb, .slice al ls.length cl] 25 (0, 0))
  x8 : W.heap[X8]? = some (.cells (pl8 abp alp bs.length cbp ls.length clp [] 0 0 0 0) 36 (0, 0))
  n8 : N ≤ X8
  pb : W.ownsRow D 40 3 (.slice abp bs.length cbp) bs.length (bs.flatMap Br.cells)
  pl : W.ownsRow D 38 1 (.slice alp ls.length clp) ls.length (ls.map (.int .u64))
  tb : RowUp w.heap.size 40 3 (.slice ab bs.length cb) bs.length W
  tl : RowUp w.heap.size 38 1 (.slice al ls.length cl) ls.length W
  hb : ∀ g, ab = some g → g.block < D
  hl : ∀ g, al = some g → g.block < D

theorem rowUp_at {base : Nat} {T : TypeId} {s n i : Nat} {a : Option Addr} {c : Nat} {W : World} (h : RowUp base T s (.slice a n c) n W) (hi : i < n) (hs : 0 < s) : ∃ g k, a = some ⟨g, 0, none⟩ ∧ W.cell? ⟨g, i * s, none⟩ = some (.int .u64 k) ∧ W.frozen? ⟨g, i * s, none⟩ = false ∧ base ≤ g ∧ ∃ cur, W.heap[g]? = some (.cells cur T (0, 0)) := by
  obtain ⟨vs, h1, h2⟩ := h
  obtain ⟨g, cap, hv⟩ := Go.Joins.ownsRow_form h1 (by omega)
  cases hv
  obtain ⟨k, hk⟩ := h2 i hi
  obtain ⟨c1, c2⟩ := owns_cell h1 hk
  refine ⟨g, k, rfl, c1, c2, (h1.lt g rfl).1, ?_⟩
  rcases h1.2 with ⟨h', _⟩ | ⟨g', cap', cur, hv, _, hh, _⟩
  · cases h'
  · cases hv; exact ⟨cur, hh⟩
theorem rowUp_set {base : Nat} {T : TypeId} {s n i g c : Nat} {W : World} (h : RowUp base T s (.slice (some ⟨g, 0, none⟩) n c) n W) (k : Int) (hs : 0 < s) : RowUp base T s (.slice (some ⟨g, 0, none⟩) n c) n (W.setCell ⟨g, i * s, none⟩ (.int .u64 k)) := by
  obtain ⟨vs, h1, h2⟩ := h
  refine ⟨vs.set (i * s) (.int .u64 k), owns_set h1 _, fun j hj => ?_⟩
  obtain ⟨q, hq⟩ := h2 j hj
  by_cases e : i * s = j * s
  · exact ⟨k, by rw [e]; have := (List.getElem?_eq_some_iff.1 hq).1; simp [this]⟩
  · exact ⟨q, by rw [List.getElem?_set_ne e]; exact hq⟩
theorem rowUp_other {base : Nat} {T T' : TypeId} {s n g o : Nat} {v : Value} {W : World} {cur : Array Value} (h : RowUp base T s v n W) (hg : W.heap[g]? = some (.cells cur T' (0, 0))) (hne : T ≠ T') (u : Value) : RowUp base T s v n (W.setCell ⟨g, o, none⟩ u) := by
  obtain ⟨vs, h1, h2⟩ := h
  exact ⟨vs, own_set h1 hg hne u, h2⟩

section
variable {w : World} {c N D X5 X8 : Nat} {bs : List Br} {ls : List Int} {ab al abp alp : Option Addr} {cb cl cbp clp : Nat} {W : World}
theorem SpW.cu_set {g o : Nat} (h : SpW w c N D X5 X8 bs ls ab al abp alp cb cl cbp clp W) (hg : g < D) (u : Value) : CuM (W.setCell ⟨g, o, none⟩ u) (fun b => b = c ∨ b < D) c N (.slice none 0 0) bs ls [] 0 := by
  have hlow := h.low
  refine h.cu.agree ⟨by simp, fun b hb hC => Below.heap_setCell _ _ _ _ (fun e => hC (.inr (by have : b = g := e; omega)))⟩ (Below.heap_setCell _ _ _ _ (by show c ≠ g; omega)) (fun b hb => by cases hb)
theorem SpW.setL {g i : Nat} (h : SpW w c N D X5 X8 bs ls ab (some ⟨g, 0, none⟩) abp alp cb cl cbp clp W) (hw : w.heap.size ≤ g) {cur : Array Value} (hg : W.heap[g]? = some (.cells cur 38 (0, 0))) (k : Int) : SpW w c N D X5 X8 bs ls ab (some ⟨g, 0, none⟩) abp alp cb cl cbp clp (W.setCell ⟨g, i * 1, none⟩ (.int .u64 k)) := by
  have hgD := h.hl _ rfl
  have hgD : g < D := hgD
  have n5 : X5 ≠ g := fun e => by have := h.x5; rw [e, hg] at this; cases this
  have n8 : X8 ≠ g := fun e => by have := h.x8; rw [e, hg] at this; cases this
  exact ⟨h.cu_set hgD _, h.low, h.bel.setCell (p := ⟨g, i * 1, none⟩) hw _, box_other h.x5 n5 _, box_other h.x8 n8 _, h.n8, ownsRow_setCell_below h.pb (a := ⟨g, i * 1, none⟩) hgD _, ownsRow_setCell_below h.pl (a := ⟨g, i * 1, none⟩) hgD _, rowUp_other h.tb hg (by decide) _, rowUp_set h.tl k (by decide), h.hb, h.hl⟩
theorem SpW.setB {g i : Nat} (h : SpW w c N D X5 X8 bs ls (some ⟨g, 0, none⟩) al abp alp cb cl cbp clp W) (hw : w.heap.size ≤ g) {cur : Array Value} (hg : W.heap[g]? = some (.cells cur 40 (0, 0))) (k : Int) : SpW w c N D X5 X8 bs ls (some ⟨g, 0, none⟩) al abp alp cb cl cbp clp (W.setCell ⟨g, i * 3, none⟩ (.int .u64 k)) := by
  have hgD := h.hb _ rfl
  have hgD : g < D := hgD
  have n5 : X5 ≠ g := fun e => by have := h.x5; rw [e, hg] at this; cases this
  have n8 : X8 ≠ g := fun e => by have := h.x8; rw [e, hg] at this; cases this
  exact ⟨h.cu_set hgD _, h.low, h.bel.setCell (p := ⟨g, i * 3, none⟩) hw _, box_other h.x5 n5 _, box_other h.x8 n8 _, h.n8, ownsRow_setCell_below h.pb (a := ⟨g, i * 3, none⟩) hgD _, ownsRow_setCell_below h.pl (a := ⟨g, i * 3, none⟩) hgD _, rowUp_set h.tb k (by decide), rowUp_other h.tl hg (by decide) _, h.hb, h.hl⟩
theorem SpW.later {W' : World} (h : SpW w c N D X5 X8 bs ls ab al abp alp cb cl cbp clp W) (hb : Below W.heap.size W W') : SpW w c N D X5 X8 bs ls ab al abp alp cb cl cbp clp W' := by
  refine ⟨h.cu.later hb, h.low, later_trans h.bel hb, (hb.block _ (lt_of_block h.x5)).trans h.x5, (hb.block _ (lt_of_block h.x8)).trans h.x8, h.n8, owns_later h.pb hb, owns_later h.pl hb, ?_, ?_, h.hb, h.hl⟩
  · obtain ⟨vs, a, b⟩ := h.tb; exact ⟨vs, owns_later a hb, b⟩
  · obtain ⟨vs, a, b⟩ := h.tl; exact ⟨vs, owns_later a hb, b⟩
theorem SpW.cur (h : SpW w c N D X5 X8 bs ls ab al abp alp cb cl cbp clp W) (hw : w.heap.size ≤ D) : CurN w.heap.size N W c bs ls [] 0 := ⟨_, h.cu.weaken rfl (fun b hb => .inl hb), Nat.le_trans hw h.low⟩
end

/-- The cursor stays where a box beside it is written. -/
theorem CurN.set {B N X o : Nat} {w : World} {c : Nat} {bs : List Br} {ls : List Int} {ats : List Nat} {st : Int} {cs : Array Value} {T : TypeId} (h : CurN B N w c bs ls ats st) (hX : w.heap[X]? = some (.cells cs T (0, 0))) (hN : N ≤ X) (hT : T ≠ 112) (u : Value) : CurN B N (w.setCell ⟨X, o, none⟩ u) c bs ls ats st := by
  obtain ⟨rv, h1, h2⟩ := h
  obtain ⟨hC, hcN, hNs, hrv⟩ := h1.rows
  refine ⟨rv, h1.agree ⟨by simp, fun b hb _ => Below.heap_setCell _ _ _ _ (by show b ≠ X; omega)⟩ (Below.heap_setCell _ _ _ _ (by show c ≠ X; omega)) (fun b hb => Below.heap_setCell _ _ _ _ (fun e => ?_)), h2⟩
  have e : b = X := e
  obtain ⟨kv, bv, lv, rs, hS, _⟩ := h1
  subst e
  exact own_ne hS.own hX (Ne.symm hT) hb.symm
/-- What the moves' loop keeps. -/
structure GoW (w : World) (c N X8 : Nat) (bs : List Br) (ls : List Int) (abp alp : Option Addr) (cbp clp : Nat) (ats : List Nat) (st z1 z2 le mo : Int) (W : World) : Prop where
  cu : CurN w.heap.size N W c bs ls ats st
  bel : Below w.heap.size w W
  x8 : W.heap[X8]? = some (.cells (pl8 abp alp bs.length cbp ls.length clp ats z1 z2 le mo) 36 (0, 0))
  n8 : N ≤ X8 ∧ w.heap.size ≤ X8
  pb : ∃ base, W.ownsRow base 40 3 (.slice abp bs.length cbp) bs.length (bs.flatMap Br.cells)
  pl : ∃ base, W.ownsRow base 38 1 (.slice alp ls.length clp) ls.length (ls.map (.int .u64))
  at_ : PAt ats z1 z2
  few : le ≤ st
  many : st ≤ mo
section
variable {w : World} {c N X8 : Nat} {bs : List Br} {ls : List Int} {abp alp : Option Addr} {cbp clp : Nat} {ats : List Nat} {st z1 z2 le mo : Int} {W W' : World}
theorem GoW.later (h : GoW w c N X8 bs ls abp alp cbp clp ats st z1 z2 le mo W) (hb : Below W.heap.size W W') : GoW w c N X8 bs ls abp alp cbp clp ats st z1 z2 le mo W' :=
  ⟨h.cu.later hb, later_trans h.bel hb, (hb.block _ (lt_of_block h.x8)).trans h.x8, h.n8, by obtain ⟨b, k⟩ := h.pb; exact ⟨b, owns_later k hb⟩, by obtain ⟨b, k⟩ := h.pl; exact ⟨b, owns_later k hb⟩, h.at_, h.few, h.many⟩
theorem GoW.ok (h : GoW w c N X8 bs ls abp alp cbp clp ats st z1 z2 le mo W) : AtsOk bs ls ats := by
  obtain ⟨rv, h1, _⟩ := h.cu; exact h1.atsOk
theorem GoW.one (h : GoW w c N X8 bs ls abp alp cbp clp ats st z1 z2 le mo W) : Cur1 w.heap.size W c bs ls ats st := by
  obtain ⟨rv, h1, h2⟩ := h.cu; exact ⟨N, rv, h1, h2⟩
theorem GoW.sb (h : GoW w c N X8 bs ls abp alp cbp clp ats st z1 z2 le mo W) (hw : ∀ b ∈ bs, b.wf) : SlB W (.slice abp bs.length cbp) bs := by
  obtain ⟨b, k⟩ := h.pb; exact ⟨SlT.of_owns k, hw⟩
theorem GoW.sl (h : GoW w c N X8 bs ls abp alp cbp clp ats st z1 z2 le mo W) (hw : ∀ x ∈ ls, (Lit.int .u64 x).wf = true) : SlI .u64 W (.slice alp ls.length clp) ls := by
  obtain ⟨b, k⟩ := h.pl; exact SlI.of_owns k hw
end

/-- Stores into a box. -/
def setsOf (W : World) (X : Nat) : List (Nat × Value) → World
  | [] => W
  | p :: l => setsOf (W.setCell ⟨X, p.1, none⟩ p.2) X l
theorem CurN.sets {B N X : Nat} {c : Nat} {bs : List Br} {ls : List Int} {ats : List Nat} {st : Int} {T : TypeId} (hN : N ≤ X) (hT : T ≠ 112) : ∀ (l : List (Nat × Value)) (w : World) (cs : Array Value), CurN B N w c bs ls ats st → w.heap[X]? = some (.cells cs T (0, 0)) → CurN B N (setsOf w X l) c bs ls ats st
  | [], w, cs, h, hX => h
  | p :: l, w, cs, h, hX => CurN.sets hN hT l _ _ (h.set hX hN hT p.2) (box_set hX p.2)
theorem own_sets {base X : Nat} {e T : TypeId} {size : Nat} {v : Value} {n : Nat} {xs : List Value} (hne : e ≠ T) : ∀ (l : List (Nat × Value)) (w : World) (cs : Array Value), w.ownsRow base e size v n xs → w.heap[X]? = some (.cells cs T (0, 0)) → (setsOf w X l).ownsRow base e size v n xs
  | [], w, cs, h, hX => h
  | p :: l, w, cs, h, hX => own_sets hne l _ _ (own_set h hX hne p.2) (box_set hX p.2)
/-- Between a move and its place. -/
structure GoB (w : World) (c N X8 X13 : Nat) (bs : List Br) (ls : List Int) (abp alp : Option Addr) (cbp clp : Nat) (ats : List Nat) (z1 z2 le mo : Int) (ats' : List Nat) (y1 y2 le' mo' : Int) (atsC : List Nat) (stC : Int) (W : World) : Prop where
  cu : CurN w.heap.size N W c bs ls atsC stC
  bel : Below w.heap.size w W
  x8 : W.heap[X8]? = some (.cells (pl8 abp alp bs.length cbp ls.length clp ats z1 z2 le mo) 36 (0, 0))
  x13 : W.heap[X13]? = some (.cells (pl8 abp alp bs.length cbp ls.length clp ats' y1 y2 le' mo') 36 (0, 0))
  n8 : N ≤ X8 ∧ w.heap.size ≤ X8
  pb : ∃ base, W.ownsRow base 40 3 (.slice abp bs.length cbp) bs.length (bs.flatMap Br.cells)
  pl : ∃ base, W.ownsRow base 38 1 (.slice alp ls.length clp) ls.length (ls.map (.int .u64))
  at_ : PAt ats' y1 y2
section
variable {w : World} {c N X8 X13 : Nat} {bs : List Br} {ls : List Int} {abp alp : Option Addr} {cbp clp : Nat} {ats ats' atsC : List Nat} {st stC z1 z2 le mo y1 y2 le' mo' : Int} {W W' : World}
theorem GoW.between (h : GoW w c N X8 bs ls abp alp cbp clp ats st z1 z2 le mo W) (hp : PAt ats' y1 y2) : GoB w c N X8 W.heap.size bs ls abp alp cbp clp ats z1 z2 le mo ats' y1 y2 le' mo' ats st (W.alloc (.cells (pl8 abp alp bs.length cbp ls.length clp ats' y1 y2 le' mo') 36)) := by
  have h' := h.later (later_alloc W (.cells (pl8 abp alp bs.length cbp ls.length clp ats' y1 y2 le' mo') 36))
  exact ⟨h'.cu, h'.bel, h'.x8, box_new _ _ _, h'.n8, h'.pb, h'.pl, hp⟩
theorem GoB.move {atsD : List Nat} {stD : Int} (h : GoB w c N X8 X13 bs ls abp alp cbp clp ats z1 z2 le mo ats' y1 y2 le' mo' atsC stC W) (hc : CurN w.heap.size N W' c bs ls atsD stD) (hb : Below w.heap.size W W') (hk : Keeps W W') : GoB w c N X8 X13 bs ls abp alp cbp clp ats z1 z2 le mo ats' y1 y2 le' mo' atsD stD W' := by
  obtain ⟨b4, h4⟩ := h.pb
  obtain ⟨b5, h5⟩ := h.pl
  exact ⟨hc, h.bel.trans hb, hk _ _ _ _ h.x8 (by decide) (by decide), hk _ _ _ _ h.x13 (by decide) (by decide), h.n8, ⟨b4, owns_keeps h4 hk (by decide) (by decide)⟩, ⟨b5, owns_keeps h5 hk (by decide) (by decide)⟩, h.at_⟩
theorem GoB.done (h : GoB w c N X8 X13 bs ls abp alp cbp clp ats z1 z2 le mo ats' y1 y2 le' mo' ats' stC W) (h1 : le' ≤ stC) (h2 : stC ≤ mo') : GoW w c N X8 bs ls abp alp cbp clp ats' stC y1 y2 le' mo'
    ((((((((W.setCell ⟨X8, 0, none⟩ (.slice abp bs.length cbp)).setCell ⟨X8, 1, none⟩ (.slice alp ls.length clp)).setCell ⟨X8, 2, none⟩ (.int .i64 (ats'.length : Int))).setCell ⟨X8, 3, none⟩ (.int .i64 0)).setCell ⟨X8, 4, none⟩ (.int .i64 y1)).setCell ⟨X8, 5, none⟩ (.int .i64 y2)).setCell ⟨X8, 6, none⟩ (.int .i64 le')).setCell ⟨X8, 7, none⟩ (.int .i64 mo')) := by
  obtain ⟨b4, h4⟩ := h.pb
  obtain ⟨b5, h5⟩ := h.pl
  have e : ((((((((W.setCell ⟨X8, 0, none⟩ (.slice abp bs.length cbp)).setCell ⟨X8, 1, none⟩ (.slice alp ls.length clp)).setCell ⟨X8, 2, none⟩ (.int .i64 (ats'.length : Int))).setCell ⟨X8, 3, none⟩ (.int .i64 0)).setCell ⟨X8, 4, none⟩ (.int .i64 y1)).setCell ⟨X8, 5, none⟩ (.int .i64 y2)).setCell ⟨X8, 6, none⟩ (.int .i64 le')).setCell ⟨X8, 7, none⟩ (.int .i64 mo')) = setsOf W X8 [(0, .slice abp bs.length cbp), (1, .slice alp ls.length clp), (2, .int .i64 (ats'.length : Int)), (3, .int .i64 0), (4, .int .i64 y1), (5, .int .i64 y2), (6, .int .i64 le'), (7, .int .i64 mo')] := rfl
  refine ⟨?_, below_set8 h.bel h.n8.2 _ _ _ _ _ _ _ _, box_set8 h.x8 _ _ _ _ _ _ _ _, h.n8, ⟨b4, ?_⟩, ⟨b5, ?_⟩, h.at_, h1, h2⟩
  · rw [e]; exact CurN.sets h.n8.1 (by decide) _ _ _ h.cu h.x8
  · rw [e]; exact own_sets (by decide) _ _ _ h4 h.x8
  · rw [e]; exact own_sets (by decide) _ _ _ h5 h.x8
end

set_option maxRecDepth 100000 in
set_option maxHeartbeats 8000000 in
open Classical in
theorem lawGoes_walk (vb vl vm : Value) (B0 : List Br) (L0 : List Int) (ms : List Mv) (w : World) (hB : SlB w vb B0) (hL : SlI .u64 w vl L0) (hM : SlM w vm ms) :
    Calls Try.prog 3 #[.agg #[vb, vl], vm] w fun e w' => e = .returned (.bool true) ∧ Below w.heap.size w w' := by
  have HB0 := Lib.hid hB.2
  have HL0 := Lib.hid hL.2
  have HOwn := Lib.hid (fun V (hV : Below w.heap.size w V) => own8_any _ _ B0 L0 V (hB.later hV) (hL.later hV))
  obtain ⟨a, c, rfl, -, -, -, -⟩ := hB.open
  obtain ⟨a', c', rfl, -, -, -, -⟩ := hL.open
  obtain ⟨am, cm, rfl, m1, m2, m3, m4⟩ := hM.open
  have hmm : ms.length ≤ 9223372036854775807 := by omega
  have HM := Lib.hid m4
  clear hB hL hM m1 m2 m3 m4
  go_enter Try.func3, Try.ntmps3
  go_wp2_with fail
  refine (wakes8_any _).mono ?_
  rintro e w1 ⟨rfl, hb1⟩
  have hbw1 := later_trans (later_alloc w _) hb1
  have hx := (hb1.block w.heap.size (by simp)).trans (box_new w _ _)
  have x0 := box_cell (i := 0) hx
  have x1 := box_cell (i := 1) hx
  simp only [List.getElem?_toArray, List.getElem?_cons_zero, List.getElem?_cons_succ] at x0 x1
  have HXX := Lib.hid hx
  clear hx hb1
  go_wp2_with fail
  refine (HOwn.out _ hbw1).mono ?_
  rintro e w2 ⟨vb2, vl2, rfl, ob, ol, hb2⟩
  obtain ⟨bs, hbs⟩ : ∃ bs, B0.take (min B0.length 40) = bs := ⟨_, rfl⟩
  obtain ⟨ls, hls⟩ : ∃ ls, L0.take (min L0.length 80) = ls := ⟨_, rfl⟩
  rw [hbs] at ob HOwn
  rw [hls] at ol HOwn
  have hfew : bs.length ≤ 40 := by rw [← hbs]; simp; omega
  have hfewL : ls.length ≤ 80 := by rw [← hls]; simp; omega
  have hwB : ∀ b ∈ bs, b.wf := fun b hb => HB0.out b (List.mem_of_mem_take (hbs ▸ hb))
  have hwL : ∀ x ∈ ls, (Lit.int .u64 x).wf = true := fun x hx => HL0.out x (List.mem_of_mem_take (hls ▸ hx))
  have HWB := Lib.hid hwB
  have HWL := Lib.hid hwL
  have hbw2 := later_trans hbw1 hb2
  obtain ⟨ab, cb, rfl⟩ := owns_shape2 ob
  obtain ⟨al, cl, rfl⟩ := owns_shape2 ol
  have HX2 := Lib.hid (box_alloc ((hb2.block _ (lt_of_block HXX.out)).trans HXX.out) (.cells #[.slice ab bs.length cb, .slice al ls.length cl] 25))
  have HW3 := Lib.hid (later_trans hbw2 (later_alloc w2 (.cells #[.slice ab bs.length cb, .slice al ls.length cl] 25)))
  have HX3 := Lib.hid (box_new w2 #[.slice ab bs.length cb, .slice al ls.length cl] 25)
  have HOB := Lib.hid (And.intro (owns_down ob hbw1.size) ob.lt)
  have HOL := Lib.hid (And.intro (owns_down ol hbw1.size) ol.lt)
  have sB := Lib.hid (show SlB (w2.alloc (.cells #[.slice ab bs.length cb, .slice al ls.length cl] 25)) (.slice ab bs.length cb) bs from ⟨SlT.of_owns (ob.alloc _), hwB⟩)
  have sL := Lib.hid (show SlI .u64 (w2.alloc (.cells #[.slice ab bs.length cb, .slice al ls.length cl] 25)) (.slice al ls.length cl) ls from SlI.of_owns (ol.alloc _) hwL)
  clear ob ol hbs hls hb2 hbw1 x0 x1 hwB hwL HXX hbw2
  by_cases hok : TrieOk bs ls
  · have HT := Lib.hid (TrieS.mk hok (by omega))
    clear hok
    go_wp2_with fail
    refine (New_ok _ _ bs ls _ sB.out sL.out HT.out).mono ?_
    rintro e w3 ⟨cc, rfl, hb3, hcc, hCu⟩
    have HC3 := Lib.hid (And.intro hb3 (And.intro hcc hCu))
    have hx := (hb3.block w2.heap.size (by simp)).trans HX3.out
    have y0 := box_cell (i := 0) hx
    have y1 := box_cell (i := 1) hx
    simp only [List.getElem?_toArray, List.getElem?_cons_zero, List.getElem?_cons_succ] at y0 y1
    clear hb3 hcc hCu hx
    go_wp2_with fail
    refine (right7_any _ _ bs ls w3 (sB.out.later HC3.out.1) (sL.out.later HC3.out.1)).mono ?_
    rintro e w4 ⟨rfl, hb4⟩
    rw [decide_eq_true HT.out.ok]
    have hb34 := later_trans HC3.out.1 hb4
    have hx := (hb34.block _ (lt_of_block HX2.out)).trans HX2.out
    have x0 := box_cell (i := 0) hx
    have x1 := box_cell (i := 1) hx
    simp only [List.getElem?_toArray, List.getElem?_cons_zero, List.getElem?_cons_succ] at x0 x1
    have HB4 := Lib.hid (And.intro hb4 hb34)
    clear hx hb34 hb4 y0 y1
    go_wp2_with fail
    refine (HOwn.out _ (later_trans HW3.out HB4.out.2)).mono ?_
    rintro e w5 ⟨vb5, vl5, rfl, ob5, ol5, hb5⟩
    obtain ⟨abp, cbp, rfl⟩ := owns_shape2 ob5
    obtain ⟨alp, clp, rfl⟩ := owns_shape2 ol5
    clear x0 x1
    obtain ⟨D, hD⟩ : ∃ D, (w2.alloc (.cells #[.slice ab bs.length cb, .slice al ls.length cl] 25)).heap.size = D := ⟨_, rfl⟩
    have hD2 : D = w2.heap.size + 1 := by rw [← hD]; simp
    have hb45 := later_trans HB4.out.2 hb5
    have hDs : D ≤ w3.heap.size := by rw [← hD]; exact HC3.out.1.size
    have h3s := HC3.out.1.size
    have h4s := HB4.out.1.size
    have h5s := hb5.size
    have hcc : D ≤ cc := by rw [← hD]; exact HC3.out.2.1
    have hnb : w.heap.size ≤ D := by rw [← hD]; exact HW3.out.size
    have hcu : CuM w3 (fun b => b = cc ∨ b < D) cc w3.heap.size (.slice none 0 0) bs ls [] 0 := HC3.out.2.2 _ (.inl rfl) (fun b k1 k2 k3 k4 => by rcases k4 with k4 | k4 <;> omega)
    have h0 : SpW w cc w3.heap.size D w2.heap.size w5.heap.size bs ls ab al abp alp cb cl cbp clp (w5.alloc (.cells (pl8 abp alp bs.length cbp ls.length clp [] 0 0 0 0) 36)) := by
      refine ⟨((hcu.later HB4.out.1).later hb5).later (later_alloc _ _), hcc, later_trans (later_trans HW3.out hb45) (later_alloc _ _), box_alloc ((hb45.block _ (lt_of_block HX3.out)).trans HX3.out) _, box_new _ _ _, by omega, (owns_down ob5 (by omega)).alloc _, (owns_down ol5 (by omega)).alloc _, ⟨_, (owns_later (HOB.out.1.alloc _) hb45).alloc _, fun i hi => ⟨bs[i].k, ?_⟩⟩, ⟨_, (owns_later (HOL.out.1.alloc _) hb45).alloc _, fun i hi => ⟨ls[i], ?_⟩⟩, fun g hg => ?_, fun g hg => ?_⟩
      · have := flat_at Br.len bs i 0 hi (by omega)
        simpa [Br.cells] using this
      · simp [List.getElem?_eq_getElem hi]
      · have := (HOB.out.2 g.block (by rw [hg]; rfl)).2; omega
      · have := (HOL.out.2 g.block (by rw [hg]; rfl)).2; omega
    have H0 := Lib.hid h0
    have HNB := Lib.hid hnb
    obtain ⟨N, hN⟩ : ∃ N, w3.heap.size = N := ⟨_, rfl⟩
    rw [hN] at H0
    clear h0 hcu hcc hDs h3s h4s h5s hb45 hD hD2 hN hnb ob5 ol5 hb5 HC3 HB4
    go_wp2_with fail
    refine (stands_any (B := w.heap.size) (ats := []) (st := 0) (z1 := 0) (z2 := 0) (le := 0) (mo := 0) ⟨N, (H0.out.cur HNB.out).choose, (H0.out.cur HNB.out).choose_spec⟩ ⟨SlT.of_owns H0.out.pb, HWB.out⟩ (SlI.of_owns H0.out.pl HWL.out) HT.out trivial trivial (by omega) (by omega)).mono ?_
    rintro e w7 ⟨rfl, hb7⟩
    have H1 := Lib.hid (H0.out.later hb7)
    have y5 := box_cell (i := 1) H1.out.x5
    simp only [List.getElem?_toArray, List.getElem?_cons_zero, List.getElem?_cons_succ] at y5
    clear hb7 H0
    go_wp2_with fail
    go_loopw [54] (fun i wr => ∃ k : Nat, k ≤ ls.length ∧ i = .int .i64 k ∧ SpW w cc N D w2.heap.size w5.heap.size bs ls ab al abp alp cb cl cbp clp wr) (fun i _ => ls.length - (intOf i).toNat)
    case atStart => exact ⟨0, Nat.zero_le _, rfl, H1.out⟩
    case round =>
      obtain ⟨k, hk, rfl, hS⟩ := hrel
      have HS := Lib.hid hS
      have y5 := box_cell (i := 1) HS.out.x5
      simp only [List.getElem?_toArray, List.getElem?_cons_zero, List.getElem?_cons_succ] at y5
      clear hS H1
      by_cases hlt : k < ls.length
      · obtain ⟨g, q, hal, c1, c2, hg0, cur, hcur⟩ := rowUp_at HS.out.tl hlt (by omega)
        simp only [Nat.mul_one] at c1 c2
        subst hal
        have HCUR := Lib.hid hcur
        have hkI : (k : Int) < ls.length := by omega
        clear hcur
        go_wp2_with fail
        go_roundw
        case rel =>
          refine ⟨k + 1, by omega, by go_num, ?_⟩
          have h := fun q => HS.out.setL (i := k) hg0 HCUR.out q
          simp only [Nat.mul_one] at h
          exact h _
        case measure => simp [intOf]; omega
      · have H2 := HS
        have y6 := box_cell (i := 0) H2.out.x5
        simp only [List.getElem?_toArray, List.getElem?_cons_zero] at y6
        clear HS
        go_wp2_with fail
        go_loopw [68] (fun i wr => ∃ k : Nat, k ≤ bs.length ∧ i = .int .i64 k ∧ SpW w cc N D w2.heap.size w5.heap.size bs ls ab al abp alp cb cl cbp clp wr) (fun i _ => bs.length - (intOf i).toNat)
        case atStart => exact ⟨0, Nat.zero_le _, rfl, H2.out⟩
        case round =>
          obtain ⟨k, hk, rfl, hS⟩ := hrel
          have HS := Lib.hid hS
          have y6 := box_cell (i := 0) HS.out.x5
          simp only [List.getElem?_toArray, List.getElem?_cons_zero] at y6
          clear hS H2 y5
          by_cases hlt : k < bs.length
          · obtain ⟨g, q, hab, c1, c2, hg0, cur, hcur⟩ := rowUp_at HS.out.tb hlt (by omega)
            subst hab
            have HCUR := Lib.hid hcur
            have hkI : (k : Int) < bs.length := by omega
            clear hcur
            go_wp2_with fail
            go_roundw
            case rel => exact ⟨k + 1, by omega, by go_num, HS.out.setB (i := k) hg0 HCUR.out _⟩
            case measure => simp [intOf]; omega
          · have H3 := Lib.hid (GoW.later (W' := wr) (W := wr) (⟨HS.out.cur HNB.out, HS.out.bel, HS.out.x8, ⟨HS.out.n8, by have := HS.out.n8; have := HS.out.low; have := HS.out.cu.rows; have := HNB.out; omega⟩, ⟨_, HS.out.pb⟩, ⟨_, HS.out.pl⟩, trivial, by omega, by omega⟩ : GoW w cc N w5.heap.size bs ls abp alp cbp clp [] 0 0 0 0 0 wr) (Below.refl _ _))
            clear HS y6
            go_wp2_with fail
            go_loopw [83] (fun i wr => ∃ (k : Nat) (ats : List Nat) (st z1 z2 le mo : Int), k ≤ ms.length ∧ i = .int .i64 k ∧ GoW w cc N w5.heap.size bs ls abp alp cbp clp ats st z1 z2 le mo wr ∧ 0 ≤ le ∧ le ≤ k ∧ 0 ≤ mo ∧ mo ≤ 2000 * k ∧ k ≤ 30) (fun i _ => ms.length - (intOf i).toNat)
            case atStart => exact ⟨0, [], 0, 0, 0, 0, 0, Nat.zero_le _, rfl, H3.out, by omega, by omega, by omega, by omega, by omega⟩
            case round =>
              obtain ⟨k, ats, st, z1, z2, le, mo, hk, rfl, hS, hl0, hl1, hm0, hm1, hk30⟩ := hrel
              have HS := Lib.hid hS
              have HLE := Lib.hid (And.intro hl0 (And.intro hl1 (And.intro hm0 hm1)))
              clear hS H3 hl0 hl1 hm0 hm1 y5
              by_cases hlt : k < ms.length
              · obtain ⟨bb, o, rfl, hbb, hcs⟩ := HM.out (by omega)
                obtain ⟨q0, q1⟩ := hcs k hlt
                have q0 := ((bcell HS.out.bel).1 bb (o + k * 2) hbb).trans q0
                have q1 := ((bcell HS.out.bel).1 bb (o + k * 2 + 1) hbb).trans q1
                obtain ⟨m, hm⟩ : ∃ m, ms[k] = m := ⟨_, rfl⟩
                obtain ⟨kind, mkey⟩ := m
                rw [hm] at q0 q1
                clear hcs hm
                have hX12 := box_new wr #[.int .i64 kind, .int .u64 mkey] 42
                have h1 := Lib.hid (HS.out.later (later_alloc wr (.cells #[.int .i64 kind, .int .u64 mkey] 42)))
                by_cases h30 : k = 30
                · have e30 : ((k : Int) == 30) = true := by rw [h30]; rfl
                  clear hk30 h30 hX12
                  obtain ⟨x0, x1, x2, x3, x4, x5, x6, x7⟩ := box8 h1.out.x8
                  go_wp2_with fail
                  refine (stands_any h1.out.one (h1.out.sb HWB.out) (h1.out.sl HWL.out) HT.out h1.out.ok h1.out.at_ h1.out.few h1.out.many).mono ?_
                  rintro e pS ⟨rfl, hbS⟩
                  have h2 := Lib.hid (h1.out.later hbS)
                  go_wp2_with fail
                  go_ret
                  exact ⟨rfl, h2.out.bel⟩
                · have e30 : ((k : Int) == 30) = false := by rw [beq_eq_false_iff_ne]; omega
                  obtain ⟨x0, x1, x2, x3, x4, x5, x6, x7⟩ := box8 h1.out.x8
                  have HX12 := Lib.hid hX12
                  clear hX12
                  go_wp2_with fail
                  refine (move8_any (key := mkey) (h1.out.sb HWB.out) (h1.out.sl HWL.out) HT.out h1.out.ok h1.out.at_ HLE.out.1 (by have := HLE.out.2.1; omega) HLE.out.2.2.1 (by have := HLE.out.2.2.2; omega)).mono ?_
                  rintro e p1 ⟨⟨ats', y1, y2, le', mo', rfl, hp, hl0, hl1, hm0, hm1, hno, hyes⟩, hb1⟩
                  have h2 := Lib.hid (((h1.out.later hb1).between (le' := le') (mo' := mo') hp))
                  have hx := (((hb1.block _ (lt_of_block HX12.out)).trans HX12.out))
                  have hx := box_alloc hx (.cells (pl8 abp alp bs.length cbp ls.length clp ats' y1 y2 le' mo') 36)
                  have v0 := box_cell (i := 0) hx
                  have v1 := box_cell (i := 1) hx
                  simp only [List.getElem?_toArray, List.getElem?_cons_zero, List.getElem?_cons_succ] at v0 v1
                  have HNO := Lib.hid hno
                  have HYES := Lib.hid hyes
                  have HB := Lib.hid (And.intro hl0 (And.intro hl1 (And.intro hm0 (And.intro hm1 (And.intro h1.out.few h1.out.many)))))
                  clear h1 hp hb1 hno hyes HX12 hx x0 x1 x2 x3 x4 x5 x6 x7 hl0 hl1 hm0 hm1
                  go_wp2_with fail
                  refine (StepsN h2.out.cu).mono ?_
                  rintro e p2 ⟨rfl, rfl⟩
                  go_wp2_with fail
                  refine (MoveN (kind := kind) (key := mkey) h2.out.cu HT.out (by have := HB.out; have := HLE.out; omega) (by have := HB.out; have := HLE.out; omega)).mono ?_
                  rintro e p3 ⟨rfl, ⟨gb, gk⟩, gy, gn⟩
                  by_cases hq : whyM bs ls ats kind = 0
                  · rw [hq]
                    obtain ⟨_, _, n, hn, hc⟩ := gy hq
                    obtain ⟨rfl, hb⟩ := HYES.out hq
                    have hbn := hb n st hn HB.out.2.2.2.2.1 HB.out.2.2.2.2.2
                    have h3 := Lib.hid (h2.out.move hc gb gk)
                    clear h2 gb gk gy gn hc hn hq hb v0 v1 HYES HNO
                    obtain ⟨x0, x1, x2, x3, x4, x5, x6, x7⟩ := box8 h3.out.x8
                    obtain ⟨t0, t1, t2, t3, t4, t5, t6, t7⟩ := box8 h3.out.x13
                    have fX : ∀ i, p3.frozen? ⟨w5.heap.size, i, none⟩ = false := fun i => box_frozen h3.out.x8
                    have h4 := Lib.hid (h3.out.done hbn.1 hbn.2)
                    clear h3
                    go_wp2_with fail
                    refine (stands_any h4.out.one (h4.out.sb HWB.out) (h4.out.sl HWL.out) HT.out h4.out.ok h4.out.at_ h4.out.few h4.out.many).mono ?_
                    rintro e p6 ⟨rfl, hb6⟩
                    have h5 := Lib.hid (h4.out.later hb6)
                    clear h4 hb6 x0 x1 x2 x3 x4 x5 x6 x7 t0 t1 t2 t3 t4 t5 t6 t7 fX
                    go_wp2_with fail
                    refine (PathN h5.out.cu).mono ?_
                    rintro e p7 ⟨v7, rfl, o7, hb7⟩
                    obtain ⟨a7, c7, rfl⟩ := owns_shape2 o7
                    have h6 := Lib.hid (h5.out.later hb7)
                    have HB7 := Lib.hid hb7
                    clear hb7
                    obtain ⟨xs, hxs⟩ : ∃ xs, pathOf bs ls (moved bs ls kind mkey ats) = xs := ⟨_, rfl⟩
                    rw [hxs] at o7 ⊢
                    clear hxs
                    cases xs with
                    | nil =>
                      clear o7
                      go_wp2_with fail
                      go_roundw
                      case rel => exact ⟨k + 1, _, _, y1, y2, le', mo', by omega, by go_num, h6.out, HB.out.1, by have := HB.out; have := HLE.out; omega, HB.out.2.2.1, by have := HB.out; have := HLE.out; omega, by omega⟩
                      case measure => simp [intOf]; omega
                    | cons x xs =>
                      obtain ⟨g, cap, hv⟩ := Go.Joins.ownsRow_form o7 (by simp)
                      cases hv
                      obtain ⟨c1, c2⟩ := owns_cell (u := .int .u64 x) o7 (j := 0) rfl
                      have hg0 : p6.heap.size ≤ g := (o7.lt g rfl).1
                      have hn0 : (0 : Int) < ((x :: xs).length : Nat) := by simp
                      obtain ⟨n7, hn7⟩ : ∃ n7, (x :: xs).length = n7 := ⟨_, rfl⟩
                      rw [hn7] at hn0 ⊢
                      clear o7 hn7
                      go_wp2_with fail
                      go_roundw
                      case rel => exact ⟨k + 1, _, _, y1, y2, le', mo', by omega, by go_num, h5.out.later (HB7.out.setCell (p := ⟨g, 0, none⟩) hg0 _), HB.out.1, by have := HB.out; have := HLE.out; omega, HB.out.2.2.1, by have := HB.out; have := HLE.out; omega, by omega⟩
                      case measure => simp [intOf]; omega
                  · obtain ⟨q, hqq⟩ : ∃ q, whyM bs ls ats kind = q := ⟨_, rfl⟩
                    have hc := gn hq
                    obtain ⟨rfl, rfl, rfl⟩ := HNO.out hq
                    have h3 := Lib.hid (h2.out.move hc gb gk)
                    rw [hqq] at hq ⊢
                    have hq0 : (q != 0) = true := by simpa using hq
                    clear h2 gb gk gy gn hc v0 v1 HYES HNO hqq hq
                    go_wp2_with fail
                    refine (StepsN h3.out.cu).mono ?_
                    rintro e p5 ⟨rfl, rfl⟩
                    obtain ⟨x0, x1, x2, x3, x4, x5, x6, x7⟩ := box8 h3.out.x8
                    obtain ⟨t0, t1, t2, t3, t4, t5, t6, t7⟩ := box8 h3.out.x13
                    have fX : ∀ i, p3.frozen? ⟨w5.heap.size, i, none⟩ = false := fun i => box_frozen h3.out.x8
                    have h4 := Lib.hid (h3.out.done HB.out.2.2.2.2.1 HB.out.2.2.2.2.2)
                    clear h3
                    go_wp2_with fail
                    refine (stands_any h4.out.one (h4.out.sb HWB.out) (h4.out.sl HWL.out) HT.out h4.out.ok h4.out.at_ h4.out.few h4.out.many).mono ?_
                    rintro e p6 ⟨rfl, hb6⟩
                    have h5 := Lib.hid (h4.out.later hb6)
                    clear h4 hb6 x0 x1 x2 x3 x4 x5 x6 x7 t0 t1 t2 t3 t4 t5 t6 t7 fX
                    go_wp2_with fail
                    refine (PathN h5.out.cu).mono ?_
                    rintro e p7 ⟨v7, rfl, o7, hb7⟩
                    obtain ⟨a7, c7, rfl⟩ := owns_shape2 o7
                    have h6 := Lib.hid (h5.out.later hb7)
                    have HB7 := Lib.hid hb7
                    clear hb7
                    obtain ⟨xs, hxs⟩ : ∃ xs, pathOf bs ls ats' = xs := ⟨_, rfl⟩
                    rw [hxs] at o7 ⊢
                    clear hxs
                    cases xs with
                    | nil =>
                      clear o7
                      go_wp2_with fail
                      go_roundw
                      case rel => exact ⟨k + 1, _, _, y1, y2, le', mo', by omega, by go_num, h6.out, HB.out.1, by have := HB.out; have := HLE.out; omega, HB.out.2.2.1, by have := HB.out; have := HLE.out; omega, by omega⟩
                      case measure => simp [intOf]; omega
                    | cons x xs =>
                      obtain ⟨g, cap, hv⟩ := Go.Joins.ownsRow_form o7 (by simp)
                      cases hv
                      obtain ⟨c1, c2⟩ := owns_cell (u := .int .u64 x) o7 (j := 0) rfl
                      have hg0 : p6.heap.size ≤ g := (o7.lt g rfl).1
                      have hn0 : (0 : Int) < ((x :: xs).length : Nat) := by simp
                      obtain ⟨n7, hn7⟩ : ∃ n7, (x :: xs).length = n7 := ⟨_, rfl⟩
                      rw [hn7] at hn0 ⊢
                      clear o7 hn7
                      go_wp2_with fail
                      go_roundw
                      case rel => exact ⟨k + 1, _, _, y1, y2, le', mo', by omega, by go_num, h5.out.later (HB7.out.setCell (p := ⟨g, 0, none⟩) hg0 _), HB.out.1, by have := HB.out; have := HLE.out; omega, HB.out.2.2.1, by have := HB.out; have := HLE.out; omega, by omega⟩
                      case measure => simp [intOf]; omega
              · obtain ⟨x0, x1, x2, x3, x4, x5, x6, x7⟩ := box8 HS.out.x8
                clear hk30
                go_wp2_with fail
                refine (stands_any HS.out.one (HS.out.sb HWB.out) (HS.out.sl HWL.out) HT.out HS.out.ok HS.out.at_ HS.out.few HS.out.many).mono ?_
                rintro e pS ⟨rfl, hbS⟩
                have h2 := Lib.hid (HS.out.later hbS)
                go_wp2_with fail
                go_ret
                exact ⟨rfl, h2.out.bel⟩
  · have HK := Lib.hid hok
    clear hok
    go_wp2_with fail
    refine (New_no _ _ bs ls _ sB.out sL.out HK.out).mono ?_
    rintro e w3 ⟨rfl, hb3⟩
    have hx := (hb3.block w2.heap.size (by simp)).trans HX3.out
    have y0 := box_cell (i := 0) hx
    have y1 := box_cell (i := 1) hx
    simp only [List.getElem?_toArray, List.getElem?_cons_zero, List.getElem?_cons_succ] at y0 y1
    clear hx
    go_wp2_with fail
    refine (right7_any _ _ bs ls w3 (sB.out.later hb3) (sL.out.later hb3)).mono ?_
    rintro e w4 ⟨rfl, hb4⟩
    rw [decide_eq_false HK.out]
    go_wp2_with fail
    go_ret
    exact ⟨rfl, later_trans HW3.out (later_trans hb3 hb4)⟩
end Go.Proofs.Ytdfnfdgkhflonaa
