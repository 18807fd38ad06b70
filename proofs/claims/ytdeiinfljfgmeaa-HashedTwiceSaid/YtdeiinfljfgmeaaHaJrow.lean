/-
  The rows that Join gathers: old ones, or of the call's own; append onto a row that is shut.
-/
import Derived.Deep.AppendSrc
import Derived.Deep.AppendLies
import Derived.Test.YtdeiinfljfgmeaaRound
import Derived.Test.YtdeiinfljfgmeaaHaSeq
namespace Go.Proofs.Ytdeiinfljfgmeaa
open Go.RowKit
set_option linter.unusedVariables false
set_option linter.unusedSimpArgs false

/-- A row: old, or the call's own. -/
def JRow (w0 : World) (base : Nat) (W : World) (u : Value) (r : List Int) : Prop := SlI .u64 w0 u r ∨ (W.ownsRow base 38 1 u r.length (r.map (.int .u64)) ∧ ∀ x ∈ r, (Lit.int .u64 x).wf = true)
theorem JRow.later {w0 W W' : World} {base : Nat} {u : Value} {r : List Int} (h : JRow w0 base W u r) (hb : Below W.heap.size W W') : JRow w0 base W' u r := h.imp id fun q => ⟨owns_later q.1 hb, q.2⟩
theorem JRow.down {w0 W : World} {base base' : Nat} {u : Value} {r : List Int} (h : JRow w0 base W u r) (hb : base' ≤ base) : JRow w0 base' W u r := h.imp id fun q => ⟨owns_down q.1 hb, q.2⟩
theorem JRow.slI {w0 W : World} {base : Nat} {u : Value} {r : List Int} (h : JRow w0 base W u r) (hb : Below w0.heap.size w0 W) : SlI .u64 W u r := by
  rcases h with h | h
  · exact SlI.later h hb
  · exact SlI.of_owns h.1 h.2
structure JRows (w0 : World) (base : Nat) (W : World) (v : Value) (ps : List (Value × List Int)) : Prop where
  own : W.ownsRow base 26 1 v ps.length (ps.map Prod.fst)
  rows : ∀ p ∈ ps, JRow w0 base W p.1 p.2
theorem JRows.later {w0 W W' : World} {base : Nat} {v : Value} {ps : List (Value × List Int)} (h : JRows w0 base W v ps) (hb : Below W.heap.size W W') : JRows w0 base W' v ps := ⟨owns_later h.own hb, fun p hp => (h.rows p hp).later hb⟩
theorem JRows.slR {w0 W : World} {base : Nat} {v : Value} {ps : List (Value × List Int)} (h : JRows w0 base W v ps) (hb : Below w0.heap.size w0 W) : SlRK .u64 W v (ps.map Prod.snd) := by
  refine ⟨fun r => (ps.map Prod.fst).getD r undef, ?_, fun r hr => ?_⟩
  · have e : (List.range (ps.map Prod.snd).length).map (fun r => (ps.map Prod.fst).getD r undef) = ps.map Prod.fst := by
      refine List.ext_getElem (by simp) fun i h1 h2 => ?_
      have hi : i < ps.length := by simpa using h2
      simp [List.getD, hi]
    rw [e]
    exact SlC.of_owns h.own
  · have hi : r < ps.length := by simpa using hr
    have := (h.rows ps[r] (List.getElem_mem hi)).slI hb
    have e1 : (ps.map Prod.fst).getD r undef = ps[r].1 := by simp [List.getD, hi]
    have e2 : rowN (ps.map Prod.snd) r = ps[r].2 := by rw [rowN_at hr, List.getElem_map]
    rw [e2]
    show SlI _ _ ((ps.map Prod.fst).getD r undef) _
    rw [e1]
    exact this
set_option maxRecDepth 100000 in
/-- append onto a row whose room is used up. -/
theorem run_append_shut {w0 w : World} {ax : Option Addr} {cx base : Nat} {x y : List Int} {vc : Value} (ty : TypeId) (hx : SlI .u64 w0 (.slice ax x.length cx) x) (hb : Below w0.heap.size w0 w) (hy : w.ownsRow base 38 1 vc y.length (y.map (.int .u64)))
    (hwf : ∀ z ∈ y, (Lit.int .u64 z).wf = true) (hl : x.length + y.length ≤ 1048576) :
    ∃ a c w', (Builtin.append_ #[26, 26] ty #[.slice ax x.length x.length, vc]).run Try.prog w = .ok (.slice a (x.length + y.length) c) w' ∧ JRow w0 w.heap.size w' (.slice a (x.length + y.length) c) (x ++ y) ∧ Below w.heap.size w w' := by
  obtain ⟨i0, hi, hz0, hz1, hz2⟩ := info_parts info_u64
  have hxw := hx.2
  by_cases h0 : y.length = 0
  · have hy0 : y = [] := List.length_eq_zero_iff.1 h0
    subst hy0
    refine ⟨ax, x.length, w, ?_, .inl ?_, Below.refl _ _⟩
    · rcases hy.2 with ⟨rfl, -⟩ | ⟨g, cap, cur, rfl, -⟩
      · cases ax <;> simp [Builtin.append_, run_underlying Try.underlying26, sizeOf, typeInfo, hi, Builtin.lenOf, Builtin.firstCells, storeCells]
      · cases ax <;> simp [Builtin.append_, run_underlying Try.underlying26, sizeOf, typeInfo, hi, Builtin.lenOf, Builtin.firstCells, storeCells, loadCells, loadCellsFrom, hz1]
    · obtain ⟨⟨a', c', e, k1, k2, k3, k4⟩, k5⟩ := hx
      injection e with e1 e2 e3
      subst e1 e3
      rw [List.append_nil]
      have hn : ax = none → x.length = 0 := fun q => by
        have := k3 q
        have h2 : x.length ≤ cx := by simpa using k1
        omega
      exact ⟨⟨ax, x.length, by simp, by simp, by unfold maxLen; omega, hn, k4⟩, k5⟩
  · obtain ⟨g, cap, rfl, -, -⟩ := hy.form (by omega)
    have hsrc := Src.ofSlice (P := Try.prog) (size := i0.size) w Try.underlying26 ⟨g, 0, none⟩ y.length cap (y.map (.int .u64)) (by simp [hz1]) (hy.cells rfl) (by
      intro u hu
      obtain ⟨z, -, rfl⟩ := List.mem_map.1 hu
      rfl)
    have hxl := SlI.later hx (later_trans hb (later_drew w))
    have hold : (Builtin.firstCells i0.size x.length (.slice ax x.length x.length)).run Try.prog w.drew = .ok (x.map (Value.int .u64)).toArray w.drew := by
      cases ax with
      | none =>
        have hx0 : x = [] := by
          obtain ⟨a', c', e, k1, k2, k3, k4⟩ := hx.open
          injection e with e1 e2 e3
          have : c' = 0 := k3 e1.symm
          exact List.length_eq_zero_iff.1 (by omega)
        subst hx0
        exact run_firstCells_none _ _ _ _ _
      | some ad => exact run_firstCells_some w.drew i0.size x.length ad x.length x.length _ (by simp [hz1]) hxl.1.cells
    have hr := run_append_grow_src (P := Try.prog) w 26 26 ty 38 i0 _ Try.underlying26 hi hz0 ax x.length x.length _ hold _ _ _ hsrc (by omega) (by omega) (growslice_fits (by omega) (by rw [hz2]; omega))
    have hge := grownCap_ge w (x.length + y.length) x.length 38
    have hcm : grownCap w (x.length + y.length) x.length 38 ≤ maxLen := grownCap_le_maxLen w (x.length + y.length) x.length 38 (by unfold maxLen; omega)
    refine ⟨_, _, _, hr, .inr ⟨⟨by simp, .inr ⟨w.heap.size, _, _, by rw [List.length_append], Nat.le_refl _, heap_alloc_new w.drew _, by rw [List.length_append]; exact hge, hcm, ?_, ?_⟩⟩, fun z hz => ?_⟩, later_trans (later_drew w) (later_alloc _ _)⟩
    · simp only [Array.size_append, List.size_toArray, List.length_append, List.length_map, size_zeroCells]
      have : (Value.int IntKind.u64 0).cells.size = 1 := rfl
      rw [this]
      omega
    · simp only [Array.toList_append, List.map_append]
      exact List.take_left' (by simp)
    · rcases List.mem_append.1 hz with h | h
      · exact hxw z h
      · exact hwf z h
theorem step_append_shut {ops : Array Oper} {o : Oper} {a : Act} {K : Act → World → Prop} {Q : Exit → Act → World → Prop} {E : Prop} (hgd : o.guard = none) (s z : Operand)
    (ho : o.op = .call { callee := .builtin .append, args := #[s, z], argTypes := #[26, 26] }) {w0 w : World} {ax : Option Addr} {cx base : Nat} {x y : List Int} {vc : Value} (hs : a.eval s = .slice ax x.length x.length) (hz : a.eval z = vc) (hx : SlI .u64 w0 (.slice ax x.length cx) x) (hb : Below w0.heap.size w0 w) (hy : w.ownsRow base 38 1 vc y.length (y.map (.int .u64)))
    (hwf : ∀ z ∈ y, (Lit.int .u64 z).wf = true) (hl : x.length + y.length ≤ 1048576)
    (h : ∀ a' c' w', JRow w0 w.heap.size w' (.slice a' (x.length + y.length) c') (x ++ y) → Below w.heap.size w w' → K (a.put o.dst (.slice a' (x.length + y.length) c')) w') :
    if Region.wanted o (yielded ops a.tmps) = true then Oper.wp Try.prog o a w K Q else E := by
  have hw : Region.wanted o (yielded ops a.tmps) = true := by simp [Region.wanted, hgd]
  rw [if_pos hw]
  obtain ⟨a', c', w', hr, h1, h2⟩ := run_append_shut o.type hx hb hy hwf hl
  unfold Oper.wp execOp
  simp only [ho, resolve, invoke, builtin, Sem.run_bind, Sem.run_pure, Result.andThen_ok, List.map_toArray, List.map_cons, List.map_nil, hs, hz, hr]
  exact h a' c' w' h1 h2
/-- One row more. -/
theorem JRows.next {w0 V wC w6 : World} {T n0 base g6 cap6 cv : Nat} {av : Option Addr} {ps : List (Value × List Int)} {u : Value} {r : List Int} (h : JRows w0 base V (.slice av ps.length cv) ps) (hT : V.heap[T]? = some (.cells #[.slice av ps.length cv] 23 (0, 0)))
    (bC : Below V.heap.size V wC) (hTb : T < base) (hbase : base ≤ V.heap.size) (hn : n0 ≤ T) (hr : JRow w0 base wC u r)
    (hown6 : w6.ownsRow base 26 1 (.slice (some ⟨g6, 0, none⟩) (ps.length + 1) cap6) (ps.length + 1) (ps.map Prod.fst ++ [u]))
    (hgrow6 : (wC.alloc (.cells #[u] 26)).grownBy w6 (Value.slice av ps.length cv).ownBlock) (hat6 : (Value.slice av ps.length cv).ownBlock = some g6 ∨ g6 = (wC.alloc (.cells #[u] 26)).heap.size) :
    (w6.setCell ⟨T, 0, none⟩ (.slice (some ⟨g6, 0, none⟩) (ps.length + 1) cap6)).heap[T]? = some (.cells #[.slice (some ⟨g6, 0, none⟩) (ps.length + 1) cap6] 23 (0, 0)) ∧
      JRows w0 base (w6.setCell ⟨T, 0, none⟩ (.slice (some ⟨g6, 0, none⟩) (ps.length + 1) cap6)) (.slice (some ⟨g6, 0, none⟩) (ps.length + 1) cap6) (ps ++ [(u, r)]) ∧
      KeepT T n0 V (w6.setCell ⟨T, 0, none⟩ (.slice (some ⟨g6, 0, none⟩) (ps.length + 1) cap6)) ∧ KeepsOthers V (w6.setCell ⟨T, 0, none⟩ (.slice (some ⟨g6, 0, none⟩) (ps.length + 1) cap6)) := by
  have hA := later_trans bC (later_alloc wC (.cells #[u] 26))
  have hownA := owns_later h.own hA
  have hT6 := box_grown hownA hgrow6 (kept hA hT) (by decide)
  have hTV := lt_of_block hT
  have hszA := hA.size
  have hX : (w6.setCell ⟨T, 0, none⟩ (.slice (some ⟨g6, 0, none⟩) (ps.length + 1) cap6)).heap[T]? = some (.cells #[.slice (some ⟨g6, 0, none⟩) (ps.length + 1) cap6] 23 (0, 0)) := by simpa using box_set (i := 0) hT6 (.slice (some ⟨g6, 0, none⟩) (ps.length + 1) cap6)
  have own1 : ∀ {u' : Value} {r' : List Int}, JRow w0 base (wC.alloc (.cells #[u] 26)) u' r' → JRow w0 base (w6.setCell ⟨T, 0, none⟩ (.slice (some ⟨g6, 0, none⟩) (ps.length + 1) cap6)) u' r' := fun hq => hq.imp id fun q => ⟨own_set (own_grown hownA hgrow6 q.1 (by decide)) hT6 (by decide) _, q.2⟩
  refine ⟨hX, ⟨by simpa using own_set (i := 0) hown6 hT6 (by decide) (.slice (some ⟨g6, 0, none⟩) (ps.length + 1) cap6), fun p hp => ?_⟩, ⟨?_, fun b o hb hi hne ho => ?_, ?_⟩, ?_⟩
  · rcases List.mem_append.1 hp with hp | hp
    · exact own1 ((h.rows p hp).later hA)
    · obtain rfl := List.mem_singleton.1 hp
      exact own1 (hr.later (later_alloc _ _))
  · exact below_set ((hA.mono (by omega)).grown hgrow6 (by omega) (fun k e => Nat.le_trans (by omega) (owns_above hownA k e))) hn
  · have hbl := lt_of_block hb
    refine (heap_setCell_other w6 ⟨T, 0, none⟩ b _ hne).trans ?_
    refine (hgrow6.block b (by omega) (fun e => ho ?_)).trans ((hA.block b hbl).trans hb)
    rw [ownT_box hT]
    exact e.symm
  · rw [ownT_box hX, ownT_box hT]
    rcases hat6 with q | q
    · exact .inl q.symm
    · exact .inr ⟨g6, rfl, by rw [q]; exact hszA⟩
  · have k1 : KeepsOthers V (wC.alloc (.cells #[u] 26)) := ⟨hszA, fun k o hk _ => (hA.block k (lt_of_block hk)).trans hk⟩
    exact (k1.trans (KeepsOthers.of_grownBy hgrow6 (own_isCells hownA))).trans (KeepsOthers.setCell _ ⟨T, 0, none⟩ _)
end Go.Proofs.Ytdeiinfljfgmeaa
