/-
  hyper.Of, walked. (Printed by mkhzof.py: its loop leaves marks among the deferred calls.)
-/
import Derived.Test.YtplidcbfbonjlaaDoorHzParts
namespace Go.Proofs.YtplidcbfbonjlaaDoor
open Go.RowKit Go.Shelf Go.BigFrame Go.Maps Go.Lib
set_option linter.unusedVariables false
set_option linter.unusedSimpArgs false
attribute [local go_sem] Oper.semAt_some

/-- May a hypergraph be made of these? -/
def ofB (m : Int) (ls : List (List Int)) : Bool := sizesB m ls.length && allR ls fun _ e => vertsB m e
/-- The edges, each put in order. -/
def edgesL (ls : List (List Int)) : List (List Int) := ls.map fun e => eachL (setL e)
theorem vert_yes {m : Int} {e : List Int} (h : vertsB m e = true) : ∀ x ∈ e, 0 ≤ x ∧ x < m := fun x hx => by
  unfold vertsB allI at h
  obtain ⟨i, hi, rfl⟩ := List.getElem_of_mem hx
  have := List.all_eq_true.1 h i (List.mem_range.2 hi)
  rw [getD_at hi] at this
  simpa using this
theorem ofB_yes {m : Int} {ls : List (List Int)} (h : ofB m ls = true) : 0 ≤ m ∧ m ≤ 32 ∧ ls.length ≤ 40 ∧ ∀ e ∈ ls, ∀ x ∈ e, 0 ≤ x ∧ x < m := by
  unfold ofB sizesB allR at h
  simp only [Bool.and_eq_true, decide_eq_true_eq] at h
  obtain ⟨⟨⟨h1, h2⟩, h3⟩, h4⟩ := h
  refine ⟨h1, h2, by omega, fun e he => ?_⟩
  obtain ⟨i, hi, rfl⟩ := List.getElem_of_mem he
  have := List.all_eq_true.1 h4 i (List.mem_range.2 hi)
  rw [rowN_at hi] at this
  exact vert_yes this
theorem ofF_any {x : Nat} {m : Int} {i ev : Value} {xs : List Int} {W : World} (h : W.heap[x]? = some (.cells #[.int .i64 m] 3 (0, 0))) (hs : SlI .i64 W ev xs) :
    Calls Tryd.prog 44 #[i, ev, .pointer (some ⟨x, 0, none⟩)] W fun e w' => e = .returned (.bool (vertsB m xs)) ∧ Below W.heap.size W w' := by
  have c0 : W.cell? ⟨x, 0, none⟩ = some (.int .i64 m) := by simpa using box_cell (i := 0) h
  have hV := vertices_any ev xs m W hs
  obtain ⟨a, c, rfl, -⟩ := hs.open
  clear hs h
  go_enter Tryd.func44, Tryd.ntmps44
  go_wp2_with fail
  refine hV.mono ?_
  rintro e w1 ⟨rfl, hb⟩
  have HB1 := Lib.hid hb
  clear hb
  go_wp2_with fail
  go_ret
  exact ⟨rfl, HB1.out⟩
/-- What stands in the body of the range: the row that is told so far. -/
def RoI (w : World) (X T base : Nat) (pre : List Int) (V : World) : Prop :=
  ∃ v, V.heap[T]? = some (.cells #[v] 27 (0, 0)) ∧ V.ownsRow base 3 1 v pre.length (pre.map (.int .i64)) ∧ base ≤ V.heap.size ∧ Wrote (fun b => b = X) w V
theorem roI_kept {w : World} {X T base D : Nat} (hD : w.heap.size ≤ D) : OwnFrom D (RoI w X T base) := by
  rintro pre A B' row ⟨v, h1, h2, h3, h4⟩ hg hr
  exact ⟨v, box_kept h1 hg hr, ownsRow_kept h2 hg hr, Nat.le_trans h3 hg.size, wrote_grown h4 hg (fun r e => Nat.le_trans hD (hr r e).1)⟩
theorem roI_wrote {w : World} {X T base : Nat} {pre : List Int} {A B : World} (hT : X ≠ T) (hb : X < base) (h : RoI w X T base pre A) (hC : ChX X A B) : RoI w X T base pre B := by
  obtain ⟨hC, -⟩ := hC
  obtain ⟨v, g1, g2, g3, g4⟩ := h
  refine ⟨v, (hC.block _ (lt_of_block g1) (fun e => hT e.symm)).trans g1, ?_, Nat.le_trans g3 hC.size, g4.trans hC⟩
  obtain ⟨k1, k2⟩ := g2
  refine ⟨k1, ?_⟩
  rcases k2 with k2 | ⟨g', cap, cur, hv, hgb, hh, rest⟩
  · exact .inl k2
  · exact .inr ⟨g', cap, cur, hv, hgb, (hC.block _ (lt_of_block hh) (by omega)).trans hh, rest⟩
/-- Marks among the deferred calls: nothing is put off. -/
def Marks (B : Nat) (ds : List Deferred) (W : World) : Prop := (ds.map fun d => d.target).Nodup ∧ ∀ d ∈ ds, ∃ D, d.target = .collected D ∧ B ≤ D ∧ W.heap[D]? = some (.deferred (some []))
theorem Marks.later {B : Nat} {ds : List Deferred} {W W' : World} (h : Marks B ds W) (hk : ∀ b, B ≤ b → b < W.heap.size → W'.heap[b]? = W.heap[b]?) : Marks B ds W' :=
  ⟨h.1, fun d hd => by obtain ⟨D, h1, h2, h3⟩ := h.2 d hd; exact ⟨D, h1, h2, (hk D h2 (lt_of_block h3)).trans h3⟩⟩
/-- Blocks of cells stay. -/
structure Shut (B : Nat) (W W' : World) : Prop where
  bel : Below B W W'
  cells : ∀ (b : Nat) cs t fr, W.heap[b]? = some (.cells cs t fr) → W'.heap[b]? = some (.cells cs t fr)
theorem Shut.own {B : Nat} {W W' : World} (h : Shut B W W') {base size n : Nat} {e : TypeId} {v : Value} {xs : List Value} (k : W.ownsRow base e size v n xs) : W'.ownsRow base e size v n xs := by
  refine ⟨k.1, ?_⟩
  rcases k.2 with k2 | ⟨g, cap, cu, hv, hg', hh, r⟩
  · exact .inl k2
  · exact .inr ⟨g, cap, cu, hv, hg', h.cells _ _ _ _ hh, r⟩
theorem Shut.ownRK {B : Nat} {W W' : World} (h : Shut B W W') {k : IntKind} {et rt : TypeId} {base : Nat} {v : Value} {ps : List (Value × List Int)} (q : OwnRK k et rt base W v ps) : OwnRK k et rt base W' v ps := ⟨h.own q.own, fun p hp => ⟨h.own (q.rows p hp).1, (q.rows p hp).2⟩⟩
/-- A frame with marks alone leaves. -/
theorem leaves_marks {F : Fence} {n : Nat} {P : Program} {fn : Func} {tmps : Array Value} {R : Ending → World → Prop} {B : Nat} {v : Value} : ∀ (ds : List Deferred) (W : World), Marks B ds W → B ≤ W.heap.size →
    (∀ W', Shut B W W' → (results fn tmps).run P W' = .ok v W' ∧ R (.returned v) W') → LeavesInM F n P fn tmps R ds .returning W
  | [], W, _, _, h => by
    obtain ⟨h1, h2⟩ := h W ⟨Below.refl _ _, fun _ _ _ _ q => q⟩
    exact ⟨_, h1, h2⟩
  | d :: ds, W, hM, hB, h => by
    obtain ⟨D, h1, h2, h3⟩ := hM.2 d (List.mem_cons_self ..)
    refine ⟨by simp, .inl ⟨D, _, h1, run_takeDeferred h3, ?_⟩⟩
    have hg := grownBy_putObj' W D (.deferred none)
    have hbel : Below B W (W.putObj D (.deferred none)) := (Below.refl B W).grown hg hB (fun k e => by cases e; exact h2)
    refine leaves_marks ds _ ⟨(List.nodup_cons.1 hM.1).2, fun d' hd' => ?_⟩ (Nat.le_trans hB hbel.size) fun W' hb => h W' ⟨hbel.trans hb.bel, fun b cs t fr q => hb.cells b cs t fr ((hg.block b (lt_of_block q) (fun e => by cases e; rw [h3] at q; cases q)).trans q)⟩
    obtain ⟨D', k1, k2, k3⟩ := hM.2 d' (List.mem_cons_of_mem _ hd')
    have hne : D' ≠ D := fun e => (List.nodup_cons.1 hM.1).1 (List.mem_map.2 ⟨d', hd', by show d'.target = d.target; rw [k1, h1, e]⟩)
    exact ⟨D', k1, k2, (hg.block D' (lt_of_block k3) (fun e => by cases e; exact hne rfl)).trans k3⟩
set_option maxRecDepth 100000 in
theorem frB {v9 v10 u0 u1 u2 u3 u4 u5 u6 u7 u8 u11 u12 u13 u14 u15 u16 u17 u18 u19 u20 u21 u22 u23 u24 u25 u26 u27 u28 u29 u30 u31 u32 u33 u34 u35 u36 u37 u38 u39 u40 u41 u42 u43 u44 u45 u46 : Value} : ∃ g : Nat → Value, ({ tmps := #[u0, u1, u2, u3, u4, u5, u6, u7, u8, v9, v10, u11, u12, u13, u14, u15, u16, u17, u18, u19, u20, u21, u22, u23, u24, u25, u26, u27, u28, u29, u30, u31, u32, u33, u34, u35, u36, u37, u38, u39, u40, u41, u42, u43, u44, u45, u46], defers := [] } : Act) = { tmps := #[g 0, g 1, g 2, g 3, g 4, g 5, g 6, g 7, g 8, v9, v10, g 11, g 12, g 13, g 14, g 15, g 16, g 17, g 18, g 19, g 20, g 21, g 22, g 23, g 24, g 25, g 26, g 27, g 28, g 29, g 30, g 31, g 32, g 33, g 34, g 35, g 36, g 37, g 38, g 39, g 40, g 41, g 42, g 43, g 44, g 45, g 46], defers := [] } := ⟨fun i => ([u0, u1, u2, u3, u4, u5, u6, u7, u8, undef, undef, u11, u12, u13, u14, u15, u16, u17, u18, u19, u20, u21, u22, u23, u24, u25, u26, u27, u28, u29, u30, u31, u32, u33, u34, u35, u36, u37, u38, u39, u40, u41, u42, u43, u44, u45, u46] : List Value).getD i undef, rfl⟩
set_option maxRecDepth 100000 in
theorem frOf {v0 v1 v2 v4 v5 v6 v25 v26 v27 u3 u7 u8 u9 u10 u11 u12 u13 u14 u15 u16 u17 u18 u19 u20 u21 u22 u23 u24 u28 u29 u30 u31 u32 u33 u34 u35 u36 u37 u38 u39 u40 u41 u42 u43 u44 u45 u46 : Value} {ds : List Deferred} : ∃ f : Nat → Value, ({ tmps := #[v0, v1, v2, u3, v4, v5, v6, u7, u8, u9, u10, u11, u12, u13, u14, u15, u16, u17, u18, u19, u20, u21, u22, u23, u24, v25, v26, v27, u28, u29, u30, u31, u32, u33, u34, u35, u36, u37, u38, u39, u40, u41, u42, u43, u44, u45, u46], defers := ds } : Act) = { tmps := #[v0, v1, v2, f 3, v4, v5, v6, f 7, f 8, f 9, f 10, f 11, f 12, f 13, f 14, f 15, f 16, f 17, f 18, f 19, f 20, f 21, f 22, f 23, f 24, v25, v26, v27, f 28, f 29, f 30, f 31, f 32, f 33, f 34, f 35, f 36, f 37, f 38, f 39, f 40, f 41, f 42, f 43, f 44, f 45, f 46], defers := ds } := ⟨fun i => ([undef, undef, undef, u3, undef, undef, undef, u7, u8, u9, u10, u11, u12, u13, u14, u15, u16, u17, u18, u19, u20, u21, u22, u23, u24, undef, undef, undef, u28, u29, u30, u31, u32, u33, u34, u35, u36, u37, u38, u39, u40, u41, u42, u43, u44, u45, u46] : List Value).getD i undef, rfl⟩
/-- What stands while the edges are put in order. -/
structure OfI (W3 : World) (m : Int) (ls : List (List Int)) (k : Nat) (hv : Value) (ds : List Deferred) (W : World) : Prop where
  bel : Below W3.heap.size W3 W
  box : HB W W3.heap.size m hv
  own : ∃ ps, OwnRK .i64 3 27 (W3.heap.size + 1) W hv ps ∧ ps.map Prod.snd = edgesL (ls.take k)
  marks : Marks W3.heap.size ds W
theorem OwnRK.setH {base : Nat} {W : World} {v : Value} {ps : List (Value × List Int)} (h : OwnRK .i64 3 27 base W v ps) {X i : Nat} {cs : Array Value} (hX : W.heap[X]? = some (.cells cs 24 (0, 0))) (u : Value) : OwnRK .i64 3 27 base (W.setCell ⟨X, i, none⟩ u) v ps :=
  ⟨own_set h.own hX (by decide) _, fun p hp => ⟨own_set (h.rows p hp).1 hX (by decide) _, (h.rows p hp).2⟩⟩
theorem eachL_wf (s : Nat) : ∀ x ∈ eachL s, (Lit.int .i64 x).wf = true := fun x hx => by
  unfold eachL at hx
  obtain ⟨i, hi, rfl⟩ := List.mem_map.1 hx
  have := List.mem_range.1 (List.mem_filter.1 hi).1
  exact WalkArith.wf_i64 (by omega)
/-- One edge more. -/
theorem OfI.next {W3 W V w6 : World} {m : Int} {ls : List (List Int)} {k g6 cap6 D s : Nat} {av avc : Option Addr} {cv cvc : Nat} {ps : List (Value × List Int)} {ds : List Deferred}
    (h : OfI W3 m ls k (.slice av ps.length cv) ds W) (hown : OwnRK .i64 3 27 (W3.heap.size + 1) W (.slice av ps.length cv) ps) (hps : ps.map Prod.snd = edgesL (ls.take k)) (hkl : k < ls.length) (hs : setL (rowN ls k) = s)
    (bV : Below W.heap.size W V) (hoC : V.ownsRow (W3.heap.size + 1) 3 1 (.slice avc (eachL s).length cvc) (eachL s).length ((eachL s).map (.int .i64)))
    (hD : W.heap.size ≤ D) (hdef : V.heap[D]? = some (.deferred (some [])))
    (hown6 : w6.ownsRow (W3.heap.size + 1) 27 1 (.slice (some ⟨g6, 0, none⟩) (ps.length + 1) cap6) (ps.length + 1) (ps.map Prod.fst ++ [.slice avc (eachL s).length cvc])) (hgrow6 : (V.alloc (.cells #[.slice avc (eachL s).length cvc] 27)).grownBy w6 (Value.slice av ps.length cv).ownBlock) :
    OfI W3 m ls (k + 1) (.slice (some ⟨g6, 0, none⟩) (ps.length + 1) cap6) ({ target := .collected D, args := #[] } :: ds) (w6.setCell ⟨W3.heap.size, 1, none⟩ (.slice (some ⟨g6, 0, none⟩) (ps.length + 1) cap6)) := by
  have hsz := h.bel.size
  have bA := later_trans bV (later_alloc V (.cells #[.slice avc (eachL s).length cvc] 27))
  have hoA := owns_later hown.own bA
  have hbx := box_grown hoA hgrow6 (kept bA h.box) (by decide)
  have hn := OwnRK.next (by decide) hown bV hoC rfl (eachL_wf s) hown6 hgrow6
  have hb6 : Below W3.heap.size W3 w6 := (later_trans h.bel bA).grown hgrow6 (Nat.le_trans hsz bA.size) (fun k e => by have := owns_above hoA k e; omega)
  have hkeep : ∀ b, b < W.heap.size → (∀ cs t fr, W.heap[b]? ≠ some (.cells cs t fr)) → (w6.setCell ⟨W3.heap.size, 1, none⟩ (.slice (some ⟨g6, 0, none⟩) (ps.length + 1) cap6)).heap[b]? = W.heap[b]? := fun b hb hc => by
    have e1 : (V.alloc (.cells #[.slice avc (eachL s).length cvc] 27)).heap[b]? = W.heap[b]? := bA.block b hb
    have e2 : w6.heap[b]? = W.heap[b]? := (hgrow6.block b (Nat.lt_of_lt_of_le hb bA.size) (fun e => by
      rcases hoA.2 with ⟨q, _⟩ | ⟨g, cap, cu, q, hg', hh, r⟩
      · rw [q] at e; cases e
      · rw [q] at e
        cases e
        rw [e1] at hh
        exact hc _ _ _ hh)).trans e1
    rw [heap_setCell_other w6 ⟨W3.heap.size, 1, none⟩ b _ (fun e => by
      have e' : b = W3.heap.size := e
      rw [e'] at hc
      exact hc _ _ _ h.box)]
    exact e2
  refine ⟨below_set hb6 (Nat.le_refl _), by simpa [HB] using box_set (i := 1) hbx (.slice (some ⟨g6, 0, none⟩) (ps.length + 1) cap6), ⟨_, hn.setH hbx _, ?_⟩, ?_, ?_⟩
  · rw [List.map_append, hps]
    unfold edgesL
    rw [List.take_succ_eq_append_getElem hkl, List.map_append, ← rowN_at hkl]
    show _ ++ [eachL s] = _ ++ [eachL (setL (rowN ls k))]
    rw [hs]
  · rw [List.map_cons]
    refine List.nodup_cons.2 ⟨fun hm => ?_, h.marks.1⟩
    obtain ⟨d, hd, e⟩ := List.mem_map.1 hm
    obtain ⟨D', k1, k2, k3⟩ := h.marks.2 d hd
    have e' : d.target = .collected D := e
    rw [k1] at e'
    cases e'
    have := lt_of_block k3
    omega
  · intro d hd
    rcases List.mem_cons.1 hd with rfl | hd
    · refine ⟨D, rfl, by omega, ?_⟩
      have e1 : (V.alloc (.cells #[.slice avc (eachL s).length cvc] 27)).heap[D]? = some (.deferred (some [])) := ((later_alloc V _).block D (lt_of_block hdef)).trans hdef
      have e2 : w6.heap[D]? = some (.deferred (some [])) := (hgrow6.block D (lt_of_block e1) (fun e => by
        rcases hoA.2 with ⟨q, _⟩ | ⟨g, cap, cu, q, hg', hh, r⟩
        · rw [q] at e; cases e
        · rw [q] at e
          cases e
          rw [e1] at hh
          cases hh)).trans e1
      rw [heap_setCell_other w6 ⟨W3.heap.size, 1, none⟩ D _ (fun e => by
        have e' : D = W3.heap.size := e
        have := lt_of_block h.box
        omega)]
      exact e2
    · obtain ⟨D', k1, k2, k3⟩ := h.marks.2 d hd
      exact ⟨D', k1, k2, (hkeep D' (lt_of_block k3) (fun cs t fr q => by rw [k3] at q; cases q)).trans k3⟩
set_option maxRecDepth 100000 in
set_option maxHeartbeats 8000000 in
theorem Of_any (m : Int) (ev : Value) (ls : List (List Int)) (w : World) (h : SlRK .i64 w ev ls) (hT : TabW w) :
    Calls Tryd.prog 18 #[.int .i64 m, ev] w fun e w' => ∃ hv m', e = .returned (.tuple #[hypV m' hv, .int .i64 (if ofB m ls = true then 0 else 2)]) ∧ (if ofB m ls = true then m' = m ∧ ∃ ps, OwnRK .i64 3 27 w.heap.size w' hv ps ∧ ps.map Prod.snd = edgesL ls else m' = 0 ∧ hv = .slice none 0 0) ∧ Below w.heap.size w w' := by
  obtain ⟨i0, hi, hz0, hz1, hz2⟩ := info_parts info_rowI
  obtain ⟨j0, hj, jz0, jz1, jz2⟩ := info_parts info_int
  have hE : Enters 44 := enters_of Tryd.func44 (by kernel_rfl) rfl
  obtain ⟨W0, hW0⟩ : ∃ W, W = (w.alloc (.cells #[.int .i64 m] 3)).alloc (.cells #[.int .i64 0, .slice none 0 0] 24) := ⟨_, rfl⟩
  have b0 : Below w.heap.size w W0 := by rw [hW0]; exact later_trans (later_alloc _ _) (later_alloc _ _)
  have bM : W0.heap[w.heap.size]? = some (.cells #[.int .i64 m] 3 (0, 0)) := by rw [hW0]; exact box_alloc (box_new _ _ _) _
  have bR : HB W0 (w.heap.size + 1) 0 (.slice none 0 0) := by
    rw [hW0]
    have h := box_new (w.alloc (.cells #[.int .i64 m] 3)) #[.int .i64 0, .slice none 0 0] 24
    rw [World.size_alloc] at h
    exact h
  have hS := fun W => sizes_any m ls.length W
  have hA := allR_any (F := 44) (caps := #[.pointer (some ⟨w.heap.size, 0, none⟩)]) (p := fun _ e => vertsB m e) hE (h.later b0) fun r hr rv W hb hrv => ofF_any (kept hb bM) hrv
  obtain ⟨ae, ce, rfl, -⟩ := h.open
  have c0 : W0.cell? ⟨w.heap.size, 0, none⟩ = some (.int .i64 m) := by simpa using box_cell (i := 0) bM
  have hlm := h.len
  obtain ⟨q1, hq1⟩ : ∃ q, sizesB m ls.length = q := ⟨_, rfl⟩
  obtain ⟨q2, hq2⟩ : ∃ q, (allR ls fun _ e => vertsB m e) = q := ⟨_, rfl⟩
  have hof : ofB m ls = (q1 && q2) := by unfold ofB; rw [hq1, hq2]
  simp only [hq1] at hS
  rw [hq2] at hA
  have H0 := Lib.hid (And.intro h (And.intro hT (And.intro b0 (And.intro bM (And.intro bR hof)))))
  have HA := Lib.hid hA
  have hmf : ∀ (fn : Fn) (first cap : Array Value) (w : World), (Instr.makeFunc fn first cap).run Tryd.prog w = .ok (.func fn first cap) w := fun _ _ _ _ => rfl
  have l0 := lt_of_block bM
  rw [hof]
  clear h hT b0 bM bR hA hE hq1 hq2 hof
  refine (callsIn_wide (n := 6)).1 ?_
  refine callsIn_of_wp_marks Tryd.func18 rfl trivial ?_ rfl
  simp only [Tryd.ntmps18, List.size_toArray, List.length_cons, List.length_nil, Nat.reduceAdd, Nat.reduceSub, Array.replicate_succ, Array.replicate_zero, List.push_toArray, List.append_toArray, List.nil_append, List.cons_append]
  refine wpIn_wide.2 ?_
  go_wp2_with fail
  rw [← hW0]
  clear hW0
  refine (hS W0).mono ?_
  rintro e w9 ⟨rfl, rfl⟩
  cases q1 with
  | false =>
    have mR := H0.out.2.2.2.2.1
    have fR0 := box_frozen (i := 0) mR
    have fR1 := box_frozen (i := 1) mR
    obtain ⟨r0, r1, lR⟩ := two_of mR
    have hb3 := box_set (i := 1) (box_set (i := 0) mR (.int .i64 0)) (.slice none 0 0)
    have d0 := box_cell (i := 0) hb3
    have d1 := box_cell (i := 1) hb3
    simp at d0 d1
    have HF := Lib.hid (below_set (i := 1) (u := .slice none 0 0) (below_set (i := 0) (u := .int .i64 0) (H0.out.2.2.1) (show w.heap.size ≤ w.heap.size + 1 by omega)) (show w.heap.size ≤ w.heap.size + 1 by omega))
    clear mR hb3
    go_wp2_with fail
    show LeavesInM _ _ _ _ _ _ _ _ _
    refine ⟨.tuple #[hypV 0 (.slice none 0 0), .int .i64 2], by simp [results, Tryd.results18, go_sem, d0, d1], ?_⟩
    exact ⟨.slice none 0 0, 0, rfl, by simp, HF.out⟩
  | true =>
    go_wp2_with fail
    refine HA.out.mono ?_
    rintro e W2 ⟨rfl, b2⟩
    have b02 := later_trans H0.out.2.2.1 b2
    cases q2 with
    | false =>
      have mR := kept b2 H0.out.2.2.2.2.1
      have fR0 := box_frozen (i := 0) mR
      have fR1 := box_frozen (i := 1) mR
      obtain ⟨r0, r1, lR⟩ := two_of mR
      have hb3 := box_set (i := 1) (box_set (i := 0) mR (.int .i64 0)) (.slice none 0 0)
      have d0 := box_cell (i := 0) hb3
      have d1 := box_cell (i := 1) hb3
      simp at d0 d1
      have HF := Lib.hid (below_set (i := 1) (u := .slice none 0 0) (below_set (i := 0) (u := .int .i64 0) (b02) (show w.heap.size ≤ w.heap.size + 1 by omega)) (show w.heap.size ≤ w.heap.size + 1 by omega))
      clear mR hb3
      go_wp2_with fail
      show LeavesInM _ _ _ _ _ _ _ _ _
      refine ⟨.tuple #[hypV 0 (.slice none 0 0), .int .i64 2], by simp [results, Tryd.results18, go_sem, d0, d1], ?_⟩
      exact ⟨.slice none 0 0, 0, rfl, by simp, HF.out⟩
    | true =>
      have mM := kept b2 H0.out.2.2.2.1
      have mR := kept b2 H0.out.2.2.2.2.1
      have c2 : W2.cell? ⟨w.heap.size, 0, none⟩ = some (.int .i64 m) := by simpa using box_cell (i := 0) mM
      have hof := ofB_yes H0.out.2.2.2.2.2
      obtain ⟨W4, hW4⟩ : ∃ W, W = W2.alloc (.cells #[.int .i64 m, .slice none 0 0] 24) := ⟨_, rfl⟩
      have H2 := Lib.hid (And.intro b02 (And.intro mR hof))
      clear b2 b02 mM mR hof c0 l0
      go_wp2_with fail
      rw [← hW4]
      have hO0 : OfI W2 m ls 0 (.slice none 0 0) [] W4 := by
        rw [hW4]
        exact ⟨later_alloc _ _, box_new _ _ _, ⟨[], OwnRK.nil _ _ _ _ _, rfl⟩, List.nodup_nil, fun d hd => by cases hd⟩
      have HO0 := Lib.hid hO0
      clear hO0 hW4 c2
      refine wp_loop (fun a W => ∃ (k : Nat) (hv : Value) (ds : List Deferred), k ≤ ls.length ∧ OfI W2 m ls k hv ds W ∧ ∃ f : Nat → Value, a = { tmps := #[.int .i64 m, .slice ae ls.length ce, .pointer (some ⟨w.heap.size, 0, none⟩), f 3, .pointer (some ⟨w.heap.size + 1, 0, none⟩), .int .i64 0, .pointer (some ⟨W2.heap.size, 0, none⟩), f 7, f 8, f 9, f 10, f 11, f 12, f 13, f 14, f 15, f 16, f 17, f 18, f 19, f 20, f 21, f 22, f 23, f 24, .slice ae ls.length ce, .int .i64 ls.length, .int .i64 k, f 28, f 29, f 30, f 31, f 32, f 33, f 34, f 35, f 36, f 37, f 38, f 39, f 40, f 41, f 42, f 43, f 44, f 45, f 46], defers := ds }) (fun a _ => ls.length - (intOf (a.tmps.getD 27 undef)).toNat) ⟨0, _, [], Nat.zero_le _, HO0.out, frOf⟩ ?_
      rintro a W ⟨k, hv, ds, hk, hO, f, rfl⟩
      by_cases hkl : k < ls.length
      · have hbW := later_trans H2.out.1 hO.bel
        obtain ⟨_, _, e1, _, _, _, f4⟩ := (H0.out.1.later hbW).open
        obtain ⟨bE, oE, e2, -, fc⟩ := f4 (by omega)
        simp only [Value.slice.injEq] at e1
        obtain ⟨rfl, -, rfl⟩ := e1
        subst e2
        obtain ⟨rv, ch, hrv⟩ := fc k hkl
        change SlI .i64 W rv (rowN ls k) at hrv
        have hin : ∀ x ∈ rowN ls k, 0 ≤ x ∧ x < (64 : Nat) := fun x hx => by have := H2.out.2.2.2.2.2 _ (rowN_mem hkl) x hx; have := H2.out.2.2.2.1; omega
        obtain ⟨W5, hW5⟩ : ∃ V, V = W.alloc (.cells #[.slice none 0 0] 27) := ⟨_, rfl⟩
        have b5 : Below W.heap.size W W5 := by rw [hW5]; exact later_alloc _ _
        have s5 : W5.heap.size = W.heap.size + 1 := by rw [hW5, World.size_alloc]
        have bT : W5.heap[W.heap.size]? = some (.cells #[.slice none 0 0] 27 (0, 0)) := by rw [hW5]; exact box_new _ _ _
        have hof := of_any rv (rowN ls k) W5 (SlI.later hrv b5) hin
        obtain ⟨s, hs⟩ : ∃ s, setL (rowN ls k) = s := ⟨_, rfl⟩
        have hs64 : s < 2 ^ 64 := by rw [← hs]; exact setL_lt hin
        rw [hs] at hof
        have hE2 := eachF_any s W5
        obtain ⟨W6, hW6⟩ : ∃ V, W5.alloc (.cells #[.int .u64 (s : Int)] 58) = V := ⟨_, rfl⟩
        have b6 : Below W5.heap.size W5 W6 := by rw [← hW6]; exact later_alloc _ _
        have bX : W6.heap[W5.heap.size]? = some (.cells #[.int .u64 (s : Int)] 58 (0, 0)) := by rw [← hW6]; exact box_new _ _ _
        have s6 : W6.heap.size = W.heap.size + 2 := by rw [← hW6, World.size_alloc, s5]
        rw [hW6] at hE2
        obtain ⟨ar, cr, rfl, -⟩ := hrv.open
        have hkI : (k : Int) < ls.length := by omega
        have b56 := later_trans b5 b6
        have HR := Lib.hid (And.intro hO (And.intro hbW (And.intro hs (And.intro hs64 (And.intro bX (And.intro (kept b6 bT) (And.intro s5 (And.intro s6 (And.intro b56 (H0.out.2.1.later (later_trans hbW b56)))))))))))
        have HC := Lib.hid (And.intro hof hE2)
        clear hO hbW f4 fc hrv hin b5 s5 bT hof hs hs64 hE2 hW6 b6 bX s6 b56
        go_wp2_with fail
        rw [← hW5]
        clear hW5
        refine HC.out.1.mono ?_
        rintro e w9 ⟨rfl, h9⟩
        rw [h9]
        clear h9 w9
        go_wp2_with fail
        refine HC.out.2.mono ?_
        rintro e w9 ⟨rfl, h9⟩
        rw [h9]
        clear h9 w9
        go_wp2_with fail
        have hGw : 0 < W.heap.size := World.block_lt_of_cell? _ _ ((H0.out.2.1.later HR.out.2.1) 0 (by decide))
        have hseq := each_seq 5 (by omega) s W5.heap.size HR.out.2.2.2.1 W6 HR.out.2.2.2.2.1 HR.out.2.2.2.2.2.2.2.2.2
        have hT0 := HR.out.2.2.2.2.2.1
        refine (wpIn_wide (n := 6)).1 ?_
        refine wpIn_range_stops (by omega) (gf := 59) (lb := #[.pointer (some ⟨W5.heap.size, 0, none⟩)]) rfl (enters_of Tryd.func59 (by kernel_rfl) rfl)
          hseq (fun A B h b => ⟨fun st e => h.2 b _ e rfl, fun d e => h.2 b _ e rfl⟩) (fun h k => KpX.trans h k) (fun V l o o' hl ho hc hw' => ⟨by simp, fun b hb _ => World.putObj_heap_other (by have h5 := HR.out.2.2.2.2.2.2.1; have h6 := HR.out.2.2.2.2.2.2.2.1; rcases hb with hb | hb <;> omega)⟩)
          (Below.refl _ _) (fun _ => rfl) (RoI W W5.heap.size W.heap.size (W.heap.size + 2)) (fun _ _ _ => False) (roI_kept HR.out.2.2.2.2.2.2.2.2.1.size) (fun c => fun _ _ _ _ h => h.elim) (fun _ _ _ _ _ _ _ => trivial)
          (fun s A B hI hW => roI_wrote (by have h5 := HR.out.2.2.2.2.2.2.1; omega) (by have h5 := HR.out.2.2.2.2.2.2.1; omega) hI hW)
          ⟨_, hT0, World.ownsRow_nil _ _ _ _, by have h6 := HR.out.2.2.2.2.2.2.2.1; omega, Wrote.of_below HR.out.2.2.2.2.2.2.2.2.1⟩
          (fun x a' V => ∃ g : Nat → Value, a' = { tmps := #[g 0, g 1, g 2, g 3, g 4, g 5, g 6, g 7, g 8, .pointer (some ⟨W.heap.size, 0, none⟩), .int .i64 x, g 11, g 12, g 13, g 14, g 15, g 16, g 17, g 18, g 19, g 20, g 21, g 22, g 23, g 24, g 25, g 26, g 27, g 28, g 29, g 30, g 31, g 32, g 33, g 34, g 35, g 36, g 37, g 38, g 39, g 40, g 41, g 42, g 43, g 44, g 45, g 46], defers := [] })
          (fun x a' => fun _ A B' row h hg hr => h) ?assign ?body ?done (fun D c pre V hD hS hx hd => hx.elim)
        case assign =>
          intro l pre x V KQ hI hK
          simp only [encI]
          gi_wp2
          exact hK _ _ (keeps_later (later_refl V) _) ⟨Nat.le_refl _, fun b _ _ => rfl⟩ hI frB
        case body =>
          rintro l pre x a' V hl ⟨v, h1, h2, h3, h4⟩ ⟨g, rfl⟩ hpl
          have hs4 := h4.size
          obtain ⟨av, cv, rfl⟩ := owns_shape2 h2
          have t0 := box_cell (i := 0) h1
          have f0 := box_frozen (i := 0) h1
          simp at t0
          have hTV := lt_of_block h1
          gi_wp2_with (first
            | (gi_at_builtin; refine wpListIn_append_own _ rfl (.tmp 35) (.tmp 37) 27 rfl (W.heap.size + 2) 3 j0 _ 1 8 Tryd.underlying27 hj jz0 jz1 jz2 rfl (by decide) _ _ _ rfl (h2.alloc _) ⟨V.heap.size, 0, none⟩ 1 1 [.int .i64 x] rfl rfl (cells_new _ _ _) (by simp [Value.oneCell']) (by unfold maxLen; omega) (by omega) (by simp; omega) ?_; intro v6 w6 hown6 hgrow6 _; obtain ⟨g6, cap6, rfl⟩ := ownsRow_succ hown6; have hT6 := box_grown (h2.alloc _) hgrow6 (box_alloc h1 _) (by decide); have t6 := box_cell (i := 0) hT6; have f6 := box_frozen (i := 0) hT6; simp at t6))
          have hk := later_alloc V (.cells #[.int .i64 x] 3)
          have hbel : Below W.heap.size V (w6.setCell ⟨W.heap.size, 0, none⟩ (.slice (some ⟨g6, 0, none⟩) (pre.length + 1) cap6)) :=
            below_set ((hk.mono h4.size).grown hgrow6 (by have := h4.size; simp; omega) (fun k e => Nat.le_trans (by omega) (owns_above h2 k e))) (Nat.le_refl _)
          have hXV : W5.heap.size < V.heap.size := by have h5 := HR.out.2.2.2.2.2.2.1; omega
          have hXk : (w6.setCell ⟨W.heap.size, 0, none⟩ (.slice (some ⟨g6, 0, none⟩) (pre.length + 1) cap6)).heap[W5.heap.size]? = V.heap[W5.heap.size]? := by
            rw [heap_setCell_other w6 ⟨W.heap.size, 0, none⟩ W5.heap.size _ (fun e => by
              have e' : W5.heap.size = W.heap.size := e
              have h5 := HR.out.2.2.2.2.2.2.1
              omega)]
            exact (hgrow6.block W5.heap.size (Nat.lt_of_lt_of_le hXV hk.size) (fun e => by have := owns_above h2 _ e.symm; have h5 := HR.out.2.2.2.2.2.2.1; omega)).trans (hk.block _ hXV)
          refine ⟨?_, ⟨hbel.size, fun b hb hlt => by rcases hb with hb | hb; · rw [hb]; exact hXk
                                                     · exact hbel.block b (by omega)⟩, ⟨_, box_set hT6 _, ?_, ?_, ?_⟩⟩
          · have k1 : KeepsOthers V _ := ((KeepsOthers.alloc V _).trans (KeepsOthers.of_grownBy hgrow6 (own_isCells (h2.alloc _)))).trans (KeepsOthers.setCell _ ⟨W.heap.size, 0, none⟩ (.slice (some ⟨g6, 0, none⟩) (pre.length + 1) cap6))
            exact k1.from _
          · have h9 := own_set (i := 0) hown6 hT6 (by decide) (.slice (some ⟨g6, 0, none⟩) (pre.length + 1) cap6)
            simpa using h9
          · exact Nat.le_trans h3 hbel.size
          · exact ⟨hbel.os.trans h4.os, hbel.tape.trans h4.tape, hbel.output.trans h4.output, Nat.le_trans h4.size hbel.size, fun b hb hS => (hbel.block b hb).trans (h4.block b hb hS)⟩
        case done =>
          rintro D ys V hD rfl hI - hdef
          obtain ⟨v9, g1, g2, g3', g4⟩ := id hI
          obtain ⟨av, cv, rfl⟩ := owns_shape2 g2
          have h5 := HR.out.2.2.2.2.2.2.1
          have h6 := HR.out.2.2.2.2.2.2.2.1
          have bWV : Below W.heap.size W V := g4.below (fun b e => by omega) (Nat.le_refl _)
          have hHV := kept bWV HR.out.1.box
          obtain ⟨y0, y1, lY⟩ := two_of hHV
          have fY1 := box_frozen (i := 1) hHV
          obtain ⟨ps, hown, hps⟩ := HR.out.1.own
          obtain ⟨avh, cvh, rfl⟩ := owns_shape2 hown.own
          have hsz := HR.out.1.bel.size
          have hpl : ps.length = k := by
            have := congrArg List.length hps
            unfold edgesL at this
            rw [List.length_map, List.length_map, List.length_take] at this
            omega
          have hoV := (owns_later hown.own bWV).alloc (.cells #[.slice av (eachL s).length cv] 27)
          have t0 := box_cell (i := 0) g1
          simp at t0
          have hVs := bWV.size
          have hDD : W.heap.size ≤ D := by omega
          have hps40 : ps.length ≤ 40 := by have := H2.out.2.2.2.2.1; omega
          have HV := Lib.hid (And.intro bWV (And.intro (owns_down g2 (show W2.heap.size + 1 ≤ W.heap.size + 2 by omega)) (And.intro hown (And.intro hps (And.intro hDD hdef)))))
          have HY := Lib.hid (box_alloc hHV (.cells #[.slice av (eachL s).length cv] 27))
          clear g1 g2 g4 hI hdef hHV bWV hps hDD hD h5 h6 hpl
          dsimp only
          refine ‹∀ (a : Act) (w_1 : World), _ → _› _ _ ?_
          go_wp2_with (first | (at_builtin; refine wpList_append_own _ rfl (.tmp 40) (.tmp 42) 22 rfl (W2.heap.size + 1) 27 i0 _ 1 24 Tryd.underlying22 hi hz0 hz1 hz2 rfl (by decide) _ _ _ rfl hoV ⟨V.heap.size, 0, none⟩ 1 1 [.slice av (eachL s).length cv] rfl rfl (cells_new _ _ _) (by simp [Value.oneCell']) (by unfold maxLen; omega) (by omega) (by simp; omega) ?_; intro v6 w6 hown6 hgrow6 _; obtain ⟨g6, cap6, rfl⟩ := ownsRow_succ hown6; have hB6 := box_grown hoV hgrow6 HY.out (by decide); have fB6 := box_frozen (i := 1) hB6; obtain ⟨z0, z1, lZ⟩ := two_of hB6) | go_in)
          have hnx := HR.out.1.next HV.out.2.2.1 HV.out.2.2.2.1 hkl HR.out.2.2.1 HV.out.1 HV.out.2.1 HV.out.2.2.2.2.1 HV.out.2.2.2.2.2 hown6 hgrow6
          refine ⟨⟨k + 1, _, _, hkl, hnx, frOf⟩, ?_⟩
          simp [intOf]
          omega
      · obtain rfl : k = ls.length := by omega
        obtain ⟨ps, hown, hps⟩ := hO.own
        rw [List.take_length] at hps
        obtain ⟨ah, ch, rfl⟩ := owns_shape2 hown.own
        have mR := kept hO.bel H2.out.2.1
        have mRs : w.heap.size + 1 < W2.heap.size := lt_of_block H2.out.2.1
        have fR0 := box_frozen (i := 0) mR
        have fR1 := box_frozen (i := 1) mR
        obtain ⟨r0, r1, lR⟩ := two_of mR
        obtain ⟨y0, y1, lY⟩ := two_of hO.box
        have hne : ¬ w.heap.size + 1 = W2.heap.size := by omega
        have hb3 : ((W.setCell ⟨w.heap.size + 1, 0, none⟩ (.int .i64 m)).setCell ⟨w.heap.size + 1, 1, none⟩ (.slice ah ps.length ch)).heap[w.heap.size + 1]? = some (.cells #[.int .i64 m, .slice ah ps.length ch] 24 (0, 0)) := by simpa using box_set (i := 1) (box_set (i := 0) mR (.int .i64 m)) (.slice ah ps.length ch)
        have hon := (hown.setH mR (i := 0) (.int .i64 m)).setH (box_set (i := 0) mR (.int .i64 m)) (i := 1) (.slice ah ps.length ch)
        have hma : Marks W2.heap.size ds ((W.setCell ⟨w.heap.size + 1, 0, none⟩ (.int .i64 m)).setCell ⟨w.heap.size + 1, 1, none⟩ (.slice ah ps.length ch)) := hO.marks.later fun b hb _ => by
          rw [heap_setCell_other _ ⟨w.heap.size + 1, 1, none⟩ b _ (fun e => by have e' : b = w.heap.size + 1 := e; omega), heap_setCell_other _ ⟨w.heap.size + 1, 0, none⟩ b _ (fun e => by have e' : b = w.heap.size + 1 := e; omega)]
        have hbf := below_set (i := 1) (u := .slice ah ps.length ch) (below_set (i := 0) (u := .int .i64 m) (later_trans H2.out.1 hO.bel) (show w.heap.size ≤ w.heap.size + 1 by omega)) (show w.heap.size ≤ w.heap.size + 1 by omega)
        have HF := Lib.hid (And.intro hb3 (And.intro hon (And.intro hma (And.intro hbf (And.intro hps (And.intro mRs hO.bel.size))))))
        clear hO hown hps mR hb3 hon hma hbf mRs
        go_wp2_with fail
        show LeavesInM _ _ _ _ _ _ _ _ _
        refine leaves_marks (B := W2.heap.size) (v := .tuple #[hypV m (.slice ah ps.length ch), .int .i64 0]) ds _ HF.out.2.2.1 (by simpa using HF.out.2.2.2.2.2.2) (fun W' hb => ?_)
        have hb4 := hb.cells _ _ _ _ HF.out.1
        have d0 := box_cell (i := 0) hb4
        have d1 := box_cell (i := 1) hb4
        simp at d0 d1
        refine ⟨by simp [results, Tryd.results18, go_sem, d0, d1], .slice ah ps.length ch, m, rfl, ?_, HF.out.2.2.2.1.trans (hb.bel.mono (by have := HF.out.2.2.2.2.2.1; omega))⟩
        have hw2 := H2.out.1.size
        simp only [Bool.and_self, if_true]
        exact ⟨trivial, ps, (hb.ownRK HF.out.2.1).down (by omega), HF.out.2.2.2.2.1⟩
end Go.Proofs.YtplidcbfbonjlaaDoor
