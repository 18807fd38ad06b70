/-
  The cursor's moves open, walked.
-/
import Derived.Test.YtdfnfdgkhflonaaCuB
import Derived.Deep.AppendLies
namespace Go.Proofs.Ytdfnfdgkhflonaa
open Go.RowKit
set_option linter.unusedVariables false

theorem info_row : (Try.prog.info? 112).map (fun i => (i.zero, i.size, i.bytes)) = some (some (.agg #[.slice none 0 0, .int .i64 0]), 2, 32) := by kernel_rfl

/-- A row more. -/
theorem CuS.push {w w6 : World} {c N g cap n : Nat} {rv : Value} {st : Int} {kv bv lv : Value} {rs : List (Value × Int)} {v : Value} (h : CuS w c N rv st kv bv lv rs) (hn : rs.length = n)
    (hown : w6.ownsRow N 112 2 (.slice (some ⟨g, 0, none⟩) (n + 1) cap) (n + 1) (rowCells rs ++ [v, .int .i64 0])) (cs : Array Value) (hg : (w.alloc (.cells cs 112)).grownBy w6 rv.ownBlock) (hat : rv.ownBlock = some g ∨ g = (w.alloc (.cells cs 112)).heap.size) :
    CuS ((w6.setCell ⟨c, 0, none⟩ (.slice (some ⟨g, 0, none⟩) (n + 1) cap)).setCell ⟨c, 1, none⟩ (.int .i64 (st + 1))) c N (.slice (some ⟨g, 0, none⟩) (n + 1) cap) (st + 1) kv bv lv (rs ++ [(v, 0)]) ∧
      Turn w ((w6.setCell ⟨c, 0, none⟩ (.slice (some ⟨g, 0, none⟩) (n + 1) cap)).setCell ⟨c, 1, none⟩ (.int .i64 (st + 1))) c rv (.slice (some ⟨g, 0, none⟩) (n + 1) cap) := by
  have hb1 := box_alloc h.box (.cells cs 112)
  have hb6 : w6.heap[c]? = _ := box_grown (h.own.alloc _) hg hb1 (by decide)
  have hs := h.size
  have hz := hg.size
  have hza : (w.alloc (.cells cs 112)).heap.size = w.heap.size + 1 := by simp
  have h6 : CuS w6 c N rv st kv bv lv rs ∨ True := .inr trivial
  refine ⟨?_, ?_⟩
  · have k0 : (w6.setCell ⟨c, 0, none⟩ (.slice (some ⟨g, 0, none⟩) (n + 1) cap)).heap[c]? = some (.cells #[.slice (some ⟨g, 0, none⟩) (n + 1) cap, .int .i64 st, kv, bv, lv] 100 (0, 0)) := by simpa using box_set (i := 0) hb6 _
    have o0 := own_set (i := 0) hown hb6 (by decide) (.slice (some ⟨g, 0, none⟩) (n + 1) cap)
    refine ⟨by simpa using box_set (i := 1) k0 (.int .i64 (st + 1)), h.low, by simp; omega, ?_⟩
    have e : (rs ++ [(v, (0 : Int))]).length = n + 1 := by simp [hn]
    rw [e, rowCells_snoc]
    exact own_set o0 k0 (by decide) _
  · refine ⟨hg.os, hg.tape, hg.output, by simp; omega, fun b hb hc hr => ?_, ?_⟩
    · rw [Below.heap_setCell _ _ _ _ (by exact hc), Below.heap_setCell _ _ _ _ (by exact hc), hg.block b (by omega) hr, Below.heap_alloc _ _ _ hb]
    · rcases hat with e | e
      · exact .inl e.symm
      · right; intro b hb; simp [Value.ownBlock] at hb; omega

theorem CuS.boxAfter {w w6 : World} {c N : Nat} {rv : Value} {st : Int} {kv bv lv : Value} {rs : List (Value × Int)} (h : CuS w c N rv st kv bv lv rs) (cs : Array Value) (hg : (w.alloc (.cells cs 112)).grownBy w6 rv.ownBlock) :
    w6.cell? ⟨c, 0, none⟩ = some rv ∧ w6.cell? ⟨c, 1, none⟩ = some (.int .i64 st) ∧ w6.frozen? ⟨c, 0, none⟩ = false ∧ w6.frozen? ⟨c, 1, none⟩ = false := by
  have hb6 : w6.heap[c]? = _ := box_grown (h.own.alloc _) hg (box_alloc h.box (.cells cs 112)) (by decide)
  exact ⟨by simpa using box_cell (i := 0) hb6, by simpa using box_cell (i := 1) hb6, box_frozen hb6, box_frozen hb6⟩

set_option maxRecDepth 100000 in
set_option maxHeartbeats 1000000 in
/-- open, at the root. -/
theorem open_root {w : World} {c N : Nat} {rv : Value} {st : Int} {bv lv : Value} {ka : Option Addr} {len kc : Nat} {key : Int} (h : CuS w c N rv st (.slice ka len kc) bv lv [])
    (hs0 : 0 ≤ st) (hs : st ≤ 4611686018427387904) :
    Calls Try.prog 73 #[.pointer (some ⟨c, 0, none⟩), .int .u64 key] w fun e w' => e = .returned (.tuple #[]) ∧ ∃ rv', CuS w' c N rv' (st + 1) (.slice ka len kc) bv lv [(.slice ka len kc, 0)] ∧ Turn w w' c rv rv' := by
  obtain ⟨i0, hi, hz0, hz1, hz2⟩ := info_parts info_row
  obtain ⟨ra, cap, rfl⟩ := h.bare
  obtain ⟨b0, b1, b2, b3, b4, bf⟩ := h.cells
  have hn := need_ok 2
  have hf0 := bf 0
  have hf1 := bf 1
  have hown := h.own
  have hsz := h.size
  have H := Lib.hid h
  clear h bf
  go_enter Try.func73, Try.ntmps73
  go_wp2_with (first
    | (go_at_call 106; refine (hn _).mono ?_; rintro e w' ⟨rfl, rfl⟩)
    | (at_builtin; refine wpList_append_lies _ rfl (.tmp 54) (.tmp 57) 96 rfl N 112 i0 _ 2 32 Try.underlying96 hi hz0 hz1 hz2 rfl (by decide) (.slice ra 0 cap) 0 [] rfl (hown.alloc _) ⟨_, 0, none⟩ 1 1 [.slice ka len kc, .int .i64 0] rfl rfl (cells_new _ _ _) (by simp [Value.oneCell']) (by omega) (by unfold maxLen; omega) (by omega) (by simp; omega) _ rfl ?_; intro g cap6 w6 hown6 hgrow6 hat6 hlt6; obtain ⟨q0, q1, q2, q3⟩ := H.out.boxAfter _ hgrow6))
  try go_end0
  obtain ⟨k1, k2⟩ := H.out.push (v := .slice ka len kc) rfl hown6 _ hgrow6 hat6
  exact ⟨rfl, _, k1, k2⟩
theorem CuS.alloc {w : World} {c N : Nat} {rv : Value} {st : Int} {kv bv lv : Value} {rs : List (Value × Int)} (h : CuS w c N rv st kv bv lv rs) (o : Obj) : CuS (w.alloc o) c N rv st kv bv lv rs :=
  ⟨box_alloc h.box o, h.low, by have := h.size; simp; omega, h.own.alloc o⟩
theorem CuS.later {w w' : World} {c N : Nat} {rv : Value} {st : Int} {kv bv lv : Value} {rs : List (Value × Int)} (h : CuS w c N rv st kv bv lv rs) (hb : Below w.heap.size w w') : CuS w' c N rv st kv bv lv rs :=
  ⟨(hb.block c (lt_of_block h.box)).trans h.box, h.low, Nat.le_trans h.size hb.size, owns_later h.own hb⟩

theorem box_new3 {w : World} {b : Nat} {e : TypeId} (h : w.heap[b]? = some (.cells #[.int .u64 0, .int .i64 0, .int .i64 0] e (0, 0))) (x y z : Value) :
    (((w.setCell ⟨b, 0, none⟩ x).setCell ⟨b, 1, none⟩ y).setCell ⟨b, 2, none⟩ z).heap[b]? = some (.cells #[x, y, z] e (0, 0)) := by
  simpa using box_set (i := 2) (box_set (i := 1) (box_set (i := 0) h x) y) z
theorem below_new3 {B : Nat} {w W : World} {b : Nat} (h : Below B w W) (hb : B ≤ b) (x y z : Value) : Below B w (((W.setCell ⟨b, 0, none⟩ x).setCell ⟨b, 1, none⟩ y).setCell ⟨b, 2, none⟩ z) :=
  ((h.setCell (p := ⟨b, 0, none⟩) hb _).setCell (p := ⟨b, 1, none⟩) hb _).setCell (p := ⟨b, 2, none⟩) hb _

set_option maxRecDepth 100000 in
set_option maxHeartbeats 1000000 in
/-- open, at a branch. -/
theorem open_leaf {w : World} {c N : Nat} {rv : Value} {st : Int} {kv : Value} {ka ba la : Option Addr} {len kc bn bc ln lc : Nat} {key : Int} {i bb bo lb lo f t : Nat} {k : Int}
    (h : CuS w c N rv st kv (.slice ba bn bc) (.slice la ln lc) [(.slice ka len kc, (i : Int))])
    (hi1 : i < len) (hi2 : i < bn) (hba : ba = some ⟨bb, bo, none⟩) (hc0 : w.cell? ⟨bb, bo + i * 3, none⟩ = some (.int .u64 k)) (hc1 : w.cell? ⟨bb, bo + i * 3 + 1, none⟩ = some (.int .i64 f)) (hc2 : w.cell? ⟨bb, bo + i * 3 + 2, none⟩ = some (.int .i64 t))
    (hla : la = some ⟨lb, lo, none⟩) (hft : f < t) (htl : t ≤ lc) (hlc : lc ≤ maxLen)
    (hs0 : 0 ≤ st) (hs : st ≤ 4611686018427387904) :
    Calls Try.prog 73 #[.pointer (some ⟨c, 0, none⟩), .int .u64 key] w fun e w' => e = .returned (.tuple #[]) ∧ ∃ rv', CuS w' c N rv' (st + 1) kv (.slice ba bn bc) (.slice la ln lc) [(.slice ka len kc, (i : Int)), (.slice (some ⟨lb, lo + f, none⟩) (t - f) (t - f), 0)] ∧ Turn w w' c rv rv' := by
  obtain ⟨i0, hi, hz0, hz1, hz2⟩ := info_parts info_row
  subst hba hla
  obtain ⟨g, cap, rfl, hN, hg, g0, g1, gf, hcap, hcm⟩ := CuS.last (rs := []) (k := 0) h rfl
  simp only [Nat.zero_add] at g0 g1 h
  obtain ⟨b0, b1, b2, b3, b4, bf⟩ := h.cells
  have hn := fun W => (need_ok 2 W).mono (fun e w' ⟨h1, h2⟩ => (⟨h1, h2.symm⟩ : e = Ending.returned (.tuple #[]) ∧ W = w'))
  have hO := fun W (hb : Below w.heap.size w W) => on_ok c g 0 cap len kc ka i W (by omega) ((hb.cell (p := ⟨c, 0, none⟩) (lt_of_block h.box)).trans b0) ((hb.cell (p := ⟨g, 0, none⟩) hg).trans g0) ((hb.cell (p := ⟨g, 1, none⟩) hg).trans g1) (by omega)
  have hf0 := bf 0
  have hf1 := bf 1
  have hown := h.own
  have hsz := h.size
  have hib : (i : Int) < bn := by omega
  have hftI : (f : Int) ≤ t := by omega
  have htlI : (t : Int) ≤ lc := by omega
  have htf : ¬ t = f := by omega
  have hS : ∀ W, Below w.heap.size w W → W.cell? ⟨c, 3, none⟩ = some (.slice (some ⟨bb, bo, none⟩) bn bc) ∧ W.cell? ⟨g, 1, none⟩ = some (.int .i64 i) ∧ W.cell? ⟨bb, bo + i * 3, none⟩ = some (.int .u64 k) ∧ W.cell? ⟨bb, bo + i * 3 + 1, none⟩ = some (.int .i64 f) ∧ W.cell? ⟨bb, bo + i * 3 + 2, none⟩ = some (.int .i64 t) := fun W hb =>
    ⟨(hb.cell (p := ⟨c, 3, none⟩) (lt_of_block h.box)).trans b3, (hb.cell (p := ⟨g, 1, none⟩) hg).trans g1, (hb.cell (World.block_lt_of_cell? w _ hc0)).trans hc0, (hb.cell (World.block_lt_of_cell? w _ hc1)).trans hc1, (hb.cell (World.block_lt_of_cell? w _ hc2)).trans hc2⟩
  have H := Lib.hid h
  have HO := Lib.hid hO
  have HS := Lib.hid hS
  clear h bf hO hS
  go_enter Try.func73, Try.ntmps73
  go_wp2_with (first
    | (go_at_call 106; refine (hn _).mono ?_; rintro e w' ⟨rfl, rfl⟩))
  go_region_held3 (fun W => W.cell? ⟨c, 3, none⟩ = some (.slice (some ⟨bb, bo, none⟩) bn bc) ∧ W.cell? ⟨g, 1, none⟩ = some (.int .i64 i) ∧ W.cell? ⟨bb, bo + i * 3, none⟩ = some (.int .u64 k) ∧ W.cell? ⟨bb, bo + i * 3 + 1, none⟩ = some (.int .i64 f) ∧ W.cell? ⟨bb, bo + i * 3 + 2, none⟩ = some (.int .i64 t))
    (with_reducible (first | exact HS.out _ (Below.refl _ _) | exact HS.out _ (later_drew _) | exact HS.out _ hbF | exact HS.out _ (hbF.alloc hbF.size _) | exact HS.out _ (below_new3 (hbF.alloc hbF.size _) hbF.size _ _ _) | exact HS.out _ (below_new3 hbF (Nat.le_refl _) _ _ _) | exact HS.out _ (later_trans (later_drew _) (later_alloc _ _)) | exact HS.out _ (later_trans (later_alloc _ _) (later_drew _)) | assumption))
    (first
      | (go_at_call 107; refine (HO.out _ (later_drew _)).mono ?_; rintro e wF ⟨rfl, n, hwF⟩; have hbF : Below w.heap.size w wF := (by rw [hwF]; exact later_trans (later_drew _) (later_drewN _ n)); clear hwF)
      | (go_at_call 107; refine (HO.out _ (later_trans (later_alloc _ _) (later_drew _))).mono ?_; rintro e wF ⟨rfl, n, hwF⟩; have hbF : Below w.heap.size w wF := (by rw [hwF]; exact later_trans (later_trans (later_alloc _ _) (later_drew _)) (later_drewN _ n)); have hbn : wF.heap[w.heap.size]? = some (.cells #[.int .u64 0, .int .i64 0, .int .i64 0] 40 (0, 0)) := (by rw [hwF]; exact box_new w _ _); have n0 := box_cell (i := 0) hbn; have n1 := box_cell (i := 1) hbn; have n2 := box_cell (i := 2) hbn; simp at n0 n1 n2; have m0 := box_frozen (i := 0) hbn; have m1 := box_frozen (i := 1) hbn; have m2 := box_frozen (i := 2) hbn; clear hwF))
  · have hb3 := hbF.alloc hbF.size (.cells #[.int .u64 k, .int .i64 f, .int .i64 t] 40)
    have hx := box_new wF #[.int .u64 k, .int .i64 f, .int .i64 t] 40
    rename_i hHeld
    clear hHeld
    generalize wF.alloc (.cells #[.int .u64 k, .int .i64 f, .int .i64 t] 40) = W3 at hb3 hx ⊢
    generalize wF.heap.size = X at hx ⊢
    clear hbF
    have H3 := Lib.hid (H.out.later hb3)
    obtain ⟨d0, d1, d2, d3, d4, df⟩ := H3.out.cells
    have x1 := box_cell (i := 1) hx
    have x2 := box_cell (i := 2) hx
    simp at x1 x2
    have hf0 := df 0
    have hf1 := df 1
    have hown := H3.out.own
    have hsz := H3.out.size
    clear df hx
    go_wp2
    go_quiet (fail)
    trace_state
    go_wp2_with (at_builtin; refine wpList_append_lies _ rfl (.tmp 54) (.tmp 57) 96 rfl N 112 i0 _ 2 32 Try.underlying96 hi hz0 hz1 hz2 rfl (by decide) (.slice (some ⟨g, 0, none⟩) 1 cap) 1 _ rfl ((owns_drewN hown nq).alloc _) ⟨_, 0, none⟩ 1 1 [.slice (some ⟨lb, lo + f, none⟩) (t - f) (t - f), .int .i64 0] rfl rfl (cells_new _ _ _) (by simp [Value.oneCell']) (by omega) (by unfold maxLen; omega) (by omega) (by simp; omega) _ rfl ?_; intro g6 cap6 w6 hown6 hgrow6 hat6 hlt6; obtain ⟨q0, q1, q2, q3⟩ := (H3.out.drewN nq).boxAfter _ hgrow6)
    try go_end0
    obtain ⟨k1, k2⟩ := (H3.out.drewN nq).push (v := .slice (some ⟨lb, lo + f, none⟩) (t - f) (t - f)) rfl hown6 _ hgrow6 hat6
    exact ⟨rfl, _, k1, ((Turn.of_below hb3 c _).trans (Turn.drewN W3 nq c _)).trans k2⟩
  · have hb3 := below_new3 hbF (Nat.le_refl _) (.int .u64 k) (.int .i64 f) (.int .i64 t)
    have hx := box_new3 hbn (.int .u64 k) (.int .i64 f) (.int .i64 t)
    rename_i hHeld
    clear hHeld n0 n1 n2 m0 m1 m2 hbn
    generalize (((wF.setCell ⟨w.heap.size, 0, none⟩ (.int .u64 k)).setCell ⟨w.heap.size, 1, none⟩ (.int .i64 f)).setCell ⟨w.heap.size, 2, none⟩ (.int .i64 t)) = W3 at hb3 hx ⊢
    obtain ⟨X, hX⟩ : ∃ X, w.heap.size = X := ⟨_, rfl⟩
    rw [hX] at hx
    simp only [hX]
    clear hbF hX
    have H3 := Lib.hid (H.out.later hb3)
    obtain ⟨d0, d1, d2, d3, d4, df⟩ := H3.out.cells
    have x1 := box_cell (i := 1) hx
    have x2 := box_cell (i := 2) hx
    simp at x1 x2
    have hf0 := df 0
    have hf1 := df 1
    have hown := H3.out.own
    have hsz := H3.out.size
    clear df hx
    go_wp2
    go_quiet (fail)
    trace_state
    go_wp2_with (at_builtin; refine wpList_append_lies _ rfl (.tmp 54) (.tmp 57) 96 rfl N 112 i0 _ 2 32 Try.underlying96 hi hz0 hz1 hz2 rfl (by decide) (.slice (some ⟨g, 0, none⟩) 1 cap) 1 _ rfl ((owns_drewN hown nq).alloc _) ⟨_, 0, none⟩ 1 1 [.slice (some ⟨lb, lo + f, none⟩) (t - f) (t - f), .int .i64 0] rfl rfl (cells_new _ _ _) (by simp [Value.oneCell']) (by omega) (by unfold maxLen; omega) (by omega) (by simp; omega) _ rfl ?_; intro g6 cap6 w6 hown6 hgrow6 hat6 hlt6; obtain ⟨q0, q1, q2, q3⟩ := (H3.out.drewN nq).boxAfter _ hgrow6)
    try go_end0
    obtain ⟨k1, k2⟩ := (H3.out.drewN nq).push (v := .slice (some ⟨lb, lo + f, none⟩) (t - f) (t - f)) rfl hown6 _ hgrow6 hat6
    exact ⟨rfl, _, k1, ((Turn.of_below hb3 c _).trans (Turn.drewN W3 nq c _)).trans k2⟩
end Go.Proofs.Ytdfnfdgkhflonaa