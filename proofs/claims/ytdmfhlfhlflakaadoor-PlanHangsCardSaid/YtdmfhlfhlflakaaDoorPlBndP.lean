/-
  A cover's bound, plainly: the least number that is enough; what is in memory while it is sought.
-/
import Derived.Test.YtdmfhlfhlflakaaDoorPlProd
namespace Go.Proofs.YtdmfhlfhlflakaaDoor
open Go.RowKit
set_option linter.unusedVariables false

theorem new_keptD {w w1 : World} {cs : Array Value} {t : TypeId} (hb : Below (w.alloc (.cells cs t)).drew.heap.size (w.alloc (.cells cs t)).drew w1) : w1.heap[w.heap.size]? = some (.cells cs t (0, 0)) :=
  (hb.block _ (by show w.heap.size < (w.alloc (.cells cs t)).heap.size; simp)).trans (box_new _ _ _)
theorem two_of {W : World} {X : Nat} {u0 u1 : Value} {t : TypeId} (h : W.heap[X]? = some (.cells #[u0, u1] t (0, 0))) : W.cell? ⟨X, 0, none⟩ = some u0 ∧ W.cell? ⟨X, 1, none⟩ = some u1 ∧ W.frozen? ⟨X, 0, none⟩ = false ∧ W.frozen? ⟨X, 1, none⟩ = false ∧ X < W.heap.size :=
  ⟨box_cell (i := 0) h, box_cell (i := 1) h, box_frozen h, box_frozen h, lt_of_block h⟩
theorem wrap_u64 {x : Int} (h : 0 ≤ x) (h' : x ≤ 18446744073709551615) : IntKind.u64.wrap x = x := by
  unfold IntKind.wrap
  simp [IntKind.signed, IntKind.bits]
  omega
open Classical in
/-- The least number that, multiplied by itself so many times, comes to at least n. -/
noncomputable def rootN (n o : Nat) : Nat := if h : ∃ b, n ≤ b ^ o then (least_of h).choose else 0
theorem rootN_eq {n o b : Nat} (ho : 1 ≤ o) (h1 : n ≤ b ^ o) (h2 : ∀ m, m < b → m ^ o < n) : rootN n o = b := by
  unfold rootN
  rw [dif_pos ⟨b, h1⟩]
  obtain ⟨g1, g2⟩ := (least_of (p := fun b => n ≤ b ^ o) ⟨b, h1⟩).choose_spec
  have g3 := g2 b h1
  by_cases h : (least_of (p := fun b => n ≤ b ^ o) ⟨b, h1⟩).choose < b
  · have := h2 _ h
    omega
  · omega
theorem rootN_of {n o low : Nat} (ho : 1 ≤ o) (h1 : low ^ o < n) (h2 : n ≤ (low + 1) ^ o) : rootN n o = low + 1 :=
  rootN_eq ho h2 fun m hm => Nat.lt_of_le_of_lt (Nat.pow_le_pow_left (by omega) o) h1

/-- The powers of the sizes. -/
def powL (zs ws : List Int) (k : Nat) : List Nat := (List.range k).map fun i => (max (zs.getD i 0) 1).toNat ^ (ws.getD i 0).toNat
theorem powL_succ (zs ws : List Int) (k : Nat) : powL zs ws (k + 1) = powL zs ws k ++ [(max (zs.getD k 0) 1).toNat ^ (ws.getD k 0).toNat] := by
  unfold powL
  rw [List.range_succ, List.map_append]; rfl
theorem powL_len (zs ws : List Int) (k : Nat) : (powL zs ws k).length = k := by simp [powL]
theorem powL_pos (zs ws : List Int) (k : Nat) : ∀ n ∈ powL zs ws k, 1 ≤ n := by
  intro n hn
  obtain ⟨i, -, rfl⟩ := List.mem_map.1 hn
  exact Nat.pow_pos (by omega)
/-- What must be come to. -/
def needN (S : Shp) (c : Cov) : Nat := prodTo (powL S.sizes c.ws S.sizes.length) S.sizes.length
theorem prodTo_app (l : List Nat) (x : Nat) : prodTo (l ++ [x]) (l.length + 1) = prodTo l l.length * x := by
  unfold prodTo
  rw [List.take_of_length_le (by simp), List.take_of_length_le (Nat.le_refl _), List.foldl_append]; rfl
theorem prodTo_pos {l : List Nat} (h : ∀ n ∈ l, 1 ≤ n) {k : Nat} (hk : k ≤ l.length) : 1 ≤ prodTo l k := by
  have := prodTo_mono h (k := 0) k (by omega)
  rw [Nat.zero_add, prodTo_zero] at this
  exact this
theorem needN_ge (S : Shp) (c : Cov) {k : Nat} (hk : k < S.sizes.length) : (max (S.sizes.getD k 0) 1).toNat ^ (c.ws.getD k 0).toNat ≤ needN S c := by
  unfold needN
  have hp := powL_pos S.sizes c.ws S.sizes.length
  have hl := powL_len S.sizes c.ws S.sizes.length
  have h1 := prodTo_mono hp (k := k + 1) (S.sizes.length - (k + 1)) (by omega)
  rw [show k + 1 + (S.sizes.length - (k + 1)) = S.sizes.length from by omega, prodTo_succ (by omega)] at h1
  have h2 := prodTo_pos hp (k := k) (by omega)
  have e : (powL S.sizes c.ws S.sizes.length)[k]'(by omega) = (max (S.sizes.getD k 0) 1).toNat ^ (c.ws.getD k 0).toNat := by simp [powL]
  rw [e] at h1
  exact Nat.le_trans (Nat.le_mul_of_pos_left _ h2) h1

noncomputable def boundE (S : Shp) (c : Cov) : Int := if shpB S = true then (if coversB S c = true then (if needN S c < 340282366920938463463374607431768211456 then 0 else 110) else 321) else 320
noncomputable def boundN (S : Shp) (c : Cov) : Nat := if boundE S c = 0 then rootN (needN S c) c.of.toNat else 0
noncomputable def boundV (S : Shp) (c : Cov) : Value := .tuple #[wv (boundN S c), .int .i64 (boundE S c)]

/-- A cover in a box. -/
def CB (w : World) (x : Nat) (wv : Value) (o : Int) : Prop := w.heap[x]? = some (.cells #[wv, .int .i64 o] 29 (0, 0))
/-- What stands while a bound is sought. -/
structure BndW (w : World) (m : Int) (ev sv wv : Value) (o : Int) (W : World) : Prop where
  bel : Below w.heap.size w W
  bs : SB W w.heap.size m ev sv
  bc : CB W (w.heap.size + 1) wv o
  br : W.heap[w.heap.size + 1 + 1]? = some (.cells #[.int .u64 0, .int .u64 0] 35 (0, 0))
section
variable {w W W' : World} {m o : Int} {ev sv wv : Value}
theorem BndW.later (h : BndW w m ev sv wv o W) (hb : Below W.heap.size W W') : BndW w m ev sv wv o W' := ⟨later_trans h.bel hb, kept hb h.bs, kept hb h.bc, kept hb h.br⟩
theorem BndW.start : BndW w m ev sv wv o (((w.alloc (.cells #[.int .i64 m, ev, sv] 27)).alloc (.cells #[wv, .int .i64 o] 29)).alloc (.cells #[.int .u64 0, .int .u64 0] 35)) := by
  refine ⟨later_trans (later_alloc w _) (later_trans (later_alloc _ _) (later_alloc _ _)), box_alloc (box_alloc (box_new w _ _) _) _, ?_, ?_⟩
  · have h := box_new (w.alloc (.cells #[.int .i64 m, ev, sv] 27)) #[wv, .int .i64 o] 29
    rw [World.size_alloc] at h
    exact box_alloc h _
  · have h := box_new ((w.alloc (.cells #[.int .i64 m, ev, sv] 27)).alloc (.cells #[wv, .int .i64 o] 29)) #[.int .u64 0, .int .u64 0] 35
    rw [World.size_alloc, World.size_alloc] at h
    exact h
/-- Its cells. -/
theorem BndW.cells (h : BndW w m ev sv wv o W) : W.cell? ⟨w.heap.size, 0, none⟩ = some (.int .i64 m) ∧ W.cell? ⟨w.heap.size, 1, none⟩ = some ev ∧ W.cell? ⟨w.heap.size, 2, none⟩ = some sv ∧ W.cell? ⟨w.heap.size + 1, 0, none⟩ = some wv ∧ W.cell? ⟨w.heap.size + 1, 1, none⟩ = some (.int .i64 o) :=
  ⟨box_cell (i := 0) h.bs, box_cell (i := 1) h.bs, box_cell (i := 2) h.bs, box_cell (i := 0) h.bc, box_cell (i := 1) h.bc⟩
theorem BndW.res (h : BndW w m ev sv wv o W) : W.cell? ⟨w.heap.size + 1 + 1, 0, none⟩ = some (.int .u64 0) ∧ W.cell? ⟨w.heap.size + 1 + 1, 1, none⟩ = some (.int .u64 0) ∧ W.frozen? ⟨w.heap.size + 1 + 1, 0, none⟩ = false ∧ W.frozen? ⟨w.heap.size + 1 + 1, 1, none⟩ = false ∧ w.heap.size + 1 + 1 < W.heap.size :=
  ⟨box_cell (i := 0) h.br, box_cell (i := 1) h.br, box_frozen h.br, box_frozen h.br, lt_of_block h.br⟩
theorem BndW.done (h : BndW w m ev sv wv o W) (u v : Value) : Below w.heap.size w ((W.setCell ⟨w.heap.size + 1 + 1, 0, none⟩ u).setCell ⟨w.heap.size + 1 + 1, 1, none⟩ v) :=
  below_set (below_set h.bel (by omega)) (by omega)
end
theorem info_wide : (Tryd.prog.info? 35).map (fun i => (i.zero, i.size, i.bytes)) = some (some (.agg #[.int .u64 0, .int .u64 0]), 2, 16) := by kernel_rfl
theorem wcells_one (ns : List Nat) : ∀ u ∈ ns.flatMap wcells, u.oneCell' = true := by
  intro u hu
  obtain ⟨n, -, hn⟩ := List.mem_flatMap.1 hu
  simp only [wcells, List.mem_cons, List.not_mem_nil, or_false] at hn
  rcases hn with rfl | rfl <;> rfl
end Go.Proofs.YtdmfhlfhlflakaaDoor
