/-
  PlanCovers, region 11: what stands of each operation that is listed; two wides are not the same. No walk.
-/
import Derived.Test.YtdmfhlfhlflakaaDoorPlCvJ
namespace Go.Proofs.YtdmfhlfhlflakaaDoor
open Go.RowKit
set_option linter.unusedVariables false

/-- A cover's box. -/
def boxC (B : Nat) (cs : Array Value) (w : World) (x : Value) : Prop := ∃ X : Nat, x = .pointer (some ⟨X, 0, none⟩) ∧ B ≤ X ∧ w.heap[X]? = some (.cells cs 29 (0, 0))
/-- What stands of each operation that is listed. -/
def cvG (B Z : Nat) (wv : Value) (o : Int) (ws : List Int) : Nat → Array Bool → Act → World → Prop
  | 0, L, a, w => a.eval (.tmp 88) = .pointer (some ⟨Z, 0, none⟩)
  | 1, L, a, w => a.eval (.tmp 89) = wv
  | 2, L, a, w => L.getD 4 false = false → rowC B 3 ws.length (ws.map (.int .i64)) w (a.eval (.tmp 90))
  | 3, L, a, w => L.getD 4 false = false → rowB 3 (.int .i64 0) w (a.eval (.tmp 91))
  | 4, L, a, w => rowG B 3 (ws.length + 1) (ws.map (.int .i64) ++ [.int .i64 0]) w (a.eval (.tmp 92))
  | 5, L, a, w => a.eval (.tmp 93) = .pointer (some ⟨Z, 1, none⟩)
  | 6, L, a, w => a.eval (.tmp 94) = .int .i64 o
  | 7, L, a, w => L.getD 4 false = true ∧ ∃ x, a.eval (.tmp 95) = .agg #[x, .int .i64 o] ∧ rowG B 3 (ws.length + 1) (ws.map (.int .i64) ++ [.int .i64 0]) w x
  | 8, L, a, w => L.getD 9 false = false → boxC B #[.slice none 0 0, .int .i64 0] w (a.eval (.tmp 11))
  | 9, L, a, w => (L.getD 8 false = true ∧ L.getD 4 false = true) ∧ ∃ x, boxC B #[x, .int .i64 o] w (a.eval (.tmp 11)) ∧ rowG B 3 (ws.length + 1) (ws.map (.int .i64) ++ [.int .i64 0]) w x
  | _, L, a, w => True
/-- The slot that an operation's fact speaks of. -/
def cgD : Nat → Nat
  | 0 => 88 | 1 => 89 | 2 => 90 | 3 => 91 | 4 => 92 | 5 => 93 | 6 => 94 | 7 => 95 | 8 => 11 | 9 => 11
  | _ => 0
section
variable {B Z : Nat} {wv : Value} {o : Int} {ws : List Int} {L : Array Bool} {a : Act} {w w' : World}
theorem boxC.later {cs : Array Value} {x : Value} (h : boxC B cs w x) (hb : Below w.heap.size w w') : boxC B cs w' x := by
  obtain ⟨b, e, hB, ho⟩ := h
  exact ⟨b, e, hB, kept hb ho⟩
/-- The same frame's reads, a later world, no less listed. -/
theorem cvG_keep {L' : Array Bool} {a' : Act} {j : Nat} (h : cvG B Z wv o ws j L a w) (he : j < 10 → a'.eval (.tmp (cgD j)) = a.eval (.tmp (cgD j))) (hL : ∀ j, L'.getD j false = false → L.getD j false = false) (hb : Below w.heap.size w w') : cvG B Z wv o ws j L' a' w' := by
  match j, he, h with
  | 0, he, h => exact (he (by decide)).trans h
  | 1, he, h => exact (he (by decide)).trans h
  | 2, he, h => exact fun hl => by have h2 := (h (hL 4 hl)).later hb; rw [← (show a'.eval (.tmp 90) = a.eval (.tmp 90) from he (by decide))] at h2; exact h2
  | 3, he, h => exact fun hl => by have h2 := (h (hL 4 hl)).later hb; rw [← (show a'.eval (.tmp 91) = a.eval (.tmp 91) from he (by decide))] at h2; exact h2
  | 4, he, h => have h2 := rowG.later h hb; rw [← (show a'.eval (.tmp 92) = a.eval (.tmp 92) from he (by decide))] at h2; exact h2
  | 5, he, h => exact (he (by decide)).trans h
  | 6, he, h => exact (he (by decide)).trans h
  | 7, he, h => obtain ⟨h4, x, e, hx⟩ := h; exact ⟨up hL h4, x, (he (by decide)).trans e, hx.later hb⟩
  | 8, he, h => exact fun hl => by have h2 := (h (hL 9 hl)).later hb; rw [← (show a'.eval (.tmp 11) = a.eval (.tmp 11) from he (by decide))] at h2; exact h2
  | 9, he, h =>
    obtain ⟨⟨h8, h4⟩, x, hB, hx⟩ := h
    refine ⟨⟨up hL h8, up hL h4⟩, x, ?_, hx.later hb⟩
    have h2 := hB.later hb; rw [← (show a'.eval (.tmp 11) = a.eval (.tmp 11) from he (by decide))] at h2; exact h2
  | _ + 10, _, _ => trivial
/-- The append: the facts of all others. -/
theorem cvG_app {B' n' : Nat} {ys : List Value} {v : Value} {L' : Array Bool} {a' : Act} {j : Nat} (h : cvG B Z wv o ws j L a w) (hj : j ≠ 4) (h0 : L.getD 4 false = false) (h1 : L'.getD 4 false = true) (he : j < 10 → a'.eval (.tmp (cgD j)) = a.eval (.tmp (cgD j))) (hL : ∀ j, L'.getD j false = false → L.getD j false = false) (ho : w.ownsRow B' 3 1 v n' ys) (hg : w.grownBy w' v.ownBlock) : cvG B Z wv o ws j L' a' w' := by
  match j, he, h, hj with
  | 0, he, h, _ => exact (he (by decide)).trans h
  | 1, he, h, _ => exact (he (by decide)).trans h
  | 2, he, h, _ => exact fun hl => by rw [h1] at hl; cases hl
  | 3, he, h, _ => exact fun hl => by rw [h1] at hl; cases hl
  | 4, he, h, hj => exact absurd rfl hj
  | 5, he, h, _ => exact (he (by decide)).trans h
  | 6, he, h, _ => exact (he (by decide)).trans h
  | 7, he, h, _ => exact absurd h.1 (by rw [h0]; decide)
  | 8, he, h, _ =>
    intro hl
    obtain ⟨X, e, hB, hx⟩ := h (hL 9 hl)
    exact ⟨X, (show a'.eval (.tmp 11) = a.eval (.tmp 11) from he (by decide)).trans e, hB, box_grown ho hg hx (by decide)⟩
  | 9, he, h, _ => exact absurd h.1.2 (by rw [h0]; decide)
  | _ + 10, _, _, _ => trivial
/-- A store into the cover's box: the facts of all others. -/
theorem cvG_box {w2 : World} {L' : Array Bool} {j : Nat} (h : cvG B Z wv o ws j L a w) (hj : j ≠ 9) (h1 : L'.getD 9 false = true) (hL : ∀ j, L'.getD j false = false → L.getD j false = false) (ho : ∀ (t : TypeId) (n : Nat) (v : Value) (xs : List Value), t ≠ 29 → w.ownsRow B t 1 v n xs → w2.ownsRow B t 1 v n xs)
    (hb : ∀ (t : TypeId) (u : Value) (b : Nat), t ≠ 29 → w.heap[b]? = some (.cells #[u] t (0, 0)) → w2.heap[b]? = some (.cells #[u] t (0, 0))) : cvG B Z wv o ws j L' a w2 := by
  match j, h, hj with
  | 0, h, _ => exact h
  | 1, h, _ => exact h
  | 2, h, _ =>
    intro hl
    obtain ⟨av, cv, e, hx⟩ := h (hL 4 hl)
    exact ⟨av, cv, e, ho _ _ _ _ (by decide) hx⟩
  | 3, h, _ =>
    intro hl
    obtain ⟨b, e, hx⟩ := h (hL 4 hl)
    exact ⟨b, e, hb _ _ _ (by decide) hx⟩
  | 4, h, _ => obtain ⟨g, cap, e, hx⟩ := h; exact ⟨g, cap, e, ho _ _ _ _ (by decide) hx⟩
  | 5, h, _ => exact h
  | 6, h, _ => exact h
  | 7, h, _ => obtain ⟨h4, x, e, g, cap, e2, hx⟩ := h; exact ⟨up hL h4, x, e, g, cap, e2, ho _ _ _ _ (by decide) hx⟩
  | 8, h, _ => exact fun hl => by rw [h1] at hl; cases hl
  | 9, h, hj => exact absurd rfl hj
  | _ + 10, _, _ => trivial
/-- The region's slots. -/
abbrev cgS : List Nat := [88, 89, 90, 91, 92, 93, 94, 95, 11]
theorem cgD_ne : ∀ i, i < 9 → ∀ j, j < 9 → j ≠ i → cgD i ≠ cgD j := by decide
theorem cgD_in : ∀ i, i < 9 → cgD i ∈ cgS := by decide
theorem cg_put {i j : Nat} (hi : i < 9) (h0 : L.getD i true = false) (hj : j < 10) (hne : j ≠ i) (hf : cvG B Z wv o ws j L a w) (v : Value) : (a.put (some (cgD i)) v).eval (.tmp (cgD j)) = a.eval (.tmp (cgD j)) := by
  refine Inv.eval_put_ne ?_ v
  rcases Nat.lt_or_ge j 9 with h | h
  · exact cgD_ne i hi j h hne
  · obtain rfl : j = 9 := by omega
    by_cases h8 : i = 8
    · subst h8
      have h1 : L.getD 8 false = true := hf.1.1
      rw [false_of h0] at h1
      cases h1
    · have : cgD 9 = cgD 8 := rfl
      rw [this]
      exact cgD_ne i hi 8 (by decide) (fun e => h8 e.symm)
/-- An operation that writes nothing old. -/
theorem cg_step {a0 : Act} {i : Nat} {v : Value} (hF : Inv.Fa 10 a0 cgS (cvG B Z wv o ws) L a w) (hi : i < 9) (h0 : L.getD i true = false) (hb : Below w.heap.size w w') (new : cvG B Z wv o ws i (L.setIfInBounds i true) (a.put (some (cgD i)) v) w') : Inv.Fa 10 a0 cgS (cvG B Z wv o ws) (L.setIfInBounds i true) (a.put (some (cgD i)) v) w' :=
  hF.step h0 (cgD_in i hi) (fun j hj hne hl hf => cvG_keep hf (fun _ => cg_put hi h0 hj hne hf v) (set_less h0) hb) new
/-- The operation that writes the box. -/
theorem cg_store {a0 : Act} {X : Nat} {x : Value} (hF : Inv.Fa 10 a0 cgS (cvG B Z wv o ws) L a w) (h0 : L.getD 9 true = false) (l8 : L.getD 8 false = true) (l4 : L.getD 4 false = true) (e : a.eval (.tmp 11) = .pointer (some ⟨X, 0, none⟩)) (hBX : B ≤ X) (hX : w.heap[X]? = some (.cells #[.slice none 0 0, .int .i64 0] 29 (0, 0)))
    (gx : rowG B 3 (ws.length + 1) (ws.map (.int .i64) ++ [.int .i64 0]) w x) :
    Inv.Fa 10 a0 cgS (cvG B Z wv o ws) (L.setIfInBounds 9 true) a ((w.setCell ⟨X, 0, none⟩ x).setCell ⟨X, 1, none⟩ (.int .i64 o)) := by
  have hl1 : (L.setIfInBounds 9 true).getD 9 false = true := by rw [Inv.listed_set h0]; simp
  have b1 := box_set (i := 0) hX x
  have b2 := box_set (i := 1) b1 (.int .i64 o)
  have ho : ∀ (t : TypeId) (n : Nat) (v : Value) (xs : List Value), t ≠ 29 → w.ownsRow B t 1 v n xs → ((w.setCell ⟨X, 0, none⟩ x).setCell ⟨X, 1, none⟩ (.int .i64 o)).ownsRow B t 1 v n xs := fun t n v xs hne h => own_set (own_set h hX hne _) b1 hne _
  have hb : ∀ (t : TypeId) (u : Value) (b : Nat), t ≠ 29 → w.heap[b]? = some (.cells #[u] t (0, 0)) → ((w.setCell ⟨X, 0, none⟩ x).setCell ⟨X, 1, none⟩ (.int .i64 o)).heap[b]? = some (.cells #[u] t (0, 0)) := by
    intro t u b hne h
    have hbX : b ≠ X := by
      intro e
      subst e
      rw [h] at hX
      injection hX with hX
      injection hX with h1 h2
      exact hne h2
    exact box_other (box_other h hbX _) hbX _
  refine hF.step0 h0 (fun j hj hne hl hf => cvG_box hf hne hl1 (set_less h0) ho hb) ?_
  obtain ⟨g1, c1, e1, o1⟩ := gx
  refine ⟨⟨up (set_less h0) l8, up (set_less h0) l4⟩, x, ⟨X, e, hBX, ?_⟩, ⟨g1, c1, e1, ho _ _ _ _ (by decide) o1⟩⟩
  simpa using b2
end
/-- An operation that is wanted, whatever its guard. -/
theorem wpList_wanted {P : Program} {ops : Array Oper} {Q : Exit → Act → World → Prop} {a : Act} {w : World} {rest : List Oper} {o : Oper} (hw : Region.wanted o (yielded ops a.tmps) = true) (h : ∀ K : Act → World → Prop, (∀ a w, wpList P ops Q rest a w → K a w) → o.wp P a w K Q) : wpList P ops Q (o :: rest) a w :=
  wpList_step fun K hK => by rw [if_pos hw]; exact h K hK
theorem owns_some {w : World} {base : Nat} {e : TypeId} {v : Value} {n : Nat} {xs : List Value} (h : w.ownsRow base e 1 v n xs) (h0 : 0 < n) : ∃ g c, v = .slice (some ⟨g, 0, none⟩) n c ∧ base ≤ g := by
  obtain ⟨j, rfl⟩ : ∃ j, n = j + 1 := ⟨n - 1, by omega⟩
  obtain ⟨g, c, rfl⟩ := ownsRow_succ h
  exact ⟨g, c, rfl, owns_above h g rfl⟩
/-- What stands while the weights are doubled. -/
structure TwW (wC : World) (M : Nat) (o2 : Int) (ws : List Int) (k : Nat) (W : World) : Prop where
  bel : Below wC.heap.size wC W
  box : ∃ v, CB W M v o2 ∧ W.ownsRow (M + 1) 3 1 v k (((ws.take k).map (2 * ·)).map (.int .i64))
theorem TwW.next {wC W W6 : World} {M k g6 cap6 : Nat} {o2 x : Int} {ws : List Int} {v : Value} (h : TwW wC M o2 ws k W) (hM : wC.heap.size ≤ M) (hB : CB W M v o2) (ho : W.ownsRow (M + 1) 3 1 v k (((ws.take k).map (2 * ·)).map (.int .i64))) (hk : k < ws.length) (e : ws.getD k 0 = x)
    (hown : W6.ownsRow (M + 1) 3 1 (.slice (some ⟨g6, 0, none⟩) (k + 1) cap6) (k + 1) (((ws.take k).map (2 * ·)).map (.int .i64) ++ [.int .i64 (2 * x)])) (hg : (W.alloc (.cells #[.int .i64 (2 * x)] 3)).grownBy W6 v.ownBlock) :
    TwW wC M o2 ws (k + 1) (W6.setCell ⟨M, 0, none⟩ (.slice (some ⟨g6, 0, none⟩) (k + 1) cap6)) := by
  have hA := later_alloc W (.cells #[.int .i64 (2 * x)] 3)
  have hoA := owns_later ho hA
  have hM6 := box_grown hoA hg (kept hA hB) (by decide)
  have hsz := h.bel.size
  have hszA := hA.size
  refine ⟨below_set ((later_trans h.bel hA).grown hg (by omega) (fun q e => by have := owns_above hoA q e; omega)) hM, .slice (some ⟨g6, 0, none⟩) (k + 1) cap6, ?_, ?_⟩
  · have := box_set (i := 0) hM6 (.slice (some ⟨g6, 0, none⟩) (k + 1) cap6)
    simpa [CB] using this
  · have h2 := own_set (i := 0) hown hM6 (by decide) (.slice (some ⟨g6, 0, none⟩) (k + 1) cap6)
    rw [List.take_succ_eq_append_getElem hk, List.map_append, List.map_append]
    have e2 : ws[k] = x := by rw [← getD_at hk]; exact e
    rw [e2]
    exact h2
theorem neq_wide (h l h' l' : Int) (w : World) : (binOp .neq 35 (.agg #[.int .u64 h, .int .u64 l]) (.agg #[.int .u64 h', .int .u64 l'])).run Tryd.prog w = .ok (.bool (!(decide (h = h') && decide (l = l')))) w := by
  have u := Tryd.underlying33
  have hS : Tryd.prog.underlying 35 = some (.struct (Tryd.prog.fieldsOf 35)) := by kernel_rfl
  have hp : Tryd.prog.stoodInHeld 35 = false := by kernel_rfl
  rw [run_neq_struct, show (10000 : Nat) = 9999 + 1 from rfl, run_equalIn_agg w 9999 35 _ _ hS hp]
  simp only [Program.fieldsOf, Tryd.underlying35]
  go_simp
  by_cases ha : h = h' <;> by_cases hb : l = l' <;> simp [ha, hb]
theorem guardn_wide (x y : Operand) (xs ys : Array Value) (w : World) : (eqGuard .neq 35 x y (.agg xs) (.agg ys)).run Tryd.prog w = .ok () w := run_eqGuard_agg w .neq 35 x y xs ys (by kernel_rfl)
end Go.Proofs.YtdmfhlfhlflakaaDoor
