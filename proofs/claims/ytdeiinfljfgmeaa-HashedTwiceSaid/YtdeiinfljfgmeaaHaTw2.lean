/-
  'a, b := own(x), own(y)': what stands of each operation that is listed. No walk.
-/
import Derived.Test.YtdeiinfljfgmeaaInv2
import Derived.Test.YtdeiinfljfgmeaaHaWakes
namespace Go.Proofs.Ytdeiinfljfgmeaa
open Go.RowKit
set_option linter.unusedVariables false
set_option linter.unusedSimpArgs false

def twF (B : Nat) (va ra vb rb : Value) (R S : Rl) (sl : Nat → Nat) : Nat → Array Bool → Act → World → Prop
  | 0, L, a, w => a.eval (.tmp (sl 0)) = relV va ra
  | 1, L, a, w => ∃ v1 v2, a.eval (.tmp (sl 1)) = relV v1 v2 ∧ OwnRl B w v1 v2 R
  | 2, L, a, w => a.eval (.tmp (sl 2)) = relV vb rb
  | 3, L, a, w => ∃ v1 v2, a.eval (.tmp (sl 3)) = relV v1 v2 ∧ OwnRl B w v1 v2 S
  | 4, L, a, w => ∃ X : Nat, a.eval (.tmp (sl 4)) = .pointer (some ⟨X, 0, none⟩) ∧ B ≤ X ∧ (L.getD 5 false = true → a.eval (.tmp (sl 5)) ≠ .pointer (some ⟨X, 0, none⟩)) ∧ ∃ u1 u2, RB w X u1 u2 ∧ (L.getD 6 false = true → OwnRl B w u1 u2 R)
  | 5, L, a, w => ∃ X : Nat, a.eval (.tmp (sl 5)) = .pointer (some ⟨X, 0, none⟩) ∧ B ≤ X ∧ ∃ u1 u2, RB w X u1 u2 ∧ (L.getD 7 false = true → OwnRl B w u1 u2 S)
  | 6, L, a, w => L.getD 4 false = true
  | 7, L, a, w => L.getD 5 false = true
  | _, L, a, w => True
section
variable {B : Nat} {va ra vb rb : Value} {R S : Rl} {sl : Nat → Nat} {L : Array Bool} {a a0 : Act} {w w' : World} {ds : List Nat}
theorem set_keep {i k : Nat} (h0 : L.getD i true = false) (hne : i ≠ k) : (L.setIfInBounds i true).getD k false = L.getD k false := by
  rw [Inv.listed_set h0]
  simp [hne]
theorem set_more {i k : Nat} (h0 : L.getD i true = false) (h : L.getD k false = true) : (L.setIfInBounds i true).getD k false = true := by
  rw [Inv.listed_set h0, h]
  simp
theorem tw_read (hinj : ∀ i j, i < 6 → j < 6 → i ≠ j → sl i ≠ sl j) {i j : Nat} (hi : i < 4) (hj : j < 8) (hne : j ≠ i) (h0 : L.getD i true = false) (hf : twF B va ra vb rb R S sl j L a w) (hb : Below w.heap.size w w') (v : Value) :
    twF B va ra vb rb R S sl j (L.setIfInBounds i true) (a.put (some (sl i)) v) w' := by
  have ev : ∀ k, k < 6 → k ≠ i → (a.put (some (sl i)) v).eval (.tmp (sl k)) = a.eval (.tmp (sl k)) := fun k hk hki => Inv.eval_put_ne (hinj i k (by omega) hk (fun e => hki e.symm)) v
  have hcase : j = 0 ∨ j = 1 ∨ j = 2 ∨ j = 3 ∨ j = 4 ∨ j = 5 ∨ j = 6 ∨ j = 7 := by omega
  rcases hcase with rfl | rfl | rfl | rfl | rfl | rfl | rfl | rfl
  · exact (ev 0 (by omega) hne).trans hf
  · obtain ⟨v1, v2, e, ho⟩ := hf
    exact ⟨v1, v2, (ev 1 (by omega) hne).trans e, ho.later hb⟩
  · exact (ev 2 (by omega) hne).trans hf
  · obtain ⟨v1, v2, e, ho⟩ := hf
    exact ⟨v1, v2, (ev 3 (by omega) hne).trans e, ho.later hb⟩
  · obtain ⟨X, e, hX, h5, u1, u2, hR, ho⟩ := hf
    refine ⟨X, (ev 4 (by omega) hne).trans e, hX, fun q => ?_, u1, u2, kept hb hR, fun q => (ho (by rwa [set_keep h0 (by omega)] at q)).later hb⟩
    rw [ev 5 (by omega) (by omega)]
    exact h5 (by rwa [set_keep h0 (by omega)] at q)
  · obtain ⟨X, e, hX, u1, u2, hR, ho⟩ := hf
    exact ⟨X, (ev 5 (by omega) hne).trans e, hX, u1, u2, kept hb hR, fun q => (ho (by rwa [set_keep h0 (by omega)] at q)).later hb⟩
  · exact set_more h0 hf
  · exact set_more h0 hf
/-- The box of the first. -/
theorem tw_alloc4 (hinj : ∀ i j, i < 6 → j < 6 → i ≠ j → sl i ≠ sl j) (h : Inv.Fa 8 a0 ds (twF B va ra vb rb R S sl) L a w) (h0 : L.getD 4 true = false) (hd : sl 4 ∈ ds) (hB : B ≤ w.heap.size) (hs : sl 4 < a.tmps.size) :
    Inv.Fa 8 a0 ds (twF B va ra vb rb R S sl) (L.setIfInBounds 4 true) (a.put (some (sl 4)) (.pointer (some ⟨w.heap.size, 0, none⟩))) (w.alloc (.cells #[.slice none 0 0, .slice none 0 0] 25)) := by
  have hb := later_alloc w (.cells #[.slice none 0 0, .slice none 0 0] 25)
  have ev : ∀ k, k < 6 → k ≠ 4 → (a.put (some (sl 4)) (.pointer (some ⟨w.heap.size, 0, none⟩))).eval (.tmp (sl k)) = a.eval (.tmp (sl k)) := fun k hk hki => Inv.eval_put_ne (hinj 4 k (by omega) hk (fun e => hki e.symm)) _
  have h4f : L.getD 4 false = false := by
    have hs4 : 4 < L.size := by
      rcases Nat.lt_or_ge 4 L.size with q | q
      · exact q
      · simp [Array.getElem?_eq_none q] at h0
    simpa [hs4] using h0
  refine h.step h0 hd (fun j hj hne hl hf => ?_) ⟨w.heap.size, Inv.eval_put_same hs _, hB, fun q => ?_, _, _, box_new _ _ _, fun q => ?_⟩
  · have hcase : j = 0 ∨ j = 1 ∨ j = 2 ∨ j = 3 ∨ j = 5 ∨ j = 6 ∨ j = 7 := by omega
    rcases hcase with rfl | rfl | rfl | rfl | rfl | rfl | rfl
    · exact (ev 0 (by omega) hne).trans hf
    · obtain ⟨v1, v2, e, ho⟩ := hf
      exact ⟨v1, v2, (ev 1 (by omega) hne).trans e, ho.later hb⟩
    · exact (ev 2 (by omega) hne).trans hf
    · obtain ⟨v1, v2, e, ho⟩ := hf
      exact ⟨v1, v2, (ev 3 (by omega) hne).trans e, ho.later hb⟩
    · obtain ⟨X, e, hX, u1, u2, hR, ho⟩ := hf
      exact ⟨X, (ev 5 (by omega) hne).trans e, hX, u1, u2, kept hb hR, fun q => (ho (by rwa [set_keep h0 (by omega)] at q)).later hb⟩
    · exact set_more h0 hf
    · exact set_more h0 hf
  · rw [ev 5 (by omega) (by omega)]
    rw [set_keep h0 (by omega)] at q
    obtain ⟨X, e, -, u1, u2, hR, -⟩ := h.facts 5 (by omega) q
    rw [e]
    intro e2
    have := lt_of_block hR
    cases e2
    omega
  · rw [set_keep h0 (by omega)] at q
    have := h.facts 6 (by omega) q
    rw [show L.getD 4 false = true from this] at h4f
    cases h4f
/-- The box of the second. -/
theorem tw_alloc5 (hinj : ∀ i j, i < 6 → j < 6 → i ≠ j → sl i ≠ sl j) (h : Inv.Fa 8 a0 ds (twF B va ra vb rb R S sl) L a w) (h0 : L.getD 5 true = false) (hd : sl 5 ∈ ds) (hB : B ≤ w.heap.size) (hs : sl 5 < a.tmps.size) :
    Inv.Fa 8 a0 ds (twF B va ra vb rb R S sl) (L.setIfInBounds 5 true) (a.put (some (sl 5)) (.pointer (some ⟨w.heap.size, 0, none⟩))) (w.alloc (.cells #[.slice none 0 0, .slice none 0 0] 25)) := by
  have hb := later_alloc w (.cells #[.slice none 0 0, .slice none 0 0] 25)
  have ev : ∀ k, k < 6 → k ≠ 5 → (a.put (some (sl 5)) (.pointer (some ⟨w.heap.size, 0, none⟩))).eval (.tmp (sl k)) = a.eval (.tmp (sl k)) := fun k hk hki => Inv.eval_put_ne (hinj 5 k (by omega) hk (fun e => hki e.symm)) _
  have h5f : L.getD 5 false = false := by
    have hs4 : 5 < L.size := by
      rcases Nat.lt_or_ge 5 L.size with q | q
      · exact q
      · simp [Array.getElem?_eq_none q] at h0
    simpa [hs4] using h0
  refine h.step h0 hd (fun j hj hne hl hf => ?_) ⟨w.heap.size, Inv.eval_put_same hs _, hB, _, _, box_new _ _ _, fun q => ?_⟩
  · have hcase : j = 0 ∨ j = 1 ∨ j = 2 ∨ j = 3 ∨ j = 4 ∨ j = 6 ∨ j = 7 := by omega
    rcases hcase with rfl | rfl | rfl | rfl | rfl | rfl | rfl
    · exact (ev 0 (by omega) hne).trans hf
    · obtain ⟨v1, v2, e, ho⟩ := hf
      exact ⟨v1, v2, (ev 1 (by omega) hne).trans e, ho.later hb⟩
    · exact (ev 2 (by omega) hne).trans hf
    · obtain ⟨v1, v2, e, ho⟩ := hf
      exact ⟨v1, v2, (ev 3 (by omega) hne).trans e, ho.later hb⟩
    · obtain ⟨X, e, hX, h5, u1, u2, hR, ho⟩ := hf
      refine ⟨X, (ev 4 (by omega) hne).trans e, hX, fun q => ?_, u1, u2, kept hb hR, fun q => (ho (by rwa [set_keep h0 (by omega)] at q)).later hb⟩
      rw [Inv.eval_put_same hs]
      intro e2
      have := lt_of_block hR
      cases e2
      omega
    · exact set_more h0 hf
    · exact set_more h0 hf
  · rw [set_keep h0 (by omega)] at q
    have := h.facts 7 (by omega) q
    rw [show L.getD 5 false = true from this] at h5f
    cases h5f
theorem tw_store6 (h : Inv.Fa 8 a0 ds (twF B va ra vb rb R S sl) L a w) (h0 : L.getD 6 true = false) (h4 : L.getD 4 false = true) {X : Nat} {v1 v2 : Value} (eX : a.eval (.tmp (sl 4)) = .pointer (some ⟨X, 0, none⟩)) (hO : OwnRl B w v1 v2 R) :
    Inv.Fa 8 a0 ds (twF B va ra vb rb R S sl) (L.setIfInBounds 6 true) a ((w.setCell ⟨X, 0, none⟩ v1).setCell ⟨X, 1, none⟩ v2) := by
  obtain ⟨X', e, hX, h5, u1, u2, hR, -⟩ := h.facts 4 (by omega) h4
  rw [eX] at e
  cases e
  have hR2 := box_set (i := 1) (box_set (i := 0) hR v1) v2
  have st : ∀ {x1 x2 : Value} {T : Rl}, OwnRl B w x1 x2 T → OwnRl B ((w.setCell ⟨X, 0, none⟩ v1).setCell ⟨X, 1, none⟩ v2) x1 x2 T := fun hq => OwnRl.set (i := 1) (OwnRl.set (i := 0) hq hR v1) (box_set (i := 0) hR v1) v2
  refine h.step0 h0 (fun j hj hne hl hf => ?_) (set_more h0 h4)
  have hcase : j = 0 ∨ j = 1 ∨ j = 2 ∨ j = 3 ∨ j = 4 ∨ j = 5 ∨ j = 7 := by omega
  rcases hcase with rfl | rfl | rfl | rfl | rfl | rfl | rfl
  · exact hf
  · obtain ⟨x1, x2, e, ho⟩ := hf
    exact ⟨x1, x2, e, st ho⟩
  · exact hf
  · obtain ⟨x1, x2, e, ho⟩ := hf
    exact ⟨x1, x2, e, st ho⟩
  · exact ⟨X, eX, hX, fun q => h5 (by rwa [set_keep h0 (by omega)] at q), v1, v2, by simpa [RB] using hR2, fun _ => st hO⟩
  · obtain ⟨Y, e, hY, x1, x2, hRY, ho⟩ := hf
    have hne : Y ≠ X := fun q => h5 hl (by rw [e, q])
    exact ⟨Y, e, hY, x1, x2, box_other (i := 1) (box_other (i := 0) hRY hne v1) hne v2, fun q => st (ho (by rwa [set_keep h0 (by omega)] at q))⟩
  · exact set_more h0 hf
theorem tw_store7 (h : Inv.Fa 8 a0 ds (twF B va ra vb rb R S sl) L a w) (h0 : L.getD 7 true = false) (h5 : L.getD 5 false = true) {Y : Nat} {v1 v2 : Value} (eY : a.eval (.tmp (sl 5)) = .pointer (some ⟨Y, 0, none⟩)) (hO : OwnRl B w v1 v2 S) :
    Inv.Fa 8 a0 ds (twF B va ra vb rb R S sl) (L.setIfInBounds 7 true) a ((w.setCell ⟨Y, 0, none⟩ v1).setCell ⟨Y, 1, none⟩ v2) := by
  obtain ⟨Y', e, hY, u1, u2, hR, -⟩ := h.facts 5 (by omega) h5
  rw [eY] at e
  cases e
  have hR2 := box_set (i := 1) (box_set (i := 0) hR v1) v2
  have st : ∀ {x1 x2 : Value} {T : Rl}, OwnRl B w x1 x2 T → OwnRl B ((w.setCell ⟨Y, 0, none⟩ v1).setCell ⟨Y, 1, none⟩ v2) x1 x2 T := fun hq => OwnRl.set (i := 1) (OwnRl.set (i := 0) hq hR v1) (box_set (i := 0) hR v1) v2
  refine h.step0 h0 (fun j hj hne hl hf => ?_) (set_more h0 h5)
  have hcase : j = 0 ∨ j = 1 ∨ j = 2 ∨ j = 3 ∨ j = 4 ∨ j = 5 ∨ j = 6 := by omega
  rcases hcase with rfl | rfl | rfl | rfl | rfl | rfl | rfl
  · exact hf
  · obtain ⟨x1, x2, e, ho⟩ := hf
    exact ⟨x1, x2, e, st ho⟩
  · exact hf
  · obtain ⟨x1, x2, e, ho⟩ := hf
    exact ⟨x1, x2, e, st ho⟩
  · obtain ⟨X, e, hX, hn5, x1, x2, hRX, ho⟩ := hf
    have hne : X ≠ Y := fun q => hn5 h5 (by rw [eY, q])
    exact ⟨X, e, hX, fun q => hn5 h5, x1, x2, box_other (i := 1) (box_other (i := 0) hRX hne v1) hne v2, fun q => st (ho (by rwa [set_keep h0 (by omega)] at q))⟩
  · exact ⟨Y, eY, hY, v1, v2, by simpa [RB] using hR2, fun _ => st hO⟩
  · exact set_more h0 hf
end
theorem cutL_small (R : Rl) : (cutL R).vars.length ≤ 8 ∧ (cutL R).rows.length ≤ 20 := by
  constructor
  · show (R.vars.take 8).length ≤ 8
    rw [List.length_take]
    omega
  · show ((R.rows.take 20).map _).length ≤ 20
    rw [List.length_map, List.length_take]
    omega
theorem small_fits {A B : Rl} (hA : A.vars.length ≤ 8 ∧ A.rows.length ≤ 20) (hB : B.vars.length ≤ 8 ∧ B.rows.length ≤ 20) : A.vars.length + B.vars.length ≤ 64 ∧ A.rows.length * B.rows.length ≤ 1048575 := by
  have : A.rows.length * B.rows.length ≤ 20 * 20 := Nat.mul_le_mul hA.2 hB.2
  omega
end Go.Proofs.Ytdeiinfljfgmeaa
