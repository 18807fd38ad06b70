/-
  Is there a path of two numbers, walked: trie.Has.
-/
import Derived.Test.YtdfnfdgkhflonaaTKeys
import Derived.Test.YtdfnfdgkhflonaaTBs
namespace Go.Proofs.Ytdfnfdgkhflonaa
open Go.RowKit
set_option linter.unusedVariables false

theorem rises_of_step {xs : List Int} (h : ∀ i, (hi : i + 1 < xs.length) → xs[i] < xs[i + 1]) : RisesL xs := by
  intro i j hij hj
  induction j with
  | zero => omega
  | succ j ih =>
    by_cases e : i = j
    · subst e; exact h i hj
    · exact Int.lt_trans (ih (by omega) (by omega)) (h j hj)
theorem under_rises {B : List Br} {L : List Int} (h : TrieOk B L) (key : Int) : RisesL (underL B L key) := by
  unfold underL
  split
  · rename_i b hb
    obtain ⟨i, hi, rfl⟩ := List.getElem_of_mem (List.mem_of_find?_eq_some hb)
    obtain ⟨h1, h2, h3⟩ := br_at h hi
    have hs := (h.2.1 i hi).2
    have g1 : B.getD i Br.no = B[i] := by simp [List.getD, List.getElem?_eq_getElem hi]
    rw [g1] at hs
    refine rises_of_step (fun j hj => ?_)
    simp at hj
    have h5 := hs (B[i].f.toNat + j + 1) (by omega) (by omega)
    rw [Nat.add_sub_cancel] at h5
    have e1 : L.getD (B[i].f.toNat + j) 0 = L[B[i].f.toNat + j]'(by omega) := by simp [List.getD, List.getElem?_eq_getElem (show B[i].f.toNat + j < L.length by omega)]
    have e2 : L.getD (B[i].f.toNat + j + 1) 0 = L[B[i].f.toNat + j + 1]'(by omega) := by simp [List.getD, List.getElem?_eq_getElem (show B[i].f.toNat + j + 1 < L.length by omega)]
    rw [e1, e2] at h5
    simpa [Nat.add_assoc] using h5
  · intro i j h1 h2; simp at h2
theorem under_wf {B : List Br} {L : List Int} (h : ∀ x ∈ L, (Lit.int .u64 x).wf = true) (key : Int) : ∀ x ∈ underL B L key, (Lit.int .u64 x).wf = true := by
  unfold underL
  split
  · exact fun x hx => h x (List.mem_of_mem_drop (List.mem_of_mem_take hx))
  · exact fun x hx => by cases hx
theorem under_len {B : List Br} {L : List Int} (key : Int) : (underL B L key).length ≤ L.length := by
  unfold underL
  split
  · simp; omega
  · simp

set_option maxRecDepth 100000 in
set_option maxHeartbeats 2000000 in
theorem has2_any (vb vl : Value) (pb po pc : Nat) (B : List Br) (L : List Int) (key leaf : Int) (w : World) (hB : SlB w vb B) (hL : SlI .u64 w vl L) (hok : TrieOk B L) (hl : B.length ≤ 1099511627776) (hp : w.cell? ⟨pb, po, none⟩ = some (.int .u64 key)) (hq : w.cell? ⟨pb, po + 1, none⟩ = some (.int .u64 leaf)) :
    Calls Try.prog 44 #[.agg #[vb, vl], .slice (some ⟨pb, po, none⟩) 2 pc] w fun e w' => e = .returned (.bool (decide (leaf ∈ underL B L key))) ∧ Below w.heap.size w w' := by
  obtain ⟨a, c, rfl, -⟩ := hB.open
  obtain ⟨a', c', rfl, hlc, hcm, -⟩ := hL.open
  have HC := Lib.hid (fun W (hW : Below w.heap.size w W) => (check_any _ _ B L W (hB.later hW) (hL.later hW)).mono (R' := fun e w' => e = .returned (.int .i64 0) ∧ Below W.heap.size W w') (by rintro e w' ⟨rfl, h⟩; exact ⟨by rw [if_pos hok], h⟩))
  have HU := Lib.hid (fun W (hW : Below w.heap.size w W) => (under_any _ _ pb po 2 pc B L key W (hB.later hW) (hL.later hW) hok hl (by omega) (cell_next hW hp)).mono (R' := fun e w' => ∃ a2 n2 c2, e = .returned (.slice a2 n2 c2) ∧ SlI .u64 w' (.slice a2 n2 c2) (underL B L key) ∧ Below W.heap.size W w') (by
    rintro e w' ⟨v', rfl, ho, h⟩
    obtain ⟨a2, c2, rfl⟩ := owns_shape2 ho
    exact ⟨_, _, _, rfl, SlI.of_owns ho (under_wf hL.2 key), h⟩))
  have HR := Lib.hid (under_rises hok key)
  have HN := Lib.hid (Nat.le_trans (under_len (B := B) (L := L) key) (Nat.le_trans hok.1 (show 1048576 ≤ 1099511627776 by omega)))
  have HQ := Lib.hid (fun W (hW : Below w.heap.size w W) => cell_next hW hq)
  obtain ⟨W, hW⟩ : ∃ W, w.alloc (.cells #[.slice a B.length c, .slice a' L.length c'] 25) = W := ⟨_, rfl⟩
  obtain ⟨K, hKe⟩ : ∃ K, w.heap.size = K := ⟨_, rfl⟩
  have hbW : Below w.heap.size w W := by rw [← hW]; exact later_alloc w _
  have hKb : W.heap[K]? = some (.cells #[.slice a B.length c, .slice a' L.length c'] 25 (0, 0)) := by rw [← hW, ← hKe]; exact box_new w _ _
  have k0 := box_cell (i := 0) hKb
  have k1 := box_cell (i := 1) hKb
  simp at k0 k1
  clear hB hL hok hp hq
  go_enter Try.func44, Try.ntmps44
  go_wp2_with (first
    | (go_at_call 31; refine (HC.out _ hbW).mono ?_; rintro e w1 ⟨rfl, hb1⟩; have hK1 := (hb1.block _ (lt_of_block hKb)).trans hKb; have hbw1 := later_trans hbW hb1)
    | (go_at_call 84; refine (levels_any _).mono ?_; rintro e w2 ⟨rfl, hb2⟩; have hK2 := (hb2.block _ (lt_of_block hK1)).trans hK1; have hbw2 := later_trans hbw1 hb2; have x0 := box_cell (i := 0) hK2; have x1 := box_cell (i := 1) hK2; simp at x0 x1))
  have hb3 := later_trans hbw2 (later_alloc w2 (.cells #[.slice a B.length c, .slice a' L.length c', .slice (some ⟨pb, po, none⟩) 2 pc] 120))
  have hX := box_new w2 #[.slice a B.length c, .slice a' L.length c', .slice (some ⟨pb, po, none⟩) 2 pc] 120
  obtain ⟨V, hV⟩ : ∃ V, w2.alloc (.cells #[.slice a B.length c, .slice a' L.length c', .slice (some ⟨pb, po, none⟩) 2 pc] 120) = V := ⟨_, rfl⟩
  rw [hV] at hb3 hX ⊢
  obtain ⟨X, hXe⟩ : ∃ X, w2.heap.size = X := ⟨_, rfl⟩
  rw [hXe] at hX
  simp only [hXe]
  have y0 := box_cell (i := 0) hX
  have y1 := box_cell (i := 1) hX
  have y2 := box_cell (i := 2) hX
  simp at y0 y1 y2
  have yq := HQ.out V hb3
  clear hV hXe hb1 hb2 hK1 hK2 hbw1 hbw2 k0 k1 x0 x1
  go_region_held3 (fun W' => W'.cell? ⟨X, 0, none⟩ = some (.slice a B.length c) ∧ W'.cell? ⟨X, 1, none⟩ = some (.slice a' L.length c') ∧ W'.cell? ⟨X, 2, none⟩ = some (.slice (some ⟨pb, po, none⟩) 2 pc) ∧ W'.cell? ⟨pb, po + 1, none⟩ = some (.int .u64 leaf))
    (first | exact ⟨y0, y1, y2, yq⟩ | exact cells4_next hb4 ⟨y0, y1, y2, yq⟩ | exact cells4_next (later_trans hb4 (later_drewN _ _)) ⟨y0, y1, y2, yq⟩ | assumption)
    (first
      | (go_at_call 87; refine (HU.out _ (later_trans hb3 (later_drew _))).mono ?_; rintro e w4 ⟨a2, n2, c2, rfl, hsl, hb4⟩)
      | (go_at_call 86; refine (bs_any _ _ leaf _ hsl HR.out HN.out).mono ?_; rintro e w5 ⟨at_, rfl, nn, rfl⟩))
  all_goals go_wp2
  all_goals go_ret
  all_goals exact ⟨rfl, later_trans (later_trans hb3 (later_drew _)) (later_trans hb4 (later_drewN _ _))⟩
end Go.Proofs.Ytdfnfdgkhflonaa
