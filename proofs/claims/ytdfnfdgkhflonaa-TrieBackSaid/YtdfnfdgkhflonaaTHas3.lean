/-
  Is there a path of one number, walked: trie.Has.
-/
import Derived.Test.YtdfnfdgkhflonaaTHas
import Derived.Test.YtdfnfdgkhflonaaTKeys2
namespace Go.Proofs.Ytdfnfdgkhflonaa
open Go.RowKit
set_option linter.unusedVariables false

set_option maxRecDepth 100000 in
set_option maxHeartbeats 2000000 in
theorem has1_any (vb vl : Value) (pb po pc : Nat) (B : List Br) (L : List Int) (key : Int) (w : World) (hB : SlB w vb B) (hL : SlI .u64 w vl L) (hok : TrieOk B L) (hl : B.length ≤ 1099511627776) (hp : w.cell? ⟨pb, po, none⟩ = some (.int .u64 key)) :
    Calls Try.prog 44 #[.agg #[vb, vl], .slice (some ⟨pb, po, none⟩) 1 pc] w fun e w' => e = .returned (.bool (decide (∃ b ∈ B, b.k = key))) ∧ Below w.heap.size w w' := by
  obtain ⟨a, c, rfl, -⟩ := hB.open
  obtain ⟨a', c', rfl, hlc, hcm, -⟩ := hL.open
  have HC := Lib.hid (fun W (hW : Below w.heap.size w W) => (check_any _ _ B L W (hB.later hW) (hL.later hW)).mono (R' := fun e w' => e = .returned (.int .i64 0) ∧ Below W.heap.size W w') (by rintro e w' ⟨rfl, h⟩; exact ⟨by rw [if_pos hok], h⟩))
  have HF := Lib.hid (fun V (hV : Below w.heap.size w V) => (find_any (.slice a B.length c) (.slice a' L.length c') (.slice (some ⟨pb, po, none⟩) 1 pc) B key V (hB.later hV) (keys_rise hok) hl).mono (R' := fun e w' => ∃ b : Br, e = .returned (.tuple #[.agg #[.int .u64 b.k, .int .i64 b.f, .int .i64 b.t], .bool (decide (∃ b ∈ B, b.k = key))]) ∧ Below V.heap.size V w') (by
    rintro e w' ⟨b, ok, rfl, hfo, h⟩
    have e1 : ok = decide (∃ b ∈ B, b.k = key) := by
      cases ok with
      | true =>
        obtain ⟨i, hi, -, hk⟩ := hfo.1 rfl
        exact (decide_eq_true ⟨B[i], List.getElem_mem hi, hk⟩).symm
      | false =>
        refine (decide_eq_false ?_).symm
        rintro ⟨b', hb', hk⟩
        obtain ⟨i, hi, rfl⟩ := List.getElem_of_mem hb'
        exact (hfo.2 rfl).2 i hi hk
    exact ⟨b, by rw [e1], h⟩))
  obtain ⟨ans, hans⟩ : ∃ ans, decide (∃ b ∈ B, b.k = key) = ans := ⟨_, rfl⟩
  rw [hans] at HF ⊢
  have HQ := Lib.hid (fun W (hW : Below w.heap.size w W) => cell_next hW hp)
  obtain ⟨W, hW⟩ : ∃ W, w.alloc (.cells #[.slice a B.length c, .slice a' L.length c'] 25) = W := ⟨_, rfl⟩
  obtain ⟨K, hKe⟩ : ∃ K, w.heap.size = K := ⟨_, rfl⟩
  have hbW : Below w.heap.size w W := by rw [← hW]; exact later_alloc w _
  have hKb : W.heap[K]? = some (.cells #[.slice a B.length c, .slice a' L.length c'] 25 (0, 0)) := by rw [← hW, ← hKe]; exact box_new w _ _
  have k0 := box_cell (i := 0) hKb
  have k1 := box_cell (i := 1) hKb
  simp at k0 k1
  clear hB hL hok hp hans
  go_enter Try.func44, Try.ntmps44
  go_wp2_with (first
    | (go_at_call 31; refine (HC.out _ hbW).mono ?_; rintro e w1 ⟨rfl, hb1⟩; have hK1 := (hb1.block _ (lt_of_block hKb)).trans hKb; have hbw1 := later_trans hbW hb1)
    | (go_at_call 84; refine (levels_any _).mono ?_; rintro e w2 ⟨rfl, hb2⟩; have hK2 := (hb2.block _ (lt_of_block hK1)).trans hK1; have hbw2 := later_trans hbw1 hb2; have x0 := box_cell (i := 0) hK2; have x1 := box_cell (i := 1) hK2; simp at x0 x1))
  have hb3 := later_trans hbw2 (later_alloc w2 (.cells #[.slice a B.length c, .slice a' L.length c', .slice (some ⟨pb, po, none⟩) 1 pc] 120))
  have hX := box_new w2 #[.slice a B.length c, .slice a' L.length c', .slice (some ⟨pb, po, none⟩) 1 pc] 120
  obtain ⟨V, hV⟩ : ∃ V, w2.alloc (.cells #[.slice a B.length c, .slice a' L.length c', .slice (some ⟨pb, po, none⟩) 1 pc] 120) = V := ⟨_, rfl⟩
  rw [hV] at hb3 hX ⊢
  obtain ⟨X, hXe⟩ : ∃ X, w2.heap.size = X := ⟨_, rfl⟩
  rw [hXe] at hX
  simp only [hXe]
  have y0 := box_cell (i := 0) hX
  have y1 := box_cell (i := 1) hX
  have y2 := box_cell (i := 2) hX
  simp at y0 y1 y2
  have yq := HQ.out V hb3
  have hXlt : X < V.heap.size := lt_of_block hX
  clear hV hXe hb1 hb2 hK1 hK2 hbw1 hbw2 k0 k1 x0 x1
  go_region_held3 (fun W' => W'.cell? ⟨X, 0, none⟩ = some (.slice a B.length c) ∧ W'.cell? ⟨X, 1, none⟩ = some (.slice a' L.length c') ∧ W'.cell? ⟨X, 2, none⟩ = some (.slice (some ⟨pb, po, none⟩) 1 pc) ∧ W'.cell? ⟨pb, po, none⟩ = some (.int .u64 key))
    (first | exact ⟨y0, y1, y2, yq⟩ | (refine cells4_next (W := V) ?_ ⟨y0, y1, y2, yq⟩; first | exact hbWF | exact Below.alloc hbWF hbWF.size _ | exact ((Below.refl _ V).alloc (Nat.le_refl _) _).drew | exact (Below.refl _ V).alloc (Nat.le_refl _) _ | exact ((hbWF.setCell (Nat.le_refl _) _).setCell (Nat.le_refl _) _).setCell (Nat.le_refl _) _) | assumption)
    (first
      | (go_at_call 85; refine (HF.out _ (later_trans hb3 (later_drew _))).mono ?_; rintro e wF ⟨b, rfl, hbF⟩; have hbWF : Below V.heap.size V wF := later_trans (later_drew V) hbF)
      | (go_at_call 85; refine (HF.out _ (later_trans hb3 (later_trans (later_alloc V _) (later_drew _)))).mono ?_; rintro e wF ⟨b, rfl, hbF⟩; have hbWF : Below V.heap.size V wF := later_trans (later_trans (later_alloc V _) (later_drew _)) hbF; have hbn := (hbF.block _ (lt_of_block (box_new V #[.int .u64 0, .int .i64 0, .int .i64 0] 40))).trans (box_new V #[.int .u64 0, .int .i64 0, .int .i64 0] 40); have n0 := box_cell (i := 0) hbn; have n1 := box_cell (i := 1) hbn; have n2 := box_cell (i := 2) hbn; simp at n0 n1 n2; have m0 := box_frozen (i := 0) hbn; have m1 := box_frozen (i := 1) hbn; have m2 := box_frozen (i := 2) hbn))
  all_goals go_wp2
  all_goals go_ret
  all_goals subst hKe
  · exact ⟨rfl, later_trans hb3 (Below.alloc hbWF hbWF.size _)⟩
  · exact ⟨rfl, later_trans hb3 (((hbWF.setCell (Nat.le_refl _) _).setCell (Nat.le_refl _) _).setCell (Nat.le_refl _) _)⟩
end Go.Proofs.Ytdfnfdgkhflonaa
