/-
  trie.Keys at the other paths, walked.
-/
import Derived.Test.YtdfnfdgkhflonaaTSize
namespace Go.Proofs.Ytdfnfdgkhflonaa
open Go.RowKit
set_option linter.unusedVariables false

theorem index3_0 (f0 f1 f2 : Value) (w : World) : (Instr.index 129 (.agg #[f0, f1, f2]) (.int .i64 0)).run Try.prog w = .ok f0 w := by
  have u := Try.underlying129
  have a3 := Try.isAgg128
  have z3 := Try.sizeOf128
  simp [Instr.index, run_underlying u, asIntOf, part, a3, z3, go_sem]
theorem index3_2 (f0 f1 f2 : Value) (w : World) : (Instr.index 129 (.agg #[f0, f1, f2]) (.int .i64 2)).run Try.prog w = .ok f2 w := by
  have u := Try.underlying129
  have a3 := Try.isAgg128
  have z3 := Try.sizeOf128
  simp [Instr.index, run_underlying u, asIntOf, part, a3, z3, go_sem]

set_option maxRecDepth 100000 in
set_option maxHeartbeats 2000000 in
theorem keys0_any (vb vl : Value) (ap : Option Addr) (cp : Nat) (B : List Br) (L : List Int) (w : World) (hB : SlB w vb B) (hL : SlI .u64 w vl L) (hok : TrieOk B L) (hl : B.length ≤ 1099511627776) :
    Calls Try.prog 42 #[.agg #[vb, vl], .slice ap 0 cp] w fun e w' => (∃ v', e = .returned v' ∧ w'.ownsRow w.heap.size 38 1 v' (B.map Br.k).length ((B.map Br.k).map (.int .u64))) ∧ Below w.heap.size w w' := by
  obtain ⟨a, c, rfl, -⟩ := hB.open
  obtain ⟨a', c', rfl, hlc, hcm, -⟩ := hL.open
  have HC := Lib.hid (fun W (hW : Below w.heap.size w W) => (check_any _ _ B L W (hB.later hW) (hL.later hW)).mono (R' := fun e w' => e = .returned (.int .i64 0) ∧ Below W.heap.size W w') (by rintro e w' ⟨rfl, h⟩; exact ⟨by rw [if_pos hok], h⟩))
  have HB := Lib.hid hB
  obtain ⟨W, hW⟩ : ∃ W, w.alloc (.cells #[.slice a B.length c, .slice a' L.length c'] 25) = W := ⟨_, rfl⟩
  obtain ⟨K, hKe⟩ : ∃ K, w.heap.size = K := ⟨_, rfl⟩
  have hbW : Below w.heap.size w W := by rw [← hW]; exact later_alloc w _
  have hKb : W.heap[K]? = some (.cells #[.slice a B.length c, .slice a' L.length c'] 25 (0, 0)) := by rw [← hW, ← hKe]; exact box_new w _ _
  have k0 := box_cell (i := 0) hKb
  have k1 := box_cell (i := 1) hKb
  simp at k0 k1
  clear hB hL hok
  go_enter Try.func42, Try.ntmps42
  go_wp2_with (first
    | (go_at_call 31; refine (HC.out _ hbW).mono ?_; rintro e w1 ⟨rfl, hb1⟩; have hK1 := (hb1.block _ (lt_of_block hKb)).trans hKb; have hbw1 := later_trans hbW hb1)
    | (go_at_call 84; refine (levels_any _).mono ?_; rintro e w2 ⟨rfl, hb2⟩; have hK2 := (hb2.block _ (lt_of_block hK1)).trans hK1; have hbw2 := later_trans hbw1 hb2))
  have x0 := box_cell (i := 0) hK2
  have x1 := box_cell (i := 1) hK2
  simp at x0 x1
  clear hb1 hb2 hK1 hbw1 k0 k1
  have hix := index3_0 (.func (.func 112) #[] #[]) (.func (.func 87) #[] #[]) (.func (.func 113) #[] #[])
  go_region_held3 (fun W' => W'.cell? ⟨K, 0, none⟩ = some (.slice a B.length c) ∧ W'.cell? ⟨K, 1, none⟩ = some (.slice a' L.length c'))
    (first | exact ⟨x0, x1⟩ | exact cells2_next hb3 (by assumption) | exact cells2_next hb4 (by assumption) | assumption)
    (first
      | (go_at_call 84; refine (levels_any _).mono ?_; rintro e w3 ⟨rfl, hb3⟩)
      | (go_at_call 112; refine (top_any _ _ _ B _ (HB.out.later (later_trans hbw2 (later_trans (later_drew _) hb3))) hl).mono ?_; rintro e w4 ⟨v4, rfl, hown4, hb4⟩))
  all_goals go_wp2
  all_goals go_ret
  all_goals subst hKe
  all_goals exact ⟨⟨_, rfl, owns_down hown4 (later_trans hbw2 (later_trans (later_drew _) hb3)).size⟩, later_trans (later_trans hbw2 (later_trans (later_drew _) hb3)) hb4⟩

set_option maxRecDepth 100000 in
set_option maxHeartbeats 2000000 in
theorem keys2_any (vb vl : Value) (ap : Option Addr) (cp : Nat) (B : List Br) (L : List Int) (w : World) (hB : SlB w vb B) (hL : SlI .u64 w vl L) (hok : TrieOk B L) (hl : B.length ≤ 1099511627776) :
    Calls Try.prog 42 #[.agg #[vb, vl], .slice ap 2 cp] w fun e w' => e = .returned (.slice none 0 0) ∧ Below w.heap.size w w' := by
  obtain ⟨a, c, rfl, -⟩ := hB.open
  obtain ⟨a', c', rfl, hlc, hcm, -⟩ := hL.open
  have HC := Lib.hid (fun W (hW : Below w.heap.size w W) => (check_any _ _ B L W (hB.later hW) (hL.later hW)).mono (R' := fun e w' => e = .returned (.int .i64 0) ∧ Below W.heap.size W w') (by rintro e w' ⟨rfl, h⟩; exact ⟨by rw [if_pos hok], h⟩))
  have HB := Lib.hid hB
  obtain ⟨W, hW⟩ : ∃ W, w.alloc (.cells #[.slice a B.length c, .slice a' L.length c'] 25) = W := ⟨_, rfl⟩
  obtain ⟨K, hKe⟩ : ∃ K, w.heap.size = K := ⟨_, rfl⟩
  have hbW : Below w.heap.size w W := by rw [← hW]; exact later_alloc w _
  have hKb : W.heap[K]? = some (.cells #[.slice a B.length c, .slice a' L.length c'] 25 (0, 0)) := by rw [← hW, ← hKe]; exact box_new w _ _
  have k0 := box_cell (i := 0) hKb
  have k1 := box_cell (i := 1) hKb
  simp at k0 k1
  clear hB hL hok
  go_enter Try.func42, Try.ntmps42
  go_wp2_with (first
    | (go_at_call 31; refine (HC.out _ hbW).mono ?_; rintro e w1 ⟨rfl, hb1⟩; have hK1 := (hb1.block _ (lt_of_block hKb)).trans hKb; have hbw1 := later_trans hbW hb1)
    | (go_at_call 84; refine (levels_any _).mono ?_; rintro e w2 ⟨rfl, hb2⟩; have hK2 := (hb2.block _ (lt_of_block hK1)).trans hK1; have hbw2 := later_trans hbw1 hb2))
  have x0 := box_cell (i := 0) hK2
  have x1 := box_cell (i := 1) hK2
  simp at x0 x1
  clear hb1 hb2 hK1 hbw1 k0 k1
  have hix := index3_2 (.func (.func 112) #[] #[]) (.func (.func 87) #[] #[]) (.func (.func 113) #[] #[])
  go_region_held3 (fun W' => W'.cell? ⟨K, 0, none⟩ = some (.slice a B.length c) ∧ W'.cell? ⟨K, 1, none⟩ = some (.slice a' L.length c'))
    (first | exact ⟨x0, x1⟩ | exact cells2_next hb3 (by assumption) | exact cells2_next hb4 (by assumption) | assumption)
    (first
      | (go_at_call 84; refine (levels_any _).mono ?_; rintro e w3 ⟨rfl, hb3⟩)
      | (go_at_call 113; refine (nothing_any _ _ _ _).mono ?_; rintro e w4 ⟨rfl, hb4⟩))
  all_goals go_wp2
  all_goals go_ret
  all_goals subst hKe
  all_goals exact ⟨rfl, later_trans (later_trans hbw2 (later_trans (later_drew _) hb3)) hb4⟩

set_option maxRecDepth 100000 in
set_option maxHeartbeats 2000000 in
/-- Of no trie, or under a path of three and more: no key. -/
theorem keysNo_any (vb vl : Value) (ap : Option Addr) (np cp : Nat) (B : List Br) (L : List Int) (w : World) (hB : SlB w vb B) (hL : SlI .u64 w vl L) (hno : ¬ TrieOk B L ∨ 3 ≤ np) (hnp : np ≤ 9223372036854775807) :
    Calls Try.prog 42 #[.agg #[vb, vl], .slice ap np cp] w fun e w' => e = .returned (.slice none 0 0) ∧ Below w.heap.size w w' := by
  obtain ⟨a, c, rfl, -⟩ := hB.open
  obtain ⟨a', c', rfl, -⟩ := hL.open
  have hbW := later_alloc w (.cells #[.slice a B.length c, .slice a' L.length c'] 25)
  have hC := check_any _ _ B L _ (hB.later hbW) (hL.later hbW)
  clear hB hL
  by_cases hok : TrieOk B L
  · rw [if_pos hok] at hC
    have HC := Lib.hid hC
    have h3 : 3 ≤ np := by rcases hno with h | h; exact absurd hok h; exact h
    clear hC hok hno
    have h3d : decide ((3 : Int) ≤ (np : Int)) = true := decide_eq_true (by omega)
    have h3n : decide (3 ≤ np) = true := decide_eq_true h3
    go_enter Try.func42, Try.ntmps42
    go_wp2_with (first
      | (go_at_call 31; refine HC.out.mono ?_; rintro e w1 ⟨rfl, hb1⟩)
      | (go_at_call 84; refine (levels_any _).mono ?_; rintro e w2 ⟨rfl, hb2⟩))
    go_ret
    exact ⟨rfl, later_trans (later_trans hbW hb1) hb2⟩
  · rw [if_neg hok] at hC
    have HC := Lib.hid hC
    clear hC hok hno
    go_enter Try.func42, Try.ntmps42
    go_wp2_with (go_at_call 31; refine HC.out.mono ?_; rintro e w1 ⟨rfl, hb1⟩)
    go_ret
    exact ⟨rfl, later_trans hbW hb1⟩
end Go.Proofs.Ytdfnfdgkhflonaa
