/-
  trie.Has at the other paths, walked.
-/
import Derived.Test.YtdfnfdgkhflonaaTHas
import Derived.Test.YtdfnfdgkhflonaaTKeys2
namespace Go.Proofs.Ytdfnfdgkhflonaa
open Go.RowKit
set_option linter.unusedVariables false

set_option maxRecDepth 100000 in
set_option maxHeartbeats 2000000 in
theorem has0_any (vb vl : Value) (ap : Option Addr) (cp : Nat) (B : List Br) (L : List Int) (w : World) (hB : SlB w vb B) (hL : SlI .u64 w vl L) (hok : TrieOk B L) :
    Calls Try.prog 44 #[.agg #[vb, vl], .slice ap 0 cp] w fun e w' => e = .returned (.bool (decide (0 < B.length))) ∧ Below w.heap.size w w' := by
  obtain ⟨a, c, rfl, -⟩ := hB.open
  obtain ⟨a', c', rfl, hlc, hcm, -⟩ := hL.open
  have HC := Lib.hid (fun W (hW : Below w.heap.size w W) => (check_any _ _ B L W (hB.later hW) (hL.later hW)).mono (R' := fun e w' => e = .returned (.int .i64 0) ∧ Below W.heap.size W w') (by rintro e w' ⟨rfl, h⟩; exact ⟨by rw [if_pos hok], h⟩))
  obtain ⟨W, hW⟩ : ∃ W, w.alloc (.cells #[.slice a B.length c, .slice a' L.length c'] 25) = W := ⟨_, rfl⟩
  obtain ⟨K, hKe⟩ : ∃ K, w.heap.size = K := ⟨_, rfl⟩
  have hbW : Below w.heap.size w W := by rw [← hW]; exact later_alloc w _
  have hKb : W.heap[K]? = some (.cells #[.slice a B.length c, .slice a' L.length c'] 25 (0, 0)) := by rw [← hW, ← hKe]; exact box_new w _ _
  have k0 := box_cell (i := 0) hKb
  have k1 := box_cell (i := 1) hKb
  simp at k0 k1
  clear hB hL hok
  go_enter Try.func44, Try.ntmps44
  go_wp2_with (first
    | (go_at_call 31; refine (HC.out _ hbW).mono ?_; rintro e w1 ⟨rfl, hb1⟩; have hK1 := (hb1.block _ (lt_of_block hKb)).trans hKb; have hbw1 := later_trans hbW hb1)
    | (go_at_call 84; refine (levels_any _).mono ?_; rintro e w2 ⟨rfl, hb2⟩; have hK2 := (hb2.block _ (lt_of_block hK1)).trans hK1; have hbw2 := later_trans hbw1 hb2; have x0 := box_cell (i := 0) hK2; have x1 := box_cell (i := 1) hK2; simp at x0 x1; have hK2l := lt_of_block hK2))
  go_ret
  subst hKe
  exact ⟨ret_bool2 (by simp), later_trans hbw2 (later_alloc w2 _)⟩

set_option maxRecDepth 100000 in
set_option maxHeartbeats 2000000 in
/-- Of no trie, or of a path of three and more: there is none. -/
theorem hasNo_any (vb vl : Value) (ap : Option Addr) (np cp : Nat) (B : List Br) (L : List Int) (w : World) (hB : SlB w vb B) (hL : SlI .u64 w vl L) (hno : ¬ TrieOk B L ∨ 3 ≤ np) (hnp : np ≤ 9223372036854775807) :
    Calls Try.prog 44 #[.agg #[vb, vl], .slice ap np cp] w fun e w' => e = .returned (.bool false) ∧ Below w.heap.size w w' := by
  obtain ⟨a, c, rfl, -⟩ := hB.open
  obtain ⟨a', c', rfl, -⟩ := hL.open
  have hbW := later_alloc w (.cells #[.slice a B.length c, .slice a' L.length c'] 25)
  have hC := check_any _ _ B L _ (hB.later hbW) (hL.later hbW)
  clear hB hL
  by_cases hok : TrieOk B L
  · rw [if_pos hok] at hC
    have HC := Lib.hid hC
    have h3 : 3 ≤ np := by rcases hno with h | h; exact absurd hok h; exact h
    clear hC hok hno
    have h3d : decide ((3 : Int) ≤ (np : Int)) = true := decide_eq_true (by omega)
    have h3n : decide (3 ≤ np) = true := decide_eq_true h3
    go_enter Try.func44, Try.ntmps44
    go_wp2_with (first
      | (go_at_call 31; refine HC.out.mono ?_; rintro e w1 ⟨rfl, hb1⟩)
      | (go_at_call 84; refine (levels_any _).mono ?_; rintro e w2 ⟨rfl, hb2⟩))
    go_ret
    exact ⟨rfl, later_trans (later_trans hbW hb1) hb2⟩
  · rw [if_neg hok] at hC
    have HC := Lib.hid hC
    clear hC hok hno
    go_enter Try.func44, Try.ntmps44
    go_wp2_with (go_at_call 31; refine HC.out.mono ?_; rintro e w1 ⟨rfl, hb1⟩)
    go_ret
    exact ⟨rfl, later_trans hbW hb1⟩
end Go.Proofs.Ytdfnfdgkhflonaa
