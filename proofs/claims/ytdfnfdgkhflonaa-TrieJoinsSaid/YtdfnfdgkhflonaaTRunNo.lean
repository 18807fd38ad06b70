/-
  trie.Run of what is no trie, walked.
-/
import Derived.Test.YtdfnfdgkhflonaaTRun
namespace Go.Proofs.Ytdfnfdgkhflonaa
open Go.RowKit Go.Shelf
set_option linter.unusedVariables false
attribute [local go_sem] Oper.semAt_some

set_option maxRecDepth 100000 in
set_option maxHeartbeats 2000000 in
theorem run_no (vb vl : Value) (B : List Br) (L : List Int) (w : World) (hB : SlB w vb B) (hL : SlI .u64 w vl L) (hok : ¬ TrieOk B L) :
    Calls Try.prog 33 #[.agg #[vb, vl]] w fun e w' => e = .returned (.slice none 0 0) ∧ Below w.heap.size w w' := by
  obtain ⟨ab, cb, rfl, -⟩ := hB.open
  obtain ⟨al, cl, rfl, -⟩ := hL.open
  have HC := Lib.hid (fun W (hW : Below w.heap.size w W) => (check_any _ _ B L W (hB.later hW) (hL.later hW)).mono (R' := fun e w' => e = .returned (.int .i64 170) ∧ Below W.heap.size W w') (by rintro e w' ⟨rfl, h⟩; exact ⟨by rw [if_neg hok], h⟩))
  refine (callsIn_wide (n := 6)).1 ?_
  refine callsIn_of_wp_marks Try.func33 rfl trivial ?_ rfl
  simp only [Try.ntmps33, List.size_toArray, List.length_cons, List.length_nil, Nat.reduceAdd, Nat.reduceSub, Array.replicate_succ, Array.replicate_zero, List.push_toArray, List.append_toArray, List.nil_append, List.cons_append]
  gi_wp2_with (refine ⟨trivial, ?_⟩; gi_at_call 31; refine (callsIn_wide.2 (HC.out _ (later_alloc w _))).mono ?_; rintro e w1 ⟨rfl, hb1⟩)
  exact ⟨_, results_tmp rfl _ _ _, rfl, later_trans (later_alloc w _) hb1⟩
end Go.Proofs.Ytdfnfdgkhflonaa
