/-
  The keys under a path of one number, walked: trie.Keys.
-/
import Derived.Test.YtdfnfdgkhflonaaTUnder
import Derived.Test.YtdfnfdgkhflonaaTCheck
namespace Go.Proofs.Ytdfnfdgkhflonaa
open Go.RowKit
set_option linter.unusedVariables false

theorem levels_any (w : World) : Calls Try.prog 84 #[] w fun e w' => e = .returned (.agg #[.func (.func 112) #[] #[], .func (.func 87) #[] #[], .func (.func 113) #[] #[]]) ∧ Below w.heap.size w w' := by
  go_enter Try.func84, Try.ntmps84
  go_wp2
  refine bodyPost_ret (v := .agg #[.func (.func 112) #[] #[], .func (.func 87) #[] #[], .func (.func 113) #[] #[]]) ?_ rfl ?_
  · simp [results, Try.results84, go_sem]
  · exact ⟨rfl, later_alloc w _⟩
theorem index3 (f0 f1 f2 : Value) (w : World) : (Instr.index 129 (.agg #[f0, f1, f2]) (.int .i64 1)).run Try.prog w = .ok f1 w := by
  have u := Try.underlying129
  have a3 := Try.isAgg128
  have z3 := Try.sizeOf128
  simp [Instr.index, run_underlying u, asIntOf, part, a3, z3, go_sem]
theorem cells2_next {W W' : World} {p q : Addr} {u v : Value} (hb : Below W.heap.size W W') (h : W.cell? p = some u ∧ W.cell? q = some v) : W'.cell? p = some u ∧ W'.cell? q = some v :=
  ⟨cell_next hb h.1, cell_next hb h.2⟩

set_option maxRecDepth 100000 in
set_option maxHeartbeats 2000000 in
theorem keys1_any (vb vl : Value) (pb po pc : Nat) (B : List Br) (L : List Int) (key : Int) (w : World) (hB : SlB w vb B) (hL : SlI .u64 w vl L) (hok : TrieOk B L) (hl : B.length ≤ 1099511627776) (hp : w.cell? ⟨pb, po, none⟩ = some (.int .u64 key)) :
    Calls Try.prog 42 #[.agg #[vb, vl], .slice (some ⟨pb, po, none⟩) 1 pc] w fun e w' => ∃ v', e = .returned v' ∧ w'.ownsRow w.heap.size 38 1 v' (underL B L key).length ((underL B L key).map (.int .u64)) ∧ Below w.heap.size w w' := by
  obtain ⟨a, c, rfl, -⟩ := hB.open
  obtain ⟨a', c', rfl, hlc, hcm, -⟩ := hL.open
  have HC := Lib.hid (fun W (hW : Below w.heap.size w W) => (check_any _ _ B L W (hB.later hW) (hL.later hW)).mono (R' := fun e w' => e = .returned (.int .i64 0) ∧ Below W.heap.size W w') (by rintro e w' ⟨rfl, h⟩; exact ⟨by rw [if_pos hok], h⟩))
  have HU := Lib.hid (fun W (hW : Below w.heap.size w W) => under_any _ _ pb po 1 pc B L key W (hB.later hW) (hL.later hW) hok hl (by omega) (cell_next hW hp))
  obtain ⟨W, hW⟩ : ∃ W, w.alloc (.cells #[.slice a B.length c, .slice a' L.length c'] 25) = W := ⟨_, rfl⟩
  obtain ⟨K, hKe⟩ : ∃ K, w.heap.size = K := ⟨_, rfl⟩
  have hbW : Below w.heap.size w W := by rw [← hW]; exact later_alloc w _
  have hKb : W.heap[K]? = some (.cells #[.slice a B.length c, .slice a' L.length c'] 25 (0, 0)) := by rw [← hW, ← hKe]; exact box_new w _ _
  have k0 := box_cell (i := 0) hKb
  have k1 := box_cell (i := 1) hKb
  simp at k0 k1
  clear hB hL hok hp
  go_enter Try.func42, Try.ntmps42
  go_wp2_with (first
    | (go_at_call 31; refine (HC.out _ hbW).mono ?_; rintro e w1 ⟨rfl, hb1⟩; have hK1 := (hb1.block _ (lt_of_block hKb)).trans hKb; have hbw1 := later_trans hbW hb1)
    | (go_at_call 84; refine (levels_any _).mono ?_; rintro e w2 ⟨rfl, hb2⟩; have hK2 := (hb2.block _ (lt_of_block hK1)).trans hK1; have hbw2 := later_trans hbw1 hb2))
  have x0 := box_cell (i := 0) hK2
  have x1 := box_cell (i := 1) hK2
  simp at x0 x1
  clear hb1 hb2 hK1 hbw1 k0 k1
  have hix := index3 (.func (.func 112) #[] #[]) (.func (.func 87) #[] #[]) (.func (.func 113) #[] #[])
  go_region_held3 (fun W' => W'.cell? ⟨K, 0, none⟩ = some (.slice a B.length c) ∧ W'.cell? ⟨K, 1, none⟩ = some (.slice a' L.length c'))
    (first | exact ⟨x0, x1⟩ | exact cells2_next hb3 (by assumption) | exact cells2_next hb4 (by assumption) | assumption)
    (first
      | (go_at_call 84; refine (levels_any _).mono ?_; rintro e w3 ⟨rfl, hb3⟩)
      | (go_at_call 87; refine (HU.out _ (later_trans hbw2 (later_trans (later_drew _) hb3))).mono ?_; rintro e w4 ⟨v4, rfl, hown4, hb4⟩))
  all_goals go_wp2
  all_goals go_ret
  all_goals exact ⟨_, rfl, owns_down hown4 (later_trans hbw2 (later_trans (later_drew _) hb3)).size, later_trans (later_trans hbw2 (later_trans (later_drew _) hb3)) hb4⟩
end Go.Proofs.Ytdfnfdgkhflonaa
