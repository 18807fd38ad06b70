/-
  trie.Cut, walked; a trie's run is a run.
-/
import Derived.Test.YtdfnfdgkhflonaaTDel
import Derived.Test.YtdfnfdgkhflonaaTRun
import Derived.Test.YtdfnfdgkhflonaaTOf
import Derived.Test.YtdfnfdgkhflonaaTUnder
import Derived.Test.YtdfnfdgkhflonaaTHas
namespace Go.Proofs.Ytdfnfdgkhflonaa
open Go.RowKit
set_option linter.unusedVariables false

theorem ahd_trans {p q r : Pr} (h : Ahd p q) (k : Ahd q r) : Ahd p r := by unfold Ahd at *; omega
theorem pairwise_of {l : List Pr} (h : PairsTo l l.length) : l.Pairwise Ahd := by
  rw [List.pairwise_iff_getElem]
  intro i j hi hj hij
  induction j with
  | zero => omega
  | succ j ih =>
    have h1 := h (j + 1) (by omega) hj
    rw [Nat.add_sub_cancel, getD_pr (show j < l.length by omega), getD_pr hj] at h1
    by_cases e : i = j
    · subst e; exact h1
    · exact ahd_trans (ih (by omega) (by omega)) h1
theorem of_pairwise {l : List Pr} (h : l.Pairwise Ahd) : PairsTo l l.length := by
  rw [List.pairwise_iff_getElem] at h
  intro i h1 h2
  rw [getD_pr (show i - 1 < l.length by omega), getD_pr h2]
  exact h (i - 1) i (by omega) h2 (by omega)
theorem seg_pairwise {L : List Int} {k : Int} {f m : Nat} (h : RisesL ((L.drop f).take m)) : (segTo L k f m).Pairwise Ahd := by
  unfold segTo
  rw [List.pairwise_map, List.pairwise_iff_getElem]
  intro i j hi hj hij
  exact Or.inr ⟨rfl, h i j hij hj⟩
theorem run_run {B : List Br} {L : List Int} (h : TrieOk B L) : RunOk (runOf B L) := by
  have hl := runTo_len (L := L) (fun j hj => (h.2.1 j hj).1) (Nat.le_refl B.length)
  rw [runTo_all (Nat.le_refl _), h.2.2] at hl
  refine ⟨by have := h.1; omega, of_pairwise ?_⟩
  unfold runOf
  rw [List.pairwise_flatMap]
  refine ⟨fun b hb => ?_, ?_⟩
  · obtain ⟨i, hi, rfl⟩ := List.getElem_of_mem hb
    have h1 := under_rises h B[i].k
    unfold underL at h1
    rw [find_yes h hi] at h1
    exact seg_pairwise h1
  · rw [List.pairwise_iff_getElem]
    intro i j hi hj hij x hx y hy
    have := keys_rise h i j hij hj
    unfold segOf segTo at hx hy
    obtain ⟨x', _, rfl⟩ := List.mem_map.1 hx
    obtain ⟨y', _, rfl⟩ := List.mem_map.1 hy
    exact Or.inl this
theorem run_filter {l : List Pr} (h : RunOk l) (f : Pr → Bool) : RunOk (l.filter f) :=
  ⟨Nat.le_trans (List.length_filter_le _ _) h.1, of_pairwise ((pairwise_of h.2).filter f)⟩
theorem run_wf {w : World} {vb vl : Value} {B : List Br} {L : List Int} (hB : SlB w vb B) (hL : SlI .u64 w vl L) : ∀ p ∈ runOf B L, p.wf := by
  intro p hp
  unfold runOf at hp
  obtain ⟨b, hb, hp⟩ := List.mem_flatMap.1 hp
  unfold segOf segTo at hp
  obtain ⟨x, hx, rfl⟩ := List.mem_map.1 hp
  exact ⟨(hB.2 b hb).1, hL.2 x (List.mem_of_mem_drop (List.mem_of_mem_take hx))⟩

set_option maxRecDepth 100000 in
set_option maxHeartbeats 4000000 in
theorem cut_any (vb vl : Value) (B : List Br) (L : List Int) (f t : Int) (w : World) (hB : SlB w vb B) (hL : SlI .u64 w vl L) :
    Calls Try.prog 48 #[.agg #[vb, vl], .int .u64 f, .int .u64 t] w fun e w' => ∃ vb' vl' q, e = .returned (.tuple #[.agg #[vb', vl'], .int .i64 q]) ∧ Below w.heap.size w w' ∧
      (TrieOk B L → f ≤ t → q = 0 ∧ w'.ownsRow w.heap.size 40 3 vb' (brOf ((runOf B L).filter (fun p => !cutB f t p))).length ((brOf ((runOf B L).filter (fun p => !cutB f t p))).flatMap Br.cells) ∧ w'.ownsRow w.heap.size 38 1 vl' (((runOf B L).filter (fun p => !cutB f t p)).map Pr.b).length ((((runOf B L).filter (fun p => !cutB f t p)).map Pr.b).map (.int .u64))) ∧
      (TrieOk B L → ¬ f ≤ t → q = 2 ∧ vb' = .slice none 0 0 ∧ vl' = .slice none 0 0) ∧ (¬ TrieOk B L → q = 170 ∧ vb' = .slice none 0 0 ∧ vl' = .slice none 0 0) := by
  obtain ⟨a, c, rfl, -⟩ := hB.open
  obtain ⟨a', c', rfl, -⟩ := hL.open
  obtain ⟨n, hn⟩ : ∃ n, w.heap.size = n := ⟨_, rfl⟩
  obtain ⟨W, hW⟩ : ∃ W, (((w.alloc (.cells #[.slice a B.length c, .slice a' L.length c'] 25)).alloc (.cells #[.int .u64 f] 38)).alloc (.cells #[.int .u64 t] 38)).alloc (.cells #[.slice none 0 0, .slice none 0 0] 25) = W := ⟨_, rfl⟩
  have hbW : Below w.heap.size w W := by rw [← hW]; exact later_trans (later_trans (later_trans (later_alloc w _) (later_alloc _ _)) (later_alloc _ _)) (later_alloc _ _)
  have hK : W.heap[n]? = some (.cells #[.slice a B.length c, .slice a' L.length c'] 25 (0, 0)) := by rw [← hW, ← hn]; exact box_alloc (box_alloc (box_alloc (box_new w _ _) _) _) _
  have hF : W.heap[n + 1]? = some (.cells #[.int .u64 f] 38 (0, 0)) := by
    rw [← hW, ← hn]
    have := box_new (w.alloc (.cells #[.slice a B.length c, .slice a' L.length c'] 25)) #[.int .u64 f] 38
    exact box_alloc (box_alloc (by simpa using this) _) _
  have hT : W.heap[n + 1 + 1]? = some (.cells #[.int .u64 t] 38 (0, 0)) := by
    rw [← hW, ← hn]
    have := box_new ((w.alloc (.cells #[.slice a B.length c, .slice a' L.length c'] 25)).alloc (.cells #[.int .u64 f] 38)) #[.int .u64 t] 38
    exact box_alloc (by simpa using this) _
  have hR : W.heap[n + 1 + 1 + 1]? = some (.cells #[.slice none 0 0, .slice none 0 0] 25 (0, 0)) := by
    rw [← hW, ← hn]
    have := box_new (((w.alloc (.cells #[.slice a B.length c, .slice a' L.length c'] 25)).alloc (.cells #[.int .u64 f] 38)).alloc (.cells #[.int .u64 t] 38)) #[.slice none 0 0, .slice none 0 0] 25
    simpa using this
  have k0 := box_cell (i := 0) hK
  have k1 := box_cell (i := 1) hK
  simp at k0 k1
  have HB := Lib.hid hB
  have HL := Lib.hid hL
  clear hB hL
  have hC := Lib.hid (check_any _ _ B L W (HB.out.later hbW) (HL.out.later hbW))
  by_cases hok : TrieOk B L
  case neg =>
    have hC2 := hC.out
    rw [if_neg hok] at hC2
    have HNO := Lib.hid hok
    clear hok hC
    have hC := Lib.hid hC2
    clear hC2
    go_enter Try.func48, Try.ntmps48
    go_wp2_with (go_at_call 31; refine hC.out.mono ?_; rintro e w1 ⟨rfl, hb1⟩; have hR1 := (hb1.block _ (lt_of_block hR)).trans hR; have r0 := box_cell (i := 0) hR1; have r1 := box_cell (i := 1) hR1; simp at r0 r1; have g0 := box_frozen (i := 0) hR1; have g1 := box_frozen (i := 1) hR1)
    have hR2 := box_set (i := 1) (box_set (i := 0) hR1 (.slice none 0 0)) (.slice none 0 0)
    have d0 := box_cell (i := 0) hR2
    have d1 := box_cell (i := 1) hR2
    simp at d0 d1
    refine bodyPost_ret (v := .tuple #[.agg #[.slice none 0 0, .slice none 0 0], .int .i64 170]) ?_ rfl ?_
    · simp [results, Try.results48, go_sem, d0, d1]
    · subst hn
      exact ⟨_, _, _, rfl, ((later_trans hbW hb1).setCell (by simp; omega) _).setCell (by simp; omega) _, fun h => absurd h HNO.out, fun h => absurd h HNO.out, fun _ => ⟨rfl, rfl, rfl⟩⟩
  have hC2 := hC.out
  rw [if_pos hok] at hC2
  have HOK := Lib.hid hok
  clear hok hC
  have hC := Lib.hid hC2
  clear hC2
  by_cases hft : f ≤ t
  case neg =>
    have hcmp : decide (0 < cmpI f t) = true := decide_eq_true (by unfold cmpI; split <;> (try split) <;> omega)
    have HNO := Lib.hid hft
    clear hft
    go_enter Try.func48, Try.ntmps48
    go_wp2_with (first
      | (go_at_call 31; refine hC.out.mono ?_; rintro e w1 ⟨rfl, hb1⟩; have hR1 := (hb1.block _ (lt_of_block hR)).trans hR; have r0 := box_cell (i := 0) hR1; have r1 := box_cell (i := 1) hR1; have x0 := box_cell (i := 0) ((hb1.block _ (lt_of_block hF)).trans hF); have x1 := box_cell (i := 0) ((hb1.block _ (lt_of_block hT)).trans hT); simp at r0 r1 x0 x1; have g0 := box_frozen (i := 0) hR1; have g1 := box_frozen (i := 1) hR1)
      | (go_at_call 88; refine (cmpI_any _ _ _).mono ?_; rintro e w2 ⟨rfl, rfl⟩))
    have hR2 := box_set (i := 1) (box_set (i := 0) hR1 (.slice none 0 0)) (.slice none 0 0)
    have d0 := box_cell (i := 0) hR2
    have d1 := box_cell (i := 1) hR2
    simp at d0 d1
    refine bodyPost_ret (v := .tuple #[.agg #[.slice none 0 0, .slice none 0 0], .int .i64 2]) ?_ rfl ?_
    · simp [results, Try.results48, go_sem, d0, d1]
    · subst hn
      exact ⟨_, _, _, rfl, ((later_trans hbW hb1).setCell (by simp; omega) _).setCell (by simp; omega) _, fun _ h => absurd h (by have := HNO.out; omega), fun _ _ => ⟨rfl, rfl, rfl⟩, fun h => absurd HOK.out h⟩
  have hcmp : decide (0 < cmpI f t) = false := decide_eq_false (by unfold cmpI; split <;> (try split) <;> omega)
  have HFT := Lib.hid hft
  clear hft
  have hRun := Lib.hid (run_run HOK.out)
  have hWf := Lib.hid (run_wf HB.out HL.out)
  have HRun := Lib.hid (fun V (hV : Below w.heap.size w V) => run_any _ _ B L V (HB.out.later hV) (HL.out.later hV) HOK.out)
  have HFIL := Lib.hid (run_filter hRun.out (fun p => !cutB f t p))
  go_enter Try.func48, Try.ntmps48
  go_wp2_with (first
    | (go_at_call 31; refine hC.out.mono ?_; rintro e w1 ⟨rfl, hb1⟩; have hK1 := (hb1.block _ (lt_of_block hK)).trans hK; have hF1 := (hb1.block _ (lt_of_block hF)).trans hF; have hT1 := (hb1.block _ (lt_of_block hT)).trans hT; have hR1 := (hb1.block _ (lt_of_block hR)).trans hR; have hbw1 := later_trans hbW hb1; have y0 := box_cell (i := 0) hK1; have y1 := box_cell (i := 1) hK1; have x0 := box_cell (i := 0) hF1; have x1 := box_cell (i := 0) hT1; simp at x0 x1 y0 y1)
    | (go_at_call 88; refine (cmpI_any _ _ _).mono ?_; rintro e w2 ⟨rfl, rfl⟩)
    | (go_at_call 33; refine (HRun.out _ hbw1).mono ?_; rintro e w3 ⟨v3, rfl, hown3, hb3⟩; obtain ⟨a3, c3, rfl⟩ := owns_shape2 hown3; have hF3 := (hb3.block _ (lt_of_block hF1)).trans hF1; have hT3 := (hb3.block _ (lt_of_block hT1)).trans hT1; have hR3 := (hb3.block _ (lt_of_block hR1)).trans hR1; have hbw3 := later_trans hbw1 hb3)
    | (go_at_call 89; refine (del_any _ _ f t _ _ _ _ hown3 hWf.out hRun.out.1 hb3.size hF3 hT3).mono ?_; rintro e w4 ⟨v4, rfl, hown4, hb4⟩; obtain ⟨a4, c4, rfl⟩ := owns_shape2 hown4; have hR4 := (hb4.block _ (lt_of_block hR1)).trans hR3; have hbw4 := later_trans hbw1 (hb3.trans hb4))
    | (go_at_call 37; refine (of_any _ _ _ ⟨SlT.of_owns hown4, fun p hp => hWf.out p (List.mem_filter.1 hp).1⟩).mono ?_; rintro e w5 ⟨vb5, vl5, q5, rfl, hb5, hyes5, -⟩; obtain ⟨rfl, hB5, hL5⟩ := hyes5 HFIL.out; obtain ⟨a5, c5, rfl⟩ := owns_shape2 hB5; obtain ⟨a6, c6, rfl⟩ := owns_shape2 hL5; have hR5 := (hb5.block _ (lt_of_block hR4)).trans hR4; have hbw5 := later_trans hbw4 hb5; have r0 := box_cell (i := 0) hR5; have r1 := box_cell (i := 1) hR5; simp at r0 r1; have g0 := box_frozen (i := 0) hR5; have g1 := box_frozen (i := 1) hR5))
  have hR6 := box_set (i := 1) (box_set (i := 0) hR5 (.slice a5 (brOf ((runOf B L).filter (fun p => !cutB f t p))).length c5)) (.slice a6 (((runOf B L).filter (fun p => !cutB f t p)).map Pr.b).length c6)
  have d0 := box_cell (i := 0) hR6
  have d1 := box_cell (i := 1) hR6
  simp at d0 d1
  refine bodyPost_ret (v := .tuple #[.agg #[.slice a5 (brOf ((runOf B L).filter (fun p => !cutB f t p))).length c5, .slice a6 ((runOf B L).filter (fun p => !cutB f t p)).length c6], .int .i64 0]) ?_ rfl ?_
  · simp [results, Try.results48, go_sem, d0, d1]
  · subst hn
    refine ⟨_, _, _, rfl, (hbw5.setCell (by simp; omega) _).setCell (by simp; omega) _, fun _ _ => ⟨rfl, ?_, ?_⟩, fun _ h => absurd HFT.out (by omega), fun h => absurd HOK.out h⟩
    · simpa using owns_down (own_set (own_set hB5 hR5 (by decide) _) (box_set hR5 _) (by decide) _) hbw4.size
    · simpa using owns_down (own_set (own_set hL5 hR5 (by decide) _) (box_set hR5 _) (by decide) _) hbw4.size
end Go.Proofs.Ytdfnfdgkhflonaa
