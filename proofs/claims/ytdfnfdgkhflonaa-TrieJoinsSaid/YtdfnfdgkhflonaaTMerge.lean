/-
  trie.Merge, walked.
-/
import Derived.Test.YtdfnfdgkhflonaaTUnion
import Derived.Test.YtdfnfdgkhflonaaTRunNo
namespace Go.Proofs.Ytdfnfdgkhflonaa
open Go.RowKit
set_option linter.unusedVariables false

set_option maxRecDepth 100000 in
set_option maxHeartbeats 4000000 in
theorem merge_any (va vl vb vm : Value) (A B : List Br) (L M : List Int) (w : World) (hA : SlB w va A) (hL : SlI .u64 w vl L) (hB : SlB w vb B) (hM : SlI .u64 w vm M) (hLm : L.length + M.length ≤ 1048575) :
    Calls Try.prog 47 #[.agg #[va, vl], .agg #[vb, vm]] w fun e w' => ∃ vb' vl' q, e = .returned (.tuple #[.agg #[vb', vl'], .int .i64 q]) ∧ Below w.heap.size w w' ∧
      (TrieOk A L ∧ TrieOk B M → q = 0 ∧ w'.ownsRow w.heap.size 40 3 vb' (brOf (unionL (runOf A L) (runOf B M))).length ((brOf (unionL (runOf A L) (runOf B M))).flatMap Br.cells) ∧ w'.ownsRow w.heap.size 38 1 vl' ((unionL (runOf A L) (runOf B M)).map Pr.b).length (((unionL (runOf A L) (runOf B M)).map Pr.b).map (.int .u64))) ∧
      (¬ (TrieOk A L ∧ TrieOk B M) → q = 170 ∧ vb' = .slice none 0 0 ∧ vl' = .slice none 0 0) := by
  obtain ⟨a, c, rfl, -⟩ := hA.open
  obtain ⟨a', c', rfl, -⟩ := hL.open
  obtain ⟨b, d, rfl, -⟩ := hB.open
  obtain ⟨b', d', rfl, -⟩ := hM.open
  obtain ⟨n, hn⟩ : ∃ n, w.heap.size = n := ⟨_, rfl⟩
  obtain ⟨W, hW⟩ : ∃ W, ((w.alloc (.cells #[.slice a A.length c, .slice a' L.length c'] 25)).alloc (.cells #[.slice b B.length d, .slice b' M.length d'] 25)).alloc (.cells #[.slice none 0 0, .slice none 0 0] 25) = W := ⟨_, rfl⟩
  have hbW : Below w.heap.size w W := by rw [← hW]; exact later_trans (later_trans (later_alloc w _) (later_alloc _ _)) (later_alloc _ _)
  have hK : W.heap[n]? = some (.cells #[.slice a A.length c, .slice a' L.length c'] 25 (0, 0)) := by rw [← hW, ← hn]; exact box_alloc (box_alloc (box_new w _ _) _) _
  have hF : W.heap[n + 1]? = some (.cells #[.slice b B.length d, .slice b' M.length d'] 25 (0, 0)) := by
    rw [← hW, ← hn]
    have := box_new (w.alloc (.cells #[.slice a A.length c, .slice a' L.length c'] 25)) #[.slice b B.length d, .slice b' M.length d'] 25
    exact box_alloc (by simpa using this) _
  have hR : W.heap[n + 1 + 1]? = some (.cells #[.slice none 0 0, .slice none 0 0] 25 (0, 0)) := by
    rw [← hW, ← hn]
    have := box_new ((w.alloc (.cells #[.slice a A.length c, .slice a' L.length c'] 25)).alloc (.cells #[.slice b B.length d, .slice b' M.length d'] 25)) #[.slice none 0 0, .slice none 0 0] 25
    simpa using this
  have k0 := box_cell (i := 0) hK
  have k1 := box_cell (i := 1) hK
  simp at k0 k1
  have HA := Lib.hid hA
  have HL := Lib.hid hL
  have HB := Lib.hid hB
  have HM := Lib.hid hM
  clear hA hL hB hM
  by_cases hok : TrieOk A L
  case neg =>
    have hC2 := check_any _ _ A L W (HA.out.later hbW) (HL.out.later hbW)
    rw [if_neg hok] at hC2
    have HNO := Lib.hid hok
    have hC := Lib.hid hC2
    clear hok hC2
    go_enter Try.func47, Try.ntmps47
    go_wp2_with (go_at_call 31; refine hC.out.mono ?_; rintro e w1 ⟨rfl, hb1⟩; have hR1 := (hb1.block _ (lt_of_block hR)).trans hR; have r0 := box_cell (i := 0) hR1; have r1 := box_cell (i := 1) hR1; simp at r0 r1; have g0 := box_frozen (i := 0) hR1; have g1 := box_frozen (i := 1) hR1)
    have hR2 := box_set (i := 1) (box_set (i := 0) hR1 (.slice none 0 0)) (.slice none 0 0)
    have d0 := box_cell (i := 0) hR2
    have d1 := box_cell (i := 1) hR2
    simp at d0 d1
    refine bodyPost_ret (v := .tuple #[.agg #[.slice none 0 0, .slice none 0 0], .int .i64 170]) ?_ rfl ?_
    · simp [results, Try.results47, go_sem, d0, d1]
    · subst hn
      exact ⟨_, _, _, rfl, ((later_trans hbW hb1).setCell (by simp; omega) _).setCell (by simp; omega) _, fun h => absurd h.1 HNO.out, fun _ => ⟨rfl, rfl, rfl⟩⟩
  have hC2 := check_any _ _ A L W (HA.out.later hbW) (HL.out.later hbW)
  rw [if_pos hok] at hC2
  have HOK := Lib.hid hok
  have hC := Lib.hid hC2
  clear hok hC2
  by_cases hok : TrieOk B M
  case neg =>
    have HD := Lib.hid (fun V (hV : Below w.heap.size w V) => (check_any _ _ B M V (HB.out.later hV) (HM.out.later hV)).mono (R' := fun e w' => e = .returned (.int .i64 170) ∧ Below V.heap.size V w') (by rintro e w' ⟨rfl, h⟩; exact ⟨by rw [if_neg hok], h⟩))
    have HNO := Lib.hid hok
    clear hok
    go_enter Try.func47, Try.ntmps47
    go_wp2_with (first
      | (go_at_call 31; have hq := hb1; refine (HD.out _ hbw1).mono ?_; rintro e w2 ⟨rfl, hb2⟩; have hR2 := (hb2.block _ (lt_of_block hR1)).trans hR1; have r0 := box_cell (i := 0) hR2; have r1 := box_cell (i := 1) hR2; simp at r0 r1; have g0 := box_frozen (i := 0) hR2; have g1 := box_frozen (i := 1) hR2)
      | (go_at_call 31; refine hC.out.mono ?_; rintro e w1 ⟨rfl, hb1⟩; have hR1 := (hb1.block _ (lt_of_block hR)).trans hR; have hbw1 := later_trans hbW hb1; have hF1 := (hb1.block _ (lt_of_block hF)).trans hF; have x0 := box_cell (i := 0) hF1; have x1 := box_cell (i := 1) hF1; simp at x0 x1))
    have hR3 := box_set (i := 1) (box_set (i := 0) hR2 (.slice none 0 0)) (.slice none 0 0)
    have d0 := box_cell (i := 0) hR3
    have d1 := box_cell (i := 1) hR3
    simp at d0 d1
    refine bodyPost_ret (v := .tuple #[.agg #[.slice none 0 0, .slice none 0 0], .int .i64 170]) ?_ rfl ?_
    · simp [results, Try.results47, go_sem, d0, d1]
    · subst hn
      exact ⟨_, _, _, rfl, ((later_trans hbw1 hb2).setCell (by simp; omega) _).setCell (by simp; omega) _, fun h => absurd h.2 HNO.out, fun _ => ⟨rfl, rfl, rfl⟩⟩
  have HD := Lib.hid (fun V (hV : Below w.heap.size w V) => (check_any _ _ B M V (HB.out.later hV) (HM.out.later hV)).mono (R' := fun e w' => e = .returned (.int .i64 0) ∧ Below V.heap.size V w') (by rintro e w' ⟨rfl, h⟩; exact ⟨by rw [if_pos hok], h⟩))
  have HOK2 := Lib.hid hok
  clear hok
  have hx := run_run HOK.out
  have hy := run_run HOK2.out
  have lx : (runOf A L).length = L.length := by have := congrArg List.length (run_leaves HOK.out); simpa using this
  have ly : (runOf B M).length = M.length := by have := congrArg List.length (run_leaves HOK2.out); simpa using this
  have HWX := Lib.hid (run_wf HA.out HL.out)
  have HWY := Lib.hid (run_wf HB.out HM.out)
  have HRA := Lib.hid (fun V (hV : Below w.heap.size w V) => run_any _ _ A L V (HA.out.later hV) (HL.out.later hV) HOK.out)
  have HRB := Lib.hid (fun V (hV : Below w.heap.size w V) => run_any _ _ B M V (HB.out.later hV) (HM.out.later hV) HOK2.out)
  obtain ⟨X, hX⟩ : ∃ X, runOf A L = X := ⟨_, rfl⟩
  obtain ⟨Y, hY⟩ : ∃ Y, runOf B M = Y := ⟨_, rfl⟩
  rw [hX] at hx lx HWX HRA
  rw [hY] at hy ly HWY HRB
  rw [hX, hY]
  have HX := Lib.hid hx
  have HY := Lib.hid hy
  have HUR := Lib.hid (union_run hx hy (by omega))
  clear hx hy hX hY
  obtain ⟨U, hU⟩ : ∃ U, unionL X Y = U := ⟨_, rfl⟩
  have HU := Lib.hid hU
  rw [hU] at HUR ⊢
  clear hU
  go_enter Try.func47, Try.ntmps47
  go_wp2_with (first
    | (go_at_call 31; have hq := hb1; refine (HD.out _ hbw1).mono ?_; rintro e w2 ⟨rfl, hb2⟩)
    | (go_at_call 31; refine hC.out.mono ?_; rintro e w1 ⟨rfl, hb1⟩; have hbw1 := later_trans hbW hb1; have hF1 := (hb1.block _ (lt_of_block hF)).trans hF; have x0 := box_cell (i := 0) hF1; have x1 := box_cell (i := 1) hF1; simp at x0 x1))
  have hbw2 := later_trans hbw1 hb2
  have hK2 := (hb2.block _ (lt_of_block ((hb1.block _ (lt_of_block hK)).trans hK))).trans ((hb1.block _ (lt_of_block hK)).trans hK)
  have hF2 := (hb2.block _ (lt_of_block hF1)).trans hF1
  have hR2 := (hb2.block _ (lt_of_block ((hb1.block _ (lt_of_block hR)).trans hR))).trans ((hb1.block _ (lt_of_block hR)).trans hR)
  have m0 := box_cell (i := 0) hK2
  have m1 := box_cell (i := 1) hK2
  have m2 := box_cell (i := 0) hF2
  have m3 := box_cell (i := 1) hF2
  simp at m0 m1 m2 m3
  clear k0 k1 x0 x1 hF1 hb1 hb2
  have hf4 : w2.cell? ⟨n, 0, none⟩ = some (.slice a A.length c) ∧ w2.cell? ⟨n, 1, none⟩ = some (.slice a' L.length c') ∧ w2.cell? ⟨n + 1, 0, none⟩ = some (.slice b B.length d) ∧ w2.cell? ⟨n + 1, 1, none⟩ = some (.slice b' M.length d') := ⟨m0, m1, m2, m3⟩
  go_region_held3 (fun W' => W'.cell? ⟨n, 0, none⟩ = some (.slice a A.length c) ∧ W'.cell? ⟨n, 1, none⟩ = some (.slice a' L.length c') ∧ W'.cell? ⟨n + 1, 0, none⟩ = some (.slice b B.length d) ∧ W'.cell? ⟨n + 1, 1, none⟩ = some (.slice b' M.length d'))
    (first | exact hf4 | exact cells4_next hu hf4 | exact cells4_next hs hf4 | exact cells4_next hr hf4 | assumption)
    (first
      | (go_at_call 55; refine (union_any _ _ X Y _ ⟨SlT.of_owns (owns_later o3 h4), HWX.out⟩ ⟨SlT.of_owns o4, HWY.out⟩ HX.out HY.out (by omega)).mono ?_; rintro e w5 ⟨v5, rfl, s5, h5⟩; rw [HU.out] at s5; have hu : Below w2.heap.size w2 w5 := later_trans hs h5)
      | (go_at_call 33; have hq := hr; refine (HRB.out _ (later_trans hbw2 hr)).mono ?_; rintro e w4 ⟨v4, rfl, o4, h4⟩; have hs : Below w2.heap.size w2 w4 := later_trans hr h4)
      | (go_at_call 33; refine (HRA.out _ (later_trans hbw2 (later_drew _))).mono ?_; rintro e w3 ⟨v3, rfl, o3, h3⟩; have hr : Below w2.heap.size w2 w3 := later_trans (later_drew w2) h3))
  have hbw5 := later_trans hbw2 hu
  have hR5 := (hu.block _ (lt_of_block hR2)).trans hR2
  go_wp2_with fail
  refine (of_any _ U _ s5).mono ?_
  rintro e w6 ⟨vb6, vl6, q6, rfl, hb6, hyes, -⟩
  obtain ⟨rfl, hB6, hL6⟩ := hyes HUR.out
  rw [List.length_map] at hL6
  obtain ⟨a6, c6, rfl⟩ := owns_shape2 hB6
  obtain ⟨a7, c7, rfl⟩ := owns_shape2 hL6
  have hR6 := (hb6.block _ (lt_of_block hR5)).trans hR5
  have r0 := box_cell (i := 0) hR6
  have r1 := box_cell (i := 1) hR6
  simp at r0 r1
  have g0 := box_frozen (i := 0) hR6
  have g1 := box_frozen (i := 1) hR6
  have hbw6 := later_trans hbw5 hb6
  go_wp2_with fail
  have hR7 := box_set (i := 1) (box_set (i := 0) hR6 (.slice a6 (brOf U).length c6)) (.slice a7 U.length c7)
  have d0 := box_cell (i := 0) hR7
  have d1 := box_cell (i := 1) hR7
  simp at d0 d1
  refine bodyPost_ret (v := .tuple #[.agg #[.slice a6 (brOf U).length c6, .slice a7 U.length c7], .int .i64 0]) ?_ rfl ?_
  · simp [results, Try.results47, go_sem, d0, d1]
  · subst hn
    refine ⟨_, _, _, rfl, (hbw6.setCell (by simp; omega) _).setCell (by simp; omega) _, fun _ => ⟨rfl, ?_, ?_⟩, fun h => absurd ⟨HOK.out, HOK2.out⟩ h⟩
    · simpa using owns_down (own_set (own_set hB6 hR6 (by decide) _) (box_set hR6 _) (by decide) _) hbw5.size
    · simpa using owns_down (own_set (own_set hL6 hR6 (by decide) _) (box_set hR6 _) (by decide) _) hbw5.size
end Go.Proofs.Ytdfnfdgkhflonaa
