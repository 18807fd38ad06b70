/-
  The law's own, same and ring, walked.
-/
import Derived.Deep.RegionLaw
import Derived.Deep.DeepCutAuto
import Derived.Test.YtplidcbfbonjlaaDoorHzRows
import Derived.Test.YtplidcbfbonjlaaDoorHzOf
namespace Go.Proofs.YtplidcbfbonjlaaDoor
open Go.RowKit Go.Shelf Go.Lib
set_option linter.unusedVariables false
set_option linter.unusedSimpArgs false

def ownL (ls : List (List Int)) : List (List Int) := rowsL 41 ls
set_option maxRecDepth 100000 in
set_option maxHeartbeats 4000000 in
theorem own_any (m : Int) (ev : Value) (ls : List (List Int)) (w : World) (h : SlRK .i64 w ev ls) :
    Calls Tryd.prog 9 #[hypV m ev] w fun e w' => ∃ hv ps, e = .returned (hypV m hv) ∧ OwnRK .i64 3 27 w.heap.size w' hv ps ∧ ps.map Prod.snd = ownL ls ∧ Below w.heap.size w w' := by
  obtain ⟨W0, hW0⟩ : ∃ W, W = (w.alloc (.cells #[.int .i64 m, ev] 24)).alloc (.cells #[.int .i64 0, .slice none 0 0] 24) := ⟨_, rfl⟩
  have s0 : W0.heap.size = w.heap.size + 1 + 1 := by rw [hW0, World.size_alloc, World.size_alloc]
  have b0 : Below w.heap.size w W0 := by rw [hW0]; exact later_trans (later_alloc _ _) (later_alloc _ _)
  have bA : HB W0 w.heap.size m ev := by rw [hW0]; exact box_alloc (box_new _ _ _) _
  have bX : HB W0 (w.heap.size + 1) 0 (.slice none 0 0) := by
    rw [hW0]
    have h := box_new (w.alloc (.cells #[.int .i64 m, ev] 24)) #[.int .i64 0, .slice none 0 0] 24
    rw [World.size_alloc] at h
    exact h
  have hR : ∀ W, Below W0.heap.size W0 W → Calls Tryd.prog 16 #[ev, .int .i64 41] W fun e w' => ∃ v' ps, e = .returned v' ∧ OwnRK .i64 3 27 W.heap.size w' v' ps ∧ ps.map Prod.snd = rowsL 41 ls ∧ Below W.heap.size W w' := fun W hb => rows_any 41 (by decide) ev ls W (h.later (later_trans b0 hb))
  obtain ⟨ae, ce, rfl, -⟩ := h.open
  obtain ⟨x0, x1, lX⟩ := two_of bA
  have HR := Lib.hid hR
  have H0 := Lib.hid (And.intro b0 (And.intro bA (And.intro bX s0)))
  clear h b0 bA bX hR s0
  go_enter Tryd.func9, Tryd.ntmps9
  go_wp2_with fail
  rw [← hW0]
  clear hW0
  go_region_law (first
    | (go_simp; refine (HR.out _ (later_drew _)).mono ?_; rintro e W1 ⟨hv, ps, rfl, hO, hps, b1⟩; have c0 := cell_next (later_trans (later_drew _) b1) x0; have mX := kept (later_trans (later_drew _) b1) H0.out.2.2.1; obtain ⟨y0, y1, lY⟩ := two_of mX; have fX0 := box_frozen (i := 0) mX; have fX1 := box_frozen (i := 1) mX; obtain ⟨ah, ch, rfl⟩ := owns_shape2 hO.own; have HO := Lib.hid (And.intro hO (And.intro hps (And.intro b1 mX))); clear hO hps b1 mX))
  all_goals (try go_wp2_with fail)
  all_goals
    (have hs0 := H0.out.2.2.2
     have hb3 := box_set (i := 1) (box_set (i := 0) HO.out.2.2.2 (.int .i64 m)) (.slice ah ps.length ch)
     have d0 := box_cell (i := 0) hb3
     have d1 := box_cell (i := 1) hb3
     simp at d0 d1
     have hsz : W0.drew.heap.size = W0.heap.size := rfl
     have hB' := below_set (i := 1) (u := .slice ah ps.length ch) (below_set (i := 0) (u := .int .i64 m) (later_trans H0.out.1 (later_trans (later_drew _) HO.out.2.2.1)) (show w.heap.size ≤ w.heap.size + 1 by omega)) (show w.heap.size ≤ w.heap.size + 1 by omega)
     have hO' := ((HO.out.1.setH HO.out.2.2.2 (i := 0) (.int .i64 m)).setH (box_set (i := 0) HO.out.2.2.2 (.int .i64 m)) (i := 1) (.slice ah ps.length ch)).down (show w.heap.size ≤ W0.drew.heap.size by omega)
     refine bodyPost_ret (v := hypV m (.slice ah ps.length ch)) (by simp [results, Tryd.results9, go_sem, d0, d1]) rfl ?_
     exact ⟨_, ps, rfl, hO', HO.out.2.1, hB'⟩)
/-- The same rows. -/
theorem same_any (v v' : Value) (ls : List (List Int)) (w : World) (h : SlRK .i64 w v ls) (h' : SlRK .i64 w v' ls) :
    Calls Tryd.prog 20 #[v, v'] w fun e w' => e = .returned (.bool true) ∧ Below w.heap.size w w' := by
  have hE := EqualFuncR_any v v' ls w h h'
  obtain ⟨a, c, rfl, -⟩ := h.open
  obtain ⟨a', c', rfl, -⟩ := h'.open
  clear h h'
  go_enter Tryd.func20, Tryd.ntmps20
  go_wp2_with fail
  refine hE.mono ?_
  rintro e w1 ⟨rfl, hb⟩
  have HB1 := Lib.hid hb
  clear hb
  go_wp2_with fail
  go_ret
  exact ⟨rfl, HB1.out⟩
def ringL : List (List Int) := [[0, 1], [1, 2], [0, 2]]
theorem lit_slI {W : World} {b : Nat} {xs : List Int} (h : W.heap[b]? = some (.cells (xs.map (Value.int .i64)).toArray 3 (0, 0))) (hl : xs.length ≤ maxLen) (hx : ∀ x ∈ xs, (Lit.int .i64 x).wf = true) : SlI .i64 W (.slice (some ⟨b, 0, none⟩) xs.length xs.length) xs :=
  SlI.of_owns (base := 0) (e := 3) (n := xs.length) ⟨by simp, .inr ⟨b, xs.length, _, rfl, Nat.zero_le _, h, Nat.le_refl _, hl, by simp, List.take_of_length_le (by simp)⟩⟩ hx
theorem lit_slR {W : World} {b : Nat} {vs : List Value} {ls : List (List Int)} (h : W.heap[b]? = some (.cells vs.toArray 27 (0, 0))) (hl : vs.length ≤ maxLen) (he : vs.length = ls.length) (hr : ∀ r, r < ls.length → SlI .i64 W (vs.getD r undef) (rowN ls r)) : SlRK .i64 W (.slice (some ⟨b, 0, none⟩) vs.length vs.length) ls := by
  refine ⟨fun r => vs.getD r undef, ?_, hr⟩
  have e : (List.range ls.length).map (fun r => vs.getD r undef) = vs := by
    refine List.ext_getElem (by simp [he]) fun i h1 h2 => ?_
    simp [List.getD, h2]
  rw [e]
  exact SlC.of_owns (base := 0) (e := 27) (n := vs.length) ⟨by simp, .inr ⟨b, vs.length, _, rfl, Nat.zero_le _, h, Nat.le_refl _, hl, by simp, by simp⟩⟩
set_option maxRecDepth 100000 in
set_option maxHeartbeats 2000000 in
theorem ring_any (w : World) : Calls Tryd.prog 28 #[] w fun e w' => ∃ hv, e = .returned (hypV 3 hv) ∧ SlRK .i64 w' hv ringL ∧ Below w.heap.size w w' := by
  go_enter Tryd.func28, Tryd.ntmps28
  go_wp2_with fail
  obtain ⟨V1, h1⟩ : ∃ V, w.alloc (.cells #[.int .i64 3, .slice (some ⟨w.heap.size + 1 + 1 + 1 + 1, 0, none⟩) 3 3] 24) = V := ⟨_, rfl⟩
  have s1 : V1.heap.size = w.heap.size + 1 := by rw [← h1, World.size_alloc]
  have n1 : V1.heap[w.heap.size]? = some (.cells #[.int .i64 3, .slice (some ⟨w.heap.size + 1 + 1 + 1 + 1, 0, none⟩) 3 3] 24 (0, 0)) := by rw [← h1]; exact box_new _ _ _
  have l1 : Below w.heap.size w V1 := by rw [← h1]; exact later_alloc _ _
  rw [h1]
  clear h1
  obtain ⟨V2, h2⟩ : ∃ V, V1.alloc (.cells #[.int .i64 0, .int .i64 1] 3) = V := ⟨_, rfl⟩
  have s2 : V2.heap.size = w.heap.size + 1 + 1 := by rw [← h2, World.size_alloc, s1]
  have n2 : V2.heap[w.heap.size + 1]? = some (.cells #[.int .i64 0, .int .i64 1] 3 (0, 0)) := by rw [← h2, ← s1]; exact box_new _ _ _
  have l2 : Below V1.heap.size V1 V2 := by rw [← h2]; exact later_alloc _ _
  rw [h2]
  clear h2
  obtain ⟨V3, h3⟩ : ∃ V, V2.alloc (.cells #[.int .i64 1, .int .i64 2] 3) = V := ⟨_, rfl⟩
  have s3 : V3.heap.size = w.heap.size + 1 + 1 + 1 := by rw [← h3, World.size_alloc, s2]
  have n3 : V3.heap[w.heap.size + 1 + 1]? = some (.cells #[.int .i64 1, .int .i64 2] 3 (0, 0)) := by rw [← h3, ← s2]; exact box_new _ _ _
  have l3 : Below V2.heap.size V2 V3 := by rw [← h3]; exact later_alloc _ _
  rw [h3]
  clear h3
  obtain ⟨V4, h4⟩ : ∃ V, V3.alloc (.cells #[.int .i64 0, .int .i64 2] 3) = V := ⟨_, rfl⟩
  have s4 : V4.heap.size = w.heap.size + 1 + 1 + 1 + 1 := by rw [← h4, World.size_alloc, s3]
  have n4 : V4.heap[w.heap.size + 1 + 1 + 1]? = some (.cells #[.int .i64 0, .int .i64 2] 3 (0, 0)) := by rw [← h4, ← s3]; exact box_new _ _ _
  have l4 : Below V3.heap.size V3 V4 := by rw [← h4]; exact later_alloc _ _
  rw [h4]
  clear h4
  obtain ⟨V5, h5⟩ : ∃ V, V4.alloc (.cells #[.slice (some ⟨w.heap.size + 1, 0, none⟩) 2 2, .slice (some ⟨w.heap.size + 1 + 1, 0, none⟩) 2 2, .slice (some ⟨w.heap.size + 1 + 1 + 1, 0, none⟩) 2 2] 27) = V := ⟨_, rfl⟩
  have n5 : V5.heap[w.heap.size + 1 + 1 + 1 + 1]? = some (.cells #[.slice (some ⟨w.heap.size + 1, 0, none⟩) 2 2, .slice (some ⟨w.heap.size + 1 + 1, 0, none⟩) 2 2, .slice (some ⟨w.heap.size + 1 + 1 + 1, 0, none⟩) 2 2] 27 (0, 0)) := by rw [← h5, ← s4]; exact box_new _ _ _
  have l5 : Below V4.heap.size V4 V5 := by rw [← h5]; exact later_alloc _ _
  rw [h5]
  clear h5
  have l25 := later_trans l3 (later_trans l4 l5)
  have m0 := kept (later_trans l2 l25) n1
  have d0 := box_cell (i := 0) m0
  have d1 := box_cell (i := 1) m0
  simp at d0 d1
  refine bodyPost_ret (v := hypV 3 (.slice (some ⟨w.heap.size + 1 + 1 + 1 + 1, 0, none⟩) 3 3)) (by simp [results, Tryd.results28, go_sem, d0, d1]) rfl ?_
  refine ⟨_, rfl, ?_, later_trans l1 (later_trans l2 l25)⟩
  refine lit_slR (vs := [.slice (some ⟨w.heap.size + 1, 0, none⟩) 2 2, .slice (some ⟨w.heap.size + 1 + 1, 0, none⟩) 2 2, .slice (some ⟨w.heap.size + 1 + 1 + 1, 0, none⟩) 2 2]) n5 (by simp [maxLen]) rfl fun r hr => ?_
  have hr3 : r = 0 ∨ r = 1 ∨ r = 2 := by
    have : r < 3 := hr
    omega
  rcases hr3 with rfl | rfl | rfl
  · exact lit_slI (xs := [0, 1]) (kept l25 n2) (by decide) (by decide)
  · exact lit_slI (xs := [1, 2]) (kept (later_trans l4 l5) n3) (by decide) (by decide)
  · exact lit_slI (xs := [0, 2]) (kept l5 n4) (by decide) (by decide)
end Go.Proofs.YtplidcbfbonjlaaDoor
