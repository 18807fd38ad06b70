/-
  The laws' small, wakes, walked.
-/
import Derived.Laws.StructEq
import Derived.Test.YtdmfhlfhlflakaaDoorPlOrd
import Derived.Test.YtdmfhlfhlflakaaDoorPlLim
namespace Go.Proofs.YtdmfhlfhlflakaaDoor
open Go.RowKit
set_option linter.unusedVariables false
set_option linter.unusedSimpArgs false

def smallS : Shp := ⟨3, [[0, 1], [1, 2], [0, 2]], [9, 4, 16]⟩
def smallC : Cov := ⟨[1, 1, 1], 2⟩
theorem small_ok : shpB smallS = true := by decide
theorem small_cov : coversB smallS smallC = true := by decide
theorem small_need : needN smallS smallC = 576 := by decide
theorem small_cho : chosenTo smallS smallS.many.toNat = [1, 2, 0] := by decide
theorem small_no : ordersB smallS.many [2, 0] = false := by decide
theorem small_size : sizeO smallS 0 = some 9 := by decide
theorem small_boundE : boundE smallS smallC = 0 := by
  unfold boundE
  rw [if_pos small_ok, if_pos small_cov, small_need, if_pos (by decide)]
theorem small_boundN : boundN smallS smallC = 24 := by
  unfold boundN
  rw [if_pos small_boundE, small_need]
  exact rootN_of (low := 23) (by decide) (by decide) (by decide)
theorem small_boundV : boundV smallS smallC = .tuple #[.agg #[.int .u64 0, .int .u64 24], .int .i64 0] := by
  unfold boundV
  rw [small_boundN, small_boundE]; rfl
theorem small_lg : lg (maxTo (1 :: smallS.sizes) (smallS.sizes.length + 1)) = 4 := by
  have e : maxTo (1 :: smallS.sizes) (smallS.sizes.length + 1) = 16 := by decide
  rw [e, lg_half 16 (by decide), lg_half _ (by decide), lg_half _ (by decide), lg_half _ (by decide), lg_small _ (by decide)]
theorem small_limitV : limitV smallS smallC = .tuple #[.agg #[.int .u64 0, .int .u64 17280], .int .i64 0] := by
  have e : prodTo (limL smallS smallC) 5 = 17280 := by
    unfold limL
    rw [small_lg, small_boundN]; rfl
  unfold limitV
  rw [if_pos small_boundE, e]
  unfold wres
  rw [if_pos (by decide)]; rfl

/-- A row as it is laid. -/
theorem sli_lit {k : IntKind} {W : World} {b : Nat} {t : TypeId} (xs : List Int) (hb : W.heap[b]? = some (.cells (xs.map (Value.int k)).toArray t (0, 0))) (hwf : ∀ x ∈ xs, (Lit.int k x).wf = true) (hl : xs.length ≤ maxLen) : SlI k W (.slice (some ⟨b, 0, none⟩) xs.length xs.length) xs := by
  refine ⟨⟨some ⟨b, 0, none⟩, xs.length, by rw [List.length_map], by simp, hl, fun e => (by cases e), fun _ => ⟨b, 0, rfl, lt_of_block hb, fun i u hu => ?_⟩⟩, hwf⟩
  rw [Nat.zero_add, box_cell hb]
  simpa using hu
/-- What small gives. -/
def SmallP (w : World) (e : Ending) (w' : World) : Prop := ∃ ev sv, e = .returned (shpV 3 ev sv) ∧ ShR w' ev sv smallS ∧ Below w.heap.size w w'
set_option maxRecDepth 100000 in
theorem small_any (w : World) : Calls Tryd.prog 48 #[] w (SmallP w) := by
  go_enter Tryd.func48, Tryd.ntmps48
  go_wp2
  obtain ⟨W0, hW0⟩ : ∃ W, W = (w).alloc (.cells #[.int .i64 3, .slice (some ⟨w.heap.size + 1 + 1 + 1 + 1, 0, none⟩) 3 3, .slice (some ⟨w.heap.size + 1 + 1 + 1 + 1 + 1, 0, none⟩) 3 3] 27) := ⟨_, rfl⟩
  have s0 : W0.heap.size = w.heap.size + 1 := by rw [hW0, World.size_alloc]
  have b0 : W0.heap[w.heap.size]? = some (.cells #[.int .i64 3, .slice (some ⟨w.heap.size + 1 + 1 + 1 + 1, 0, none⟩) 3 3, .slice (some ⟨w.heap.size + 1 + 1 + 1 + 1 + 1, 0, none⟩) 3 3] 27 (0, 0)) := by rw [hW0]; have h := box_new w #[.int .i64 3, .slice (some ⟨w.heap.size + 1 + 1 + 1 + 1, 0, none⟩) 3 3, .slice (some ⟨w.heap.size + 1 + 1 + 1 + 1 + 1, 0, none⟩) 3 3] 27; exact h
  have l0 : Below w.heap.size w W0 := by rw [hW0]; exact later_alloc _ _
  obtain ⟨W1, hW1⟩ : ∃ W, W = (W0).alloc (.cells #[.int .i64 0, .int .i64 1] 3) := ⟨_, rfl⟩
  have s1 : W1.heap.size = w.heap.size + 1 + 1 := by rw [hW1, World.size_alloc]; rw [s0]
  have b1 : W1.heap[w.heap.size + 1]? = some (.cells #[.int .i64 0, .int .i64 1] 3 (0, 0)) := by rw [hW1]; have h := box_new W0 #[.int .i64 0, .int .i64 1] 3; rw [s0] at h; exact h
  have l1 : Below W0.heap.size W0 W1 := by rw [hW1]; exact later_alloc _ _
  obtain ⟨W2, hW2⟩ : ∃ W, W = (W1).alloc (.cells #[.int .i64 1, .int .i64 2] 3) := ⟨_, rfl⟩
  have s2 : W2.heap.size = w.heap.size + 1 + 1 + 1 := by rw [hW2, World.size_alloc]; rw [s1]
  have b2 : W2.heap[w.heap.size + 1 + 1]? = some (.cells #[.int .i64 1, .int .i64 2] 3 (0, 0)) := by rw [hW2]; have h := box_new W1 #[.int .i64 1, .int .i64 2] 3; rw [s1] at h; exact h
  have l2 : Below W1.heap.size W1 W2 := by rw [hW2]; exact later_alloc _ _
  obtain ⟨W3, hW3⟩ : ∃ W, W = (W2).alloc (.cells #[.int .i64 0, .int .i64 2] 3) := ⟨_, rfl⟩
  have s3 : W3.heap.size = w.heap.size + 1 + 1 + 1 + 1 := by rw [hW3, World.size_alloc]; rw [s2]
  have b3 : W3.heap[w.heap.size + 1 + 1 + 1]? = some (.cells #[.int .i64 0, .int .i64 2] 3 (0, 0)) := by rw [hW3]; have h := box_new W2 #[.int .i64 0, .int .i64 2] 3; rw [s2] at h; exact h
  have l3 : Below W2.heap.size W2 W3 := by rw [hW3]; exact later_alloc _ _
  obtain ⟨W4, hW4⟩ : ∃ W, W = (W3).alloc (.cells #[.slice (some ⟨w.heap.size + 1, 0, none⟩) 2 2, .slice (some ⟨w.heap.size + 1 + 1, 0, none⟩) 2 2, .slice (some ⟨w.heap.size + 1 + 1 + 1, 0, none⟩) 2 2] 25) := ⟨_, rfl⟩
  have s4 : W4.heap.size = w.heap.size + 1 + 1 + 1 + 1 + 1 := by rw [hW4, World.size_alloc]; rw [s3]
  have b4 : W4.heap[w.heap.size + 1 + 1 + 1 + 1]? = some (.cells #[.slice (some ⟨w.heap.size + 1, 0, none⟩) 2 2, .slice (some ⟨w.heap.size + 1 + 1, 0, none⟩) 2 2, .slice (some ⟨w.heap.size + 1 + 1 + 1, 0, none⟩) 2 2] 25 (0, 0)) := by rw [hW4]; have h := box_new W3 #[.slice (some ⟨w.heap.size + 1, 0, none⟩) 2 2, .slice (some ⟨w.heap.size + 1 + 1, 0, none⟩) 2 2, .slice (some ⟨w.heap.size + 1 + 1 + 1, 0, none⟩) 2 2] 25; rw [s3] at h; exact h
  have l4 : Below W3.heap.size W3 W4 := by rw [hW4]; exact later_alloc _ _
  obtain ⟨W5, hW5⟩ : ∃ W, W = (W4).alloc (.cells #[.int .i64 9, .int .i64 4, .int .i64 16] 3) := ⟨_, rfl⟩
  have s5 : W5.heap.size = w.heap.size + 1 + 1 + 1 + 1 + 1 + 1 := by rw [hW5, World.size_alloc]; rw [s4]
  have b5 : W5.heap[w.heap.size + 1 + 1 + 1 + 1 + 1]? = some (.cells #[.int .i64 9, .int .i64 4, .int .i64 16] 3 (0, 0)) := by rw [hW5]; have h := box_new W4 #[.int .i64 9, .int .i64 4, .int .i64 16] 3; rw [s4] at h; exact h
  have l5 : Below W4.heap.size W4 W5 := by rw [hW5]; exact later_alloc _ _
  replace b0 := kept l1 b0
  replace b0 := kept l2 b0
  replace b0 := kept l3 b0
  replace b0 := kept l4 b0
  replace b0 := kept l5 b0
  replace b1 := kept l2 b1
  replace b1 := kept l3 b1
  replace b1 := kept l4 b1
  replace b1 := kept l5 b1
  replace b2 := kept l3 b2
  replace b2 := kept l4 b2
  replace b2 := kept l5 b2
  replace b3 := kept l4 b3
  replace b3 := kept l5 b3
  replace b4 := kept l5 b4
  have hbel : Below w.heap.size w W5 := later_trans l0 (later_trans l1 (later_trans l2 (later_trans l3 (later_trans l4 l5))))
  rw [← hW0, ← hW1, ← hW2, ← hW3, ← hW4, ← hW5]
  refine bodyPost_ret (v := shpV 3 (.slice (some ⟨w.heap.size + 1 + 1 + 1 + 1, 0, none⟩) 3 3) (.slice (some ⟨w.heap.size + 1 + 1 + 1 + 1 + 1, 0, none⟩) 3 3)) (by
    have c0 := box_cell (i := 0) b0
    have c1 := box_cell (i := 1) b0
    have c2 := box_cell (i := 2) b0
    simp at c0 c1 c2
    simp [results, Tryd.results48, go_sem, c0, c1, c2]) rfl ?_
  refine ⟨_, _, rfl, ⟨⟨fun r => if r = 0 then .slice (some ⟨w.heap.size + 1, 0, none⟩) 2 2 else if r = 1 then .slice (some ⟨w.heap.size + 1 + 1, 0, none⟩) 2 2 else .slice (some ⟨w.heap.size + 1 + 1 + 1, 0, none⟩) 2 2, ?_, ?_⟩, sli_lit [9, 4, 16] b5 (by decide) (by decide), by decide⟩, hbel⟩
  · refine ⟨some ⟨w.heap.size + 1 + 1 + 1 + 1, 0, none⟩, 3, rfl, by simp [smallS], by decide, fun e => (by cases e), fun _ => ⟨w.heap.size + 1 + 1 + 1 + 1, 0, rfl, lt_of_block b4, fun i u hu => ?_⟩⟩
    rw [Nat.zero_add, box_cell b4]
    have hu' : ([.slice (some ⟨w.heap.size + 1, 0, none⟩) 2 2, .slice (some ⟨w.heap.size + 1 + 1, 0, none⟩) 2 2, .slice (some ⟨w.heap.size + 1 + 1 + 1, 0, none⟩) 2 2] : List Value)[i]? = some u := hu
    simpa using hu'
  · intro r hr
    have hr' : r < 3 := hr
    have : r = 0 ∨ r = 1 ∨ r = 2 := by omega
    rcases this with rfl | rfl | rfl
    · exact sli_lit [0, 1] b1 (by decide) (by decide)
    · exact sli_lit [1, 2] b2 (by decide) (by decide)
    · exact sli_lit [0, 2] b3 (by decide) (by decide)

theorem eql_wide (h l h' l' : Int) (w : World) : (binOp .eql 35 (.agg #[.int .u64 h, .int .u64 l]) (.agg #[.int .u64 h', .int .u64 l'])).run Tryd.prog w = .ok (.bool (decide (h = h') && decide (l = l'))) w := by
  have u := Tryd.underlying33
  have hS : Tryd.prog.underlying 35 = some (.struct (Tryd.prog.fieldsOf 35)) := by kernel_rfl
  have hp : Tryd.prog.stoodInHeld 35 = false := by kernel_rfl
  rw [run_eql_struct, show (10000 : Nat) = 9999 + 1 from rfl, run_equalIn_agg w 9999 35 _ _ hS hp]
  simp only [Program.fieldsOf, Tryd.underlying35]
  go_simp
  by_cases ha : h = h' <;> by_cases hb : l = l' <;> simp [ha, hb]
theorem guard_wide (x y : Operand) (xs ys : Array Value) (w : World) : (eqGuard .eql 35 x y (.agg xs) (.agg ys)).run Tryd.prog w = .ok () w := run_eqGuard_agg w .eql 35 x y xs ys (by kernel_rfl)

set_option maxRecDepth 100000 in
set_option maxHeartbeats 4000000 in
theorem wakes_any (w : World) (hO : One w) : Calls Tryd.prog 9 #[] w fun e w' => e = .returned (.bool true) ∧ Below w.heap.size w w' := by
  have HO := Lib.hid hO
  clear hO
  have heq := eql_wide
  have hgd := guard_wide
  go_enter Tryd.func9, Tryd.ntmps9
  go_wp2_with fail
  refine (small_any _).mono ?_
  rintro e w1 ⟨ev1, sv1, rfl, hS1, hb1⟩
  have H1 := Lib.hid (And.intro hS1 hb1)
  obtain ⟨a1, c1, rfl, -⟩ := hS1.edges.open
  obtain ⟨a2, c2, rfl, -⟩ := hS1.sizes.open
  clear hS1 hb1
  go_wp2_with fail
  refine (order_chosen smallS _ _ none 0 _ H1.out.1 small_ok).mono ?_
  rintro e w2 ⟨vo, rfl, ho, hb2⟩
  rw [small_cho] at ho
  obtain ⟨ao, co, rfl⟩ := owns_shape2 ho
  have hO2 : SlI .i64 w2 (.slice ao 3 co) [1, 2, 0] := SlI.of_owns ho (by decide)
  have K2 := Lib.hid (And.intro hO2 (later_trans H1.out.2 hb2))
  clear ho hb2 hO2
  go_wp2_with fail
  refine (small_any _).mono ?_
  rintro e w3 ⟨ev3, sv3, rfl, hS3, hb3⟩
  have K3 := Lib.hid (And.intro (K2.out.1.later hb3) (later_trans K2.out.2 hb3))
  have H3 := Lib.hid hS3
  obtain ⟨p3, q3, rfl, -⟩ := hS3.edges.open
  obtain ⟨r3, u3, rfl, -⟩ := hS3.sizes.open
  clear hS3 hb3
  go_wp2_with fail
  refine (Bound_any smallS smallC _ _ _ _ (H3.out.later (later_alloc _ _)) (sli_lit [1, 1, 1] (box_new _ _ _) (by decide) (by decide)) (HO.out.later (later_trans K3.out.2 (later_alloc _ _)))).mono ?_
  rintro e w4 ⟨rfl, hb4⟩
  rw [small_boundV]
  have hb4' := later_trans (later_alloc w3 _) hb4
  have K4 := Lib.hid (And.intro (box_new w4 #[.int .u64 0, .int .u64 24] 35) (And.intro ((K3.out.1.later hb4').alloc (.cells #[.int .u64 0, .int .u64 24] 35)) (later_trans (later_trans K3.out.2 hb4') (later_alloc _ (.cells #[.int .u64 0, .int .u64 24] 35)))))
  clear hb4 hb4'
  go_wp2_with fail
  refine (small_any _).mono ?_
  rintro e w5 ⟨ev5, sv5, rfl, hS5, hb5⟩
  have K5 := Lib.hid (And.intro (kept hb5 K4.out.1) (And.intro (K4.out.2.1.later hb5) (later_trans K4.out.2.2 hb5)))
  have H5 := Lib.hid hS5
  obtain ⟨p5, q5, rfl, -⟩ := hS5.edges.open
  obtain ⟨r5, u5, rfl, -⟩ := hS5.sizes.open
  clear hS5 hb5
  go_wp2_with fail
  refine (Limit_any smallS smallC _ _ _ _ (H5.out.later (later_alloc _ _)) (sli_lit [1, 1, 1] (box_new _ _ _) (by decide) (by decide)) (HO.out.later (later_trans K5.out.2.2 (later_alloc _ _)))).mono ?_
  rintro e w6 ⟨rfl, hb6⟩
  rw [small_limitV]
  have hb6' := later_trans (later_alloc w5 _) hb6
  have hb6'' := later_trans hb6' (later_alloc w6 (.cells #[.int .u64 0, .int .u64 17280] 35))
  have K6 := Lib.hid (And.intro (kept hb6'' K5.out.1) (And.intro (box_new w6 #[.int .u64 0, .int .u64 17280] 35) (And.intro (K5.out.2.1.later hb6'') (later_trans K5.out.2.2 hb6''))))
  clear hb6 hb6' hb6''
  go_wp2_with fail
  refine (small_any _).mono ?_
  rintro e w7 ⟨ev7, sv7, rfl, hS7, hb7⟩
  have K7 := Lib.hid (And.intro (kept hb7 K6.out.1) (And.intro (kept hb7 K6.out.2.1) (And.intro (K6.out.2.2.1.later hb7) (later_trans K6.out.2.2.2 hb7))))
  have H7 := Lib.hid hS7
  obtain ⟨p7, q7, rfl, -⟩ := hS7.edges.open
  obtain ⟨r7, u7, rfl, -⟩ := hS7.sizes.open
  clear hS7 hb7
  go_wp2_with fail
  refine (order_no smallS _ _ _ [2, 0] _ (H7.out.later (later_alloc _ _)) (sli_lit [2, 0] (box_new _ _ _) (by decide) (by decide)) small_ok (by decide) small_no).mono ?_
  rintro e w8 ⟨rfl, hb8⟩
  have hb8' := later_trans (later_alloc w7 _) hb8
  have K8 := Lib.hid (And.intro (kept hb8' K7.out.1) (And.intro (kept hb8' K7.out.2.1) (And.intro (K7.out.2.2.1.later hb8') (later_trans K7.out.2.2.2 hb8'))))
  clear hb8 hb8'
  go_wp2_with fail
  refine (small_any _).mono ?_
  rintro e w9 ⟨ev9, sv9, rfl, hS9, hb9⟩
  have K9 := Lib.hid (And.intro (kept hb9 K8.out.1) (And.intro (kept hb9 K8.out.2.1) (And.intro (K8.out.2.2.1.later hb9) (later_trans K8.out.2.2.2 hb9))))
  have H9 := Lib.hid hS9
  obtain ⟨p9, q9, rfl, -⟩ := hS9.edges.open
  obtain ⟨r9, u9, rfl, -⟩ := hS9.sizes.open
  clear hS9 hb9
  go_wp2_with fail
  refine (Size_any smallS _ _ 0 _ H9.out).mono ?_
  rintro e wa ⟨rfl, hba⟩
  rw [if_pos small_ok, small_size]
  have hba' := later_trans hba (later_alloc wa (.cells #[.int .i64 1, .int .i64 2, .int .i64 0] 3))
  have KA := Lib.hid (And.intro (kept hba' K9.out.1) (And.intro (kept hba' K9.out.2.1) (And.intro (K9.out.2.2.1.later hba') (later_trans K9.out.2.2.2 hba'))))
  clear hba hba'
  unfold sizeV
  go_wp2_with fail
  refine (equalI_any _ _ [1, 2, 0] [1, 2, 0] _ KA.out.2.2.1 (sli_lit [1, 2, 0] (box_new _ _ _) (by decide) (by decide))).mono ?_
  rintro e wb ⟨rfl, nb, hwb⟩
  rw [decide_eq_true (rfl : ([1, 2, 0] : List Int) = [1, 2, 0])]
  have hbb : Below (wa.alloc (.cells #[.int .i64 1, .int .i64 2, .int .i64 0] 3)).heap.size (wa.alloc (.cells #[.int .i64 1, .int .i64 2, .int .i64 0] 3)) wb := by rw [hwb]; exact later_drewN _ _
  clear hwb
  obtain ⟨x0, x1, -, -, -⟩ := two_of (kept hbb KA.out.1)
  obtain ⟨y0, y1, -, -, -⟩ := two_of (kept hbb KA.out.2.1)
  have KB := Lib.hid (later_trans KA.out.2.2.2 hbb)
  clear hbb
  go_wp2_with fail
  go_ret
  exact ⟨rfl, KB.out⟩
end Go.Proofs.YtdmfhlfhlflakaaDoor
