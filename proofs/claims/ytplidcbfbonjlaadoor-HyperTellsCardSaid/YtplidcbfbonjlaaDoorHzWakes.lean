/-
  The law's wakes, walked.
-/
import Derived.Test.YtplidcbfbonjlaaDoorHzWak
import Derived.Test.YtplidcbfbonjlaaDoorHzParts
namespace Go.Proofs.YtplidcbfbonjlaaDoor
open Go.RowKit Go.Shelf Go.Lib
set_option linter.unusedVariables false
set_option linter.unusedSimpArgs false

def givenL : List (List Int) := [[1, 0], [2, 1, 2], [3]]
theorem given_ok : ofB 4 givenL = true := by decide
theorem given_edges : edgesL givenL = fourL := by decide
theorem four_ok : hypB 4 fourL = true := by decide
theorem ring_ok : hypB 3 ringL = true := by decide
theorem four_len {v : Value} {ps : List (Value × List Int)} (h : ps.map Prod.snd = fourL) : ps.length = 3 := by
  have := congrArg List.length h
  rw [List.length_map] at this
  exact this
theorem ring_acyc {b : Bool} {out : List (List Int)} (h : LeftP 3 ringL out) (hb : b = true ↔ hypB 3 ringL = true ∧ out = []) : b = false := by
  cases b with
  | false => rfl
  | true =>
    have := (hb.1 rfl).2
    rw [ring_out h] at this
    cases this
theorem four_acyc {b : Bool} {out : List (List Int)} (h : LeftP 4 fourL out) (hb : b = true ↔ hypB 4 fourL = true ∧ out = []) : b = true := hb.2 ⟨four_ok, four_out h⟩
theorem Tells.is {e : Ending} {X : Prop} (h : Tells e X) (k : X) : e = .returned (.bool true) := by
  obtain ⟨b, rfl, hb⟩ := h
  rw [hb.2 k]
set_option maxRecDepth 100000 in
set_option maxHeartbeats 4000000 in
theorem wakes_any (w : World) (hT : TabW w) :
    Calls Tryd.prog 8 #[] w fun e w' => e = .returned (.bool true) ∧ Below w.heap.size w w' := by
  have HT := Lib.hid hT
  clear hT
  go_enter Tryd.func8, Tryd.ntmps8
  go_wp2_with fail
  obtain ⟨V1, h1⟩ : ∃ V, w.alloc (.cells #[.int .i64 1, .int .i64 0] 3) = V := ⟨_, rfl⟩
  have s1 : V1.heap.size = w.heap.size + 1 := by rw [← h1, World.size_alloc]
  have n1 : V1.heap[w.heap.size]? = some (.cells #[.int .i64 1, .int .i64 0] 3 (0, 0)) := by rw [← h1]; exact box_new _ _ _
  have l1 : Below w.heap.size w V1 := by rw [← h1]; exact later_alloc _ _
  rw [h1]
  clear h1
  obtain ⟨V2, h2⟩ : ∃ V, V1.alloc (.cells #[.int .i64 2, .int .i64 1, .int .i64 2] 3) = V := ⟨_, rfl⟩
  have s2 : V2.heap.size = w.heap.size + 1 + 1 := by rw [← h2, World.size_alloc, s1]
  have n2 : V2.heap[w.heap.size + 1]? = some (.cells #[.int .i64 2, .int .i64 1, .int .i64 2] 3 (0, 0)) := by rw [← h2, ← s1]; exact box_new _ _ _
  have l2 : Below V1.heap.size V1 V2 := by rw [← h2]; exact later_alloc _ _
  rw [h2]
  clear h2
  obtain ⟨V3, h3⟩ : ∃ V, V2.alloc (.cells #[.int .i64 3] 3) = V := ⟨_, rfl⟩
  have s3 : V3.heap.size = w.heap.size + 1 + 1 + 1 := by rw [← h3, World.size_alloc, s2]
  have n3 : V3.heap[w.heap.size + 1 + 1]? = some (.cells #[.int .i64 3] 3 (0, 0)) := by rw [← h3, ← s2]; exact box_new _ _ _
  have l3 : Below V2.heap.size V2 V3 := by rw [← h3]; exact later_alloc _ _
  rw [h3]
  clear h3
  obtain ⟨V5, h5⟩ : ∃ V, V3.alloc (.cells #[.slice (some ⟨w.heap.size, 0, none⟩) 2 2, .slice (some ⟨w.heap.size + 1, 0, none⟩) 3 3, .slice (some ⟨w.heap.size + 1 + 1, 0, none⟩) 1 1] 27) = V := ⟨_, rfl⟩
  have n5 : V5.heap[w.heap.size + 1 + 1 + 1]? = some (.cells #[.slice (some ⟨w.heap.size, 0, none⟩) 2 2, .slice (some ⟨w.heap.size + 1, 0, none⟩) 3 3, .slice (some ⟨w.heap.size + 1 + 1, 0, none⟩) 1 1] 27 (0, 0)) := by rw [← h5, ← s3]; exact box_new _ _ _
  have l5 : Below V3.heap.size V3 V5 := by rw [← h5]; exact later_alloc _ _
  rw [h5]
  clear h5
  have l25 := later_trans l2 (later_trans l3 l5)
  have l05 := later_trans l1 l25
  have hG : SlRK .i64 V5 (.slice (some ⟨w.heap.size + 1 + 1 + 1, 0, none⟩) 3 3) givenL := by
    refine lit_slR (vs := [.slice (some ⟨w.heap.size, 0, none⟩) 2 2, .slice (some ⟨w.heap.size + 1, 0, none⟩) 3 3, .slice (some ⟨w.heap.size + 1 + 1, 0, none⟩) 1 1]) n5 (by simp [maxLen]) rfl fun r hr => ?_
    have hr3 : r = 0 ∨ r = 1 ∨ r = 2 := by
      have : r < 3 := hr
      omega
    rcases hr3 with rfl | rfl | rfl
    · exact lit_slI (xs := [1, 0]) (kept l25 n1) (by decide) (by decide)
    · exact lit_slI (xs := [2, 1, 2]) (kept (later_trans l3 l5) n2) (by decide) (by decide)
    · exact lit_slI (xs := [3]) (kept l5 n3) (by decide) (by decide)
  have hOf := Of_any 4 _ givenL V5 hG (HT.out.later l05)
  rw [given_ok, given_edges] at hOf
  have HO := Lib.hid (And.intro hOf l05)
  clear hOf hG l05 l25 l5 n5 l3 n3 s3 l2 n2 s2 l1 n1 s1
  refine HO.out.1.mono ?_
  rintro e W1 ⟨hv, m', rfl, hif, b1⟩
  rw [if_pos rfl] at hif
  obtain ⟨rfl, ps, hO, hps⟩ := hif
  rw [if_pos rfl]
  obtain ⟨ah, ch, rfl⟩ := owns_shape2 hO.own
  have hS1 : SlRK .i64 W1 (.slice ah ps.length ch) fourL := by rw [← hps]; exact hO.slR
  have hpl := four_len (v := .slice ah ps.length ch) hps
  rw [hpl] at hS1
  rw [hpl]
  clear hO hps hpl
  obtain ⟨W2, hW2⟩ : ∃ W, W = W1.alloc (.cells #[.int .i64 4, .slice ah 3 ch] 24) := ⟨_, rfl⟩
  have b2 : Below W1.heap.size W1 W2 := by rw [hW2]; exact later_alloc _ _
  have bH : HB W2 W1.heap.size 4 (.slice ah 3 ch) := by rw [hW2]; exact box_new _ _ _
  have H2 := Lib.hid (And.intro (hS1.later b2) (And.intro bH (later_trans HO.out.2 (later_trans b1 b2))))
  obtain ⟨x0, x1, lX⟩ := two_of bH
  clear hS1 b1 b2 bH
  go_wp2_with fail
  rw [← hW2]
  clear hW2
  refine (Tree_any 4 _ fourL W2 H2.out.1).mono ?_
  rintro e W3 ⟨tv, P, no, rfl, hP, hTr, b3⟩
  obtain ⟨rfl, hPl, hJ⟩ := four_tree hTr
  obtain ⟨at', ct, rfl⟩ := owns_shape2 hP
  have hPI : SlI .i64 W3 (.slice at' P.length ct) P := SlI.of_owns hP (fun x hx => by
    obtain ⟨i, hi, rfl⟩ := List.mem_iff_getElem.1 hx
    rcases hJ.root.at hi with q | q
    · rw [List.getD, List.getElem?_eq_getElem hi] at q
      simp only [Option.getD_some] at q
      rw [q]; decide
    · rw [List.getD, List.getElem?_eq_getElem hi] at q
      simp only [Option.getD_some] at q
      exact WalkArith.wf_i64 (by omega))
  rw [hPl] at hPI
  rw [hPl]
  have H3 := Lib.hid (And.intro hPI (And.intro hJ (And.intro hPl (And.intro (H2.out.1.later b3) (And.intro (kept b3 H2.out.2.1) (later_trans H2.out.2.2 b3))))))
  clear hP hTr b3 hPl hJ hPI x0 x1 lX
  go_wp2_with fail
  refine (ring_any W3).mono ?_
  rintro e W4 ⟨rv, rfl, hR, b4⟩
  obtain ⟨ra, rc, rfl, -⟩ := hR.open
  have H4 := Lib.hid (And.intro hR b4)
  clear hR b4
  go_wp2_with fail
  refine (Tree_any 3 _ ringL W4 H4.out.1).mono ?_
  rintro e W5 ⟨tv, Q, no, rfl, hQ, hTr, b5⟩
  obtain rfl := ring_tree hTr
  obtain ⟨aq, cq, rfl⟩ := owns_shape2 hQ
  have b35 := later_trans H4.out.2 b5
  obtain ⟨x0, x1, lX⟩ := two_of (kept b35 H3.out.2.2.2.2.1)
  have H5 := Lib.hid b35
  clear hQ hTr b5 b35
  go_wp2_with fail
  refine (Acyclic_any 4 _ fourL W5 (H3.out.2.2.2.1.later H5.out) (HT.out.later (later_trans H3.out.2.2.2.2.2 H5.out))).mono ?_
  rintro e W6 ⟨b, out, rfl, hL, hb, b6⟩
  obtain rfl := four_acyc hL hb
  have H6 := Lib.hid (later_trans H5.out b6)
  clear hL hb b6 x0 x1 lX
  go_wp2_with fail
  refine (ring_any W6).mono ?_
  rintro e W7 ⟨rv, rfl, hR, b7⟩
  obtain ⟨ra, rc, rfl, -⟩ := hR.open
  have H7 := Lib.hid (And.intro hR (later_trans H6.out b7))
  clear hR b7
  go_wp2_with fail
  refine (Acyclic_any 3 _ ringL W7 H7.out.1 (HT.out.later (later_trans H3.out.2.2.2.2.2 H7.out.2))).mono ?_
  rintro e W8 ⟨b, out, rfl, hL, hb, b8⟩
  obtain rfl := ring_acyc hL hb
  have H8 := Lib.hid (later_trans H7.out.2 b8)
  clear hL hb b8
  go_wp2_with fail
  refine (ring_any W8).mono ?_
  rintro e W9 ⟨rv, rfl, hR, b9⟩
  obtain ⟨ra, rc, rfl, -⟩ := hR.open
  have H9 := Lib.hid (And.intro hR (later_trans H8.out b9))
  clear hR b9
  go_wp2_with fail
  refine (Left_any 3 _ ringL W9 H9.out.1 (HT.out.later (later_trans H3.out.2.2.2.2.2 H9.out.2))).mono ?_
  rintro e Wa ⟨lv, out, rfl, hv, hL, ba⟩
  obtain rfl := ring_out hL
  obtain ⟨la, lc, rfl, -⟩ := hv.open
  have b3a := later_trans H9.out.2 ba
  obtain ⟨x0, x1, lX⟩ := two_of (kept b3a H3.out.2.2.2.2.1)
  have Ha := Lib.hid b3a
  clear hv hL ba b3a
  go_wp2_with fail
  refine (Parts_any 4 _ fourL Wa (H3.out.2.2.2.1.later Ha.out) (HT.out.later (later_trans H3.out.2.2.2.2.2 Ha.out)) four_ok).mono ?_
  rintro e Wb ⟨pv, rfl, hv, bb⟩
  obtain ⟨pa, pc, rfl, -⟩ := hv.open
  have b3b := later_trans Ha.out bb
  have hln : (partsTo fourL (4 : Int).toNat).length = 2 := four_parts
  rw [hln]
  clear x0 x1 lX
  obtain ⟨x0, x1, lX⟩ := two_of (kept b3b H3.out.2.2.2.2.1)
  have Hb := Lib.hid b3b
  clear hv bb b3b hln
  go_wp2_with fail
  refine (Joins_any 4 _ _ fourL P Wb (H3.out.2.2.2.1.later Hb.out) (H3.out.1.later Hb.out) (by have := H3.out.2.2.1; omega)).mono ?_
  rintro e Wc ⟨hTe, bc⟩
  obtain rfl := hTe.is ⟨four_ok, H3.out.2.1⟩
  have Hc := Lib.hid (later_trans H3.out.2.2.2.2.2 (later_trans Hb.out bc))
  clear x0 x1 lX hTe bc
  go_wp2_with fail
  go_ret
  exact ⟨rfl, Hc.out⟩
end Go.Proofs.YtplidcbfbonjlaaDoor
