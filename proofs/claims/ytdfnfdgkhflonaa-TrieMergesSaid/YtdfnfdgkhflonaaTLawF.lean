/-
  The law TrieMerges, walked.
-/
import Derived.Test.YtdfnfdgkhflonaaTWakes
import Derived.Test.YtdfnfdgkhflonaaTJoinP
import Derived.Test.YtdfnfdgkhflonaaTSort3
import Derived.Test.YtdfnfdgkhflonaaTUnion
import Derived.Test.YtdfnfdgkhflonaaTRunH
namespace Go.Proofs.Ytdfnfdgkhflonaa
open Go.RowKit
set_option linter.unusedVariables false

theorem keep {W W' : World} {b : Nat} {o : Obj} (hb : Below W.heap.size W W') (h : W.heap[b]? = some o) : W'.heap[b]? = some o := (hb.block _ (lt_of_block h)).trans h
theorem two_cells {w : World} {b : Nat} {u v : Value} {e : TypeId} (h : w.heap[b]? = some (.cells #[u, v] e (0, 0))) : w.cell? ⟨b, 0, none⟩ = some u ∧ w.cell? ⟨b, 1, none⟩ = some v ∧ b < w.heap.size :=
  ⟨by simpa using box_cell (i := 0) h, by simpa using box_cell (i := 1) h, lt_of_block h⟩
theorem three_cells {w : World} {b : Nat} {x y z : Value} {e : TypeId} (h : w.heap[b]? = some (.cells #[x, y, z] e (0, 0))) : w.cell? ⟨b, 0, none⟩ = some x ∧ w.cell? ⟨b, 1, none⟩ = some y ∧ w.cell? ⟨b, 2, none⟩ = some z ∧ b < w.heap.size :=
  ⟨by simpa using box_cell (i := 0) h, by simpa using box_cell (i := 1) h, by simpa using box_cell (i := 2) h, lt_of_block h⟩

theorem fewS_any (v : Value) (xs : List Pr) (w : World) (h : SlP w v xs) :
    Calls Try.prog 35 #[v] w fun e w' => ∃ a5 c5, e = .returned (.slice a5 (xs.take (min xs.length 40)).length c5) ∧ SlP w' (.slice a5 (xs.take (min xs.length 40)).length c5) (xs.take (min xs.length 40)) ∧ Below w.heap.size w w' := by
  refine (few_any v xs w h).mono ?_
  rintro e w' ⟨v', rfl, ho, hb⟩
  obtain ⟨a5, c5, rfl⟩ := owns_shape2 ho
  exact ⟨a5, c5, rfl, ⟨SlT.of_owns ho, fun p hp => h.2 p (List.mem_of_mem_take hp)⟩, hb⟩

/-- What Of gives. -/
def JO (l : List Pr) (mB : List Br) (mL : List Int) (q : Int) : Prop := (RunOk l → mB = brOf l ∧ mL = l.map Pr.b ∧ q = 0) ∧ (¬ RunOk l → q = 130)
theorem ofU_any (v : Value) (l : List Pr) (w : World) (h : SlP w v l) :
    Calls Try.prog 37 #[v] w fun e w' => ∃ ab cb al cl mB mL q, e = .returned (.tuple #[.agg #[.slice ab mB.length cb, .slice al mL.length cl], .int .i64 q]) ∧ Below w.heap.size w w' ∧ SlB w' (.slice ab mB.length cb) mB ∧ SlI .u64 w' (.slice al mL.length cl) mL ∧ JO l mB mL q := by
  refine (of_any v l w h).mono ?_
  rintro e w' ⟨vb', vl', q, rfl, hb, hy, hn⟩
  by_cases hr : RunOk l
  · obtain ⟨rfl, hB', hL'⟩ := hy hr
    obtain ⟨ab, cb, rfl⟩ := owns_shape2 hB'
    rw [List.length_map] at hL'
    obtain ⟨al, cl, rfl⟩ := owns_shape2 hL'
    have e1 : (l.map Pr.b).length = l.length := by simp
    refine ⟨ab, cb, al, cl, brOf l, l.map Pr.b, 0, by rw [e1], hb, ⟨SlT.of_owns hB', br_wf h.2 hr.1⟩, ?_, fun _ => ⟨rfl, rfl, rfl⟩, fun h' => absurd hr h'⟩
    rw [e1]; exact SlI.of_owns hL' (leaf_wf h.2)
  · obtain ⟨rfl, rfl, rfl⟩ := hn hr
    exact ⟨none, 0, none, 0, [], [], 130, rfl, hb, SlB.nil _, SlI.nil _ _, fun h' => absurd h' hr, fun _ => rfl⟩

theorem joined {l m : List Pr} (h : RunOk l) (k : RunOk m) {mB : List Br} {mL : List Int} {q : Int} (j : JM (brOf l) (brOf m) (l.map Pr.b) (m.map Pr.b) mB mL q) : mB = brOf (unionL l m) ∧ mL = (unionL l m).map Pr.b ∧ q = 0 := by
  have := j.1 ⟨of_trie h, of_trie k⟩
  unfold bothOf at this
  rw [run_of h, run_of k] at this
  exact this
theorem parted {l : List Pr} (h : RunOk l) {f t : Int} (hft : f ≤ t) {mB : List Br} {mL : List Int} {q : Int} (j : JC (brOf l) (l.map Pr.b) f t mB mL q) : mB = brOf (l.filter (fun p => !cutB f t p)) ∧ mL = (l.filter (fun p => !cutB f t p)).map Pr.b ∧ q = 0 := by
  have := j.1 (of_trie h) hft
  unfold partOf at this
  rw [run_of h] at this
  exact this

/-- Merge's rows are the call's own. -/
theorem mergeO_any (va vl vb vm : Value) (A B : List Br) (L M : List Int) (w : World) (hA : SlB w va A) (hL : SlI .u64 w vl L) (hB : SlB w vb B) (hM : SlI .u64 w vm M) (hLm : L.length + M.length ≤ 1048575) :
    Calls Try.prog 47 #[.agg #[va, vl], .agg #[vb, vm]] w fun e w' => ∃ ab cb al cl mB mL q, e = .returned (.tuple #[.agg #[.slice ab mB.length cb, .slice al mL.length cl], .int .i64 q]) ∧ Below w.heap.size w w' ∧ w'.ownsRow w.heap.size 40 3 (.slice ab mB.length cb) mB.length (mB.flatMap Br.cells) ∧
      w'.ownsRow w.heap.size 38 1 (.slice al mL.length cl) mL.length (mL.map (.int .u64)) ∧ (∀ b ∈ mB, b.wf) ∧ (∀ x ∈ mL, (Lit.int .u64 x).wf = true) ∧ JM A B L M mB mL q := by
  refine (merge_any va vl vb vm A B L M w hA hL hB hM hLm).mono ?_
  rintro e w' ⟨vb', vl', q, rfl, hb, hy, hn⟩
  by_cases h : TrieOk A L ∧ TrieOk B M
  · obtain ⟨rfl, hB', hL'⟩ := hy h
    obtain ⟨ab, cb, rfl⟩ := owns_shape2 hB'
    rw [List.length_map] at hL'
    obtain ⟨al, cl, rfl⟩ := owns_shape2 hL'
    have hwu : ∀ p ∈ bothOf A B L M, p.wf := union_wf (run_wf hA hL) (run_wf hB hM)
    have hlu : (bothOf A B L M).length ≤ 1048575 := Nat.le_trans (union_len _ _) (by rw [run_length h.1, run_length h.2]; exact hLm)
    have e1 : ((bothOf A B L M).map Pr.b).length = (bothOf A B L M).length := by simp
    refine ⟨ab, cb, al, cl, brOf (bothOf A B L M), (bothOf A B L M).map Pr.b, 0, by rw [e1]; rfl, hb, hB', ?_, br_wf hwu (by omega), leaf_wf hwu, fun _ => ⟨rfl, rfl, rfl⟩, fun h' => absurd h h'⟩
    rw [e1]; exact hL'
  · obtain ⟨rfl, rfl, rfl⟩ := hn h
    exact ⟨none, 0, none, 0, [], [], 170, rfl, hb, World.ownsRow_nil _ _ _ _, World.ownsRow_nil _ _ _ _, (fun b hb => by cases hb), (fun b hb => by cases hb), fun h' => absurd h' h, fun _ => ⟨rfl, rfl, rfl⟩⟩

set_option maxRecDepth 100000 in
set_option maxHeartbeats 40000000 in
open Classical in
theorem lawMerges_walk (vx vy : Value) (x0 y0 : List Pr) (c0 c1 c2 : Int) (w : World) (hx : SlP w vx x0) (hy : SlP w vy y0) :
    Calls Try.prog 12 #[vx, vy, .agg #[.int .u64 c0, .int .u64 c1, .int .u64 c2]] w fun e w' => e = .returned (.bool true) ∧ Below w.heap.size w w' := by
  obtain ⟨a, c, rfl, -⟩ := hx.open
  obtain ⟨b, d, rfl, -⟩ := hy.open
  have HF1 := Lib.hid (fun V (hV : Below w.heap.size w V) => fewS_any _ x0 V (hx.later hV))
  have HF2 := Lib.hid (fun V (hV : Below w.heap.size w V) => fewS_any _ y0 V (hy.later hV))
  obtain ⟨l1, hl1⟩ : ∃ l, x0.take (min x0.length 40) = l := ⟨_, rfl⟩
  obtain ⟨l2, hl2⟩ : ∃ l, y0.take (min y0.length 40) = l := ⟨_, rfl⟩
  have hn1 : l1.length ≤ 40 := by rw [← hl1]; simp; omega
  have hn2 : l2.length ≤ 40 := by rw [← hl2]; simp; omega
  rw [hl1] at HF1
  rw [hl2] at HF2
  clear hx hy hl1 hl2
  obtain ⟨X5, hX5e⟩ : ∃ X, w.heap.size = X := ⟨_, rfl⟩
  obtain ⟨W0, hW0⟩ : ∃ W, w.alloc (.cells #[.int .u64 c0, .int .u64 c1, .int .u64 c2] 88) = W := ⟨_, rfl⟩
  have hb0 : Below w.heap.size w W0 := by rw [← hW0]; exact later_alloc _ _
  have bX5 : W0.heap[X5]? = some (.cells #[.int .u64 c0, .int .u64 c1, .int .u64 c2] 88 (0, 0)) := by rw [← hW0, ← hX5e]; exact box_new _ _ _
  have hX5w : w.heap.size ≤ X5 := by omega
  go_enter Try.func12, Try.ntmps12
  go_wp2_with fail
  refine (wakes7_any _).mono ?_
  rintro e w2 ⟨rfl, hb2⟩
  have hbA := later_trans hb0 hb2
  have bX5 := keep hb2 bX5
  clear hb2 hb0 hW0
  go_wp2_with fail
  refine (HF1.out _ hbA).mono ?_
  rintro e w3 ⟨a3, c3, rfl, s3, hb3⟩
  have bX5 := keep hb3 bX5
  have hbA := later_trans hbA hb3
  clear hb3
  go_wp2_with fail
  refine (ofU_any _ l1 _ s3).mono ?_
  rintro e w4 ⟨a4, d4, e4, f4, mB4, mL4, q4, rfl, hb4, sB4, sL4, j4⟩
  have J4 := Lib.hid j4
  have bX5 := keep hb4 bX5
  have s3 := s3.later hb4
  have hbA := later_trans hbA hb4
  clear hb4 j4
  clear s3
  have bX7 := box_new w4 #[.slice a4 mB4.length d4, .slice e4 mL4.length f4] 25
  have ha4 := later_alloc w4 (.cells #[.slice a4 mB4.length d4, .slice e4 mL4.length f4] 25)
  have bX5 := keep ha4 bX5
  have sB4 := sB4.later ha4
  have sL4 := sL4.later ha4
  have hbA := later_trans hbA ha4
  clear ha4
  go_wp2_with fail
  refine (HF2.out _ hbA).mono ?_
  rintro e w5 ⟨a5, c5, rfl, s5, hb5⟩
  have bX5 := keep hb5 bX5
  have bX7 := keep hb5 bX7
  have sB4 := sB4.later hb5
  have sL4 := sL4.later hb5
  have hbA := later_trans hbA hb5
  clear hb5
  go_wp2_with fail
  refine (ofU_any _ l2 _ s5).mono ?_
  rintro e w6 ⟨a6, d6, e6, f6, mB6, mL6, q6, rfl, hb6, sB6, sL6, j6⟩
  have J6 := Lib.hid j6
  have bX5 := keep hb6 bX5
  have bX7 := keep hb6 bX7
  have sB4 := sB4.later hb6
  have sL4 := sL4.later hb6
  have s5 := s5.later hb6
  have hbA := later_trans hbA hb6
  clear hb6 j6
  clear s5
  have bX9 := box_new w6 #[.slice a6 mB6.length d6, .slice e6 mL6.length f6] 25
  have ha6 := later_alloc w6 (.cells #[.slice a6 mB6.length d6, .slice e6 mL6.length f6] 25)
  have bX5 := keep ha6 bX5
  have bX7 := keep ha6 bX7
  have sB4 := sB4.later ha6
  have sL4 := sL4.later ha6
  have sB6 := sB6.later ha6
  have sL6 := sL6.later ha6
  have hbA := later_trans hbA ha6
  clear ha6
  by_cases hr : ¬ (RunOk l1 ∧ RunOk l2)
  · by_cases hr1 : RunOk l1
    · obtain ⟨-, -, rfl⟩ := J4.out.1 hr1
      obtain rfl := J6.out.2 (fun h => hr ⟨hr1, h⟩)
      go_wp2_with fail
      go_ret
      exact ⟨by simp, hbA⟩
    · obtain rfl := J4.out.2 hr1
      go_wp2_with fail
      go_ret
      exact ⟨by simp, hbA⟩
  have hr := Classical.not_not.1 hr
  obtain ⟨eB4, eL4, rfl⟩ := J4.out.1 hr.1
  obtain ⟨eB6, eL6, rfl⟩ := J6.out.1 hr.2
  have HR := Lib.hid hr
  have HB4 := Lib.hid eB4
  have HL4 := Lib.hid eL4
  have HB6 := Lib.hid eB6
  have HL6 := Lib.hid eL6
  clear hr J4 J6 eB4 eL4 eB6 eL6
  go_wp2_with fail
  refine (HF1.out _ hbA).mono ?_
  rintro e w7 ⟨a7, c7, rfl, s7, hb7⟩
  have bX5 := keep hb7 bX5
  have bX7 := keep hb7 bX7
  have bX9 := keep hb7 bX9
  have sB4 := sB4.later hb7
  have sL4 := sL4.later hb7
  have sB6 := sB6.later hb7
  have sL6 := sL6.later hb7
  have hbA := later_trans hbA hb7
  clear hb7
  go_wp2_with fail
  refine (HF2.out _ hbA).mono ?_
  rintro e w8 ⟨a8, c8, rfl, s8, hb8⟩
  have bX5 := keep hb8 bX5
  have bX7 := keep hb8 bX7
  have bX9 := keep hb8 bX9
  have sB4 := sB4.later hb8
  have sL4 := sL4.later hb8
  have sB6 := sB6.later hb8
  have sL6 := sL6.later hb8
  have s7 := s7.later hb8
  have hbA := later_trans hbA hb8
  clear hb8
  go_wp2_with fail
  refine (union_any _ _ l1 l2 _ s7 s8 HR.out.1 HR.out.2 (by omega)).mono ?_
  rintro e w9 ⟨v9, rfl, s9, hb9⟩
  have bX5 := keep hb9 bX5
  have bX7 := keep hb9 bX7
  have bX9 := keep hb9 bX9
  have sB4 := sB4.later hb9
  have sL4 := sL4.later hb9
  have sB6 := sB6.later hb9
  have sL6 := sL6.later hb9
  have s7 := s7.later hb9
  have s8 := s8.later hb9
  have hbA := later_trans hbA hb9
  clear hb9
  clear s7 s8
  obtain ⟨X7a, X7b, X7l⟩ := two_cells bX7
  obtain ⟨X9a, X9b, X9l⟩ := two_cells bX9
  go_wp2_with fail
  refine (mergeO_any _ _ _ _ _ _ _ _ _ sB4 sL4 sB6 sL6 (by rw [HL4.out, HL6.out]; simp; omega)).mono ?_
  rintro e w10 ⟨a10, d10, e10, f10, mB10, mL10, q10, rfl, hb10, oB10, oL10, wB, wL, j10⟩
  have J10 := Lib.hid j10
  have bX5 := keep hb10 bX5
  have bX7 := keep hb10 bX7
  have bX9 := keep hb10 bX9
  have sB4 := sB4.later hb10
  have sL4 := sL4.later hb10
  have sB6 := sB6.later hb10
  have sL6 := sL6.later hb10
  have s9 := s9.later hb10
  have hbA := later_trans hbA hb10
  clear hb10 j10
  have WB := Lib.hid wB
  have WL := Lib.hid wL
  clear wB wL
  clear X7a X7b X7l X9a X9b X9l
  clear sB4 sL4 sB6 sL6
  clear bX7 bX9
  have bX12 := box_new w10 #[.slice a10 mB10.length d10, .slice e10 mL10.length f10] 25
  have ha10 := later_alloc w10 (.cells #[.slice a10 mB10.length d10, .slice e10 mL10.length f10] 25)
  have bX5 := keep ha10 bX5
  have s9 := s9.later ha10
  have oB10 := owns_later oB10 ha10
  have oL10 := owns_later oL10 ha10
  have hbA := later_trans hbA ha10
  clear ha10
  have hru : RunOk (unionL l1 l2) := union_run HR.out.1 HR.out.2 (by omega)
  have hul : (unionL l1 l2).length ≤ 80 := Nat.le_trans (union_len l1 l2) (by omega)
  have jj := J10.out
  rw [HB4.out, HL4.out, HB6.out, HL6.out] at jj
  obtain ⟨eB10, eL10, rfl⟩ := joined HR.out.1 HR.out.2 jj
  have HB10 := Lib.hid eB10
  have HL10 := Lib.hid eL10
  have HRU := Lib.hid hru
  clear hru J10 jj eB10 eL10
  go_wp2_with fail
  refine (ofU_any _ (unionL l1 l2) _ s9).mono ?_
  rintro e w11 ⟨a11, d11, e11, f11, mB11, mL11, q11, rfl, hb11, sB11, sL11, j11⟩
  have J11 := Lib.hid j11
  have bX5 := keep hb11 bX5
  have bX12 := keep hb11 bX12
  have s9 := s9.later hb11
  have oB10 := owns_later oB10 hb11
  have oL10 := owns_later oL10 hb11
  have hbA := later_trans hbA hb11
  clear hb11 j11
  obtain ⟨eB11, eL11, rfl⟩ := J11.out.1 HRU.out
  have HB11 := Lib.hid eB11
  have HL11 := Lib.hid eL11
  clear J11 eB11 eL11
  clear s9
  have bX13 := box_new w11 #[.slice a11 mB11.length d11, .slice e11 mL11.length f11] 25
  have ha11 := later_alloc w11 (.cells #[.slice a11 mB11.length d11, .slice e11 mL11.length f11] 25)
  have bX5 := keep ha11 bX5
  have bX12 := keep ha11 bX12
  have oB10 := owns_later oB10 ha11
  have oL10 := owns_later oL10 ha11
  have sB11 := sB11.later ha11
  have sL11 := sL11.later ha11
  have hbA := later_trans hbA ha11
  clear ha11
  obtain ⟨X12a, X12b, X12l⟩ := two_cells bX12
  obtain ⟨X13a, X13b, X13l⟩ := two_cells bX13
  go_wp2_with fail
  refine (same_any _ _ _ _ _ _ _ _ _ ⟨SlT.of_owns oB10, WB.out⟩ (SlI.of_owns oL10 WL.out) sB11 sL11 (HB10.out.trans HB11.out.symm) (HL10.out.trans HL11.out.symm)).mono ?_
  rintro e w12 ⟨rfl, hb12⟩
  have bX5 := keep hb12 bX5
  have bX12 := keep hb12 bX12
  have bX13 := keep hb12 bX13
  have oB10 := owns_later oB10 hb12
  have oL10 := owns_later oL10 hb12
  have sB11 := sB11.later hb12
  have sL11 := sL11.later hb12
  have hbA := later_trans hbA hb12
  clear hb12
  clear X12a X12b X12l X13a X13b X13l
  clear sB11 sL11
  clear bX13
  obtain ⟨X12a, X12b, X12l⟩ := two_cells bX12
  obtain ⟨X5a, X5b, X5c, X5l⟩ := three_cells bX5
  go_wp2_with fail
  refine (sort3b_any _ _ _ _ _ _ bX5).mono ?_
  rintro e w13 ⟨rfl, a0, b0, c0', hab, hbc, bS, hg⟩
  have hbA : Below w.heap.size w w13 := hbA.grown hg (by omega) (fun k hk => by cases hk; exact hX5w)
  have hx12 : w10.heap.size ≠ X5 := fun h => by
    rw [h, bX5] at bX12
    simp at bX12
  have bX12 := (hg.block _ (lt_of_block bX12) (fun h => hx12 (Option.some.inj h))).trans bX12
  have oB10 := owns_grownBox oB10 bX5 (by decide) hg
  have oL10 := owns_grownBox oL10 bX5 (by decide) hg
  have sB10 : SlB w13 _ mB10 := ⟨SlT.of_owns oB10, WB.out⟩
  have sL10 : SlI .u64 w13 _ mL10 := SlI.of_owns oL10 WL.out
  have bX5 := bS
  clear bS hg oB10 oL10 X12a X12b X12l X5a X5b X5c X5l hx12
  obtain ⟨X12a, X12b, X12l⟩ := two_cells bX12
  obtain ⟨X5a, X5b, X5c, X5l⟩ := three_cells bX5
  go_wp2_with fail
  refine (cutU_any _ _ _ _ a0 b0 _ sB10 sL10 (by rw [HL10.out]; simp; omega)).mono ?_
  rintro e w14 ⟨a14, d14, e14, f14, mB14, mL14, q14, rfl, hb14, sB14, sL14, -, -, j14⟩
  have J14 := Lib.hid j14
  have bX5 := keep hb14 bX5
  have bX12 := keep hb14 bX12
  have sB10 := sB10.later hb14
  have sL10 := sL10.later hb14
  have hbA := later_trans hbA hb14
  clear hb14 j14
  have jj := J14.out
  rw [HB10.out, HL10.out] at jj
  obtain ⟨eB14, eL14, rfl⟩ := parted HRU.out (hab) jj
  have HB14 := Lib.hid eB14
  have HL14 := Lib.hid eL14
  clear J14 jj eB14 eL14
  clear X12a X12b X12l X5a X5b X5c X5l
  have bX15 := box_new w14 #[.slice a14 mB14.length d14, .slice e14 mL14.length f14] 25
  have ha14 := later_alloc w14 (.cells #[.slice a14 mB14.length d14, .slice e14 mL14.length f14] 25)
  have bX5 := keep ha14 bX5
  have bX12 := keep ha14 bX12
  have sB10 := sB10.later ha14
  have sL10 := sL10.later ha14
  have sB14 := sB14.later ha14
  have sL14 := sL14.later ha14
  have hbA := later_trans hbA ha14
  clear ha14
  obtain ⟨X12a, X12b, X12l⟩ := two_cells bX12
  obtain ⟨X5a, X5b, X5c, X5l⟩ := three_cells bX5
  go_wp2_with fail
  refine (cutU_any _ _ _ _ b0 c0' _ sB10 sL10 (by rw [HL10.out]; simp; omega)).mono ?_
  rintro e w15 ⟨a15, d15, e15, f15, mB15, mL15, q15, rfl, hb15, sB15, sL15, -, -, j15⟩
  have J15 := Lib.hid j15
  have bX5 := keep hb15 bX5
  have bX12 := keep hb15 bX12
  have bX15 := keep hb15 bX15
  have sB10 := sB10.later hb15
  have sL10 := sL10.later hb15
  have sB14 := sB14.later hb15
  have sL14 := sL14.later hb15
  have hbA := later_trans hbA hb15
  clear hb15 j15
  have jj := J15.out
  rw [HB10.out, HL10.out] at jj
  obtain ⟨eB15, eL15, rfl⟩ := parted HRU.out (hbc) jj
  have HB15 := Lib.hid eB15
  have HL15 := Lib.hid eL15
  clear J15 jj eB15 eL15
  clear X12a X12b X12l X5a X5b X5c X5l
  have bX16 := box_new w15 #[.slice a15 mB15.length d15, .slice e15 mL15.length f15] 25
  have ha15 := later_alloc w15 (.cells #[.slice a15 mB15.length d15, .slice e15 mL15.length f15] 25)
  have bX5 := keep ha15 bX5
  have bX12 := keep ha15 bX12
  have bX15 := keep ha15 bX15
  have sB10 := sB10.later ha15
  have sL10 := sL10.later ha15
  have sB14 := sB14.later ha15
  have sL14 := sL14.later ha15
  have sB15 := sB15.later ha15
  have sL15 := sL15.later ha15
  have hbA := later_trans hbA ha15
  clear ha15
  obtain ⟨X12a, X12b, X12l⟩ := two_cells bX12
  obtain ⟨X5a, X5b, X5c, X5l⟩ := three_cells bX5
  go_wp2_with fail
  refine (cutU_any _ _ _ _ a0 c0' _ sB10 sL10 (by rw [HL10.out]; simp; omega)).mono ?_
  rintro e w16 ⟨a16, d16, e16, f16, mB16, mL16, q16, rfl, hb16, sB16, sL16, -, -, j16⟩
  have J16 := Lib.hid j16
  have bX5 := keep hb16 bX5
  have bX12 := keep hb16 bX12
  have bX15 := keep hb16 bX15
  have bX16 := keep hb16 bX16
  have sB10 := sB10.later hb16
  have sL10 := sL10.later hb16
  have sB14 := sB14.later hb16
  have sL14 := sL14.later hb16
  have sB15 := sB15.later hb16
  have sL15 := sL15.later hb16
  have hbA := later_trans hbA hb16
  clear hb16 j16
  have jj := J16.out
  rw [HB10.out, HL10.out] at jj
  obtain ⟨eB16, eL16, rfl⟩ := parted HRU.out (Int.le_trans hab hbc) jj
  have HB16 := Lib.hid eB16
  have HL16 := Lib.hid eL16
  clear J16 jj eB16 eL16
  clear X12a X12b X12l X5a X5b X5c X5l
  have bX17 := box_new w16 #[.slice a16 mB16.length d16, .slice e16 mL16.length f16] 25
  have ha16 := later_alloc w16 (.cells #[.slice a16 mB16.length d16, .slice e16 mL16.length f16] 25)
  have bX5 := keep ha16 bX5
  have bX12 := keep ha16 bX12
  have bX15 := keep ha16 bX15
  have bX16 := keep ha16 bX16
  have sB10 := sB10.later ha16
  have sL10 := sL10.later ha16
  have sB14 := sB14.later ha16
  have sL14 := sL14.later ha16
  have sB15 := sB15.later ha16
  have sL15 := sL15.later ha16
  have sB16 := sB16.later ha16
  have sL16 := sL16.later ha16
  have hbA := later_trans hbA ha16
  clear ha16
  clear sB10 sL10
  clear bX12 bX5
  obtain ⟨X15a, X15b, X15l⟩ := two_cells bX15
  obtain ⟨X16a, X16b, X16l⟩ := two_cells bX16
  have hl14 : mL14.length ≤ 80 := by rw [HL14.out, List.length_map]; exact Nat.le_trans (List.length_filter_le _ _) hul
  have hl15 : mL15.length ≤ 80 := by rw [HL15.out, List.length_map]; exact Nat.le_trans (List.length_filter_le _ _) hul
  go_wp2_with fail
  refine (mergeU_any _ _ _ _ _ _ _ _ _ sB14 sL14 sB15 sL15 (by omega)).mono ?_
  rintro e w17 ⟨a17, d17, e17, f17, mB17, mL17, q17, rfl, hb17, sB17, sL17, -, -, j17⟩
  have J17 := Lib.hid j17
  have bX15 := keep hb17 bX15
  have bX16 := keep hb17 bX16
  have bX17 := keep hb17 bX17
  have sB14 := sB14.later hb17
  have sL14 := sL14.later hb17
  have sB15 := sB15.later hb17
  have sL15 := sL15.later hb17
  have sB16 := sB16.later hb17
  have sL16 := sL16.later hb17
  have hbA := later_trans hbA hb17
  clear hb17 j17
  have jj := J17.out
  rw [HB14.out, HL14.out, HB15.out, HL15.out] at jj
  obtain ⟨eB17, eL17, rfl⟩ := joined (run_filter HRU.out _) (run_filter HRU.out _) jj
  rw [cuts_one HRU.out hab hbc] at eB17 eL17
  have HB17 := Lib.hid eB17
  have HL17 := Lib.hid eL17
  clear J17 jj eB17 eL17
  clear X15a X15b X15l X16a X16b X16l
  clear sB14 sL14 sB15 sL15
  clear bX15 bX16
  have bX18 := box_new w17 #[.slice a17 mB17.length d17, .slice e17 mL17.length f17] 25
  have ha17 := later_alloc w17 (.cells #[.slice a17 mB17.length d17, .slice e17 mL17.length f17] 25)
  have bX17 := keep ha17 bX17
  have sB16 := sB16.later ha17
  have sL16 := sL16.later ha17
  have sB17 := sB17.later ha17
  have sL17 := sL17.later ha17
  have hbA := later_trans hbA ha17
  clear ha17
  obtain ⟨X17a, X17b, X17l⟩ := two_cells bX17
  obtain ⟨X18a, X18b, X18l⟩ := two_cells bX18
  go_wp2_with fail
  refine (same_any _ _ _ _ _ _ _ _ _ sB17 sL17 sB16 sL16 (HB17.out.trans HB16.out.symm) (HL17.out.trans HL16.out.symm)).mono ?_
  rintro e w18 ⟨rfl, hb18⟩
  have bX17 := keep hb18 bX17
  have bX18 := keep hb18 bX18
  have sB16 := sB16.later hb18
  have sL16 := sL16.later hb18
  have sB17 := sB17.later hb18
  have sL17 := sL17.later hb18
  have hbA := later_trans hbA hb18
  clear hb18
  go_wp2_with fail
  go_ret
  exact ⟨by simp, hbA⟩
end Go.Proofs.Ytdfnfdgkhflonaa
