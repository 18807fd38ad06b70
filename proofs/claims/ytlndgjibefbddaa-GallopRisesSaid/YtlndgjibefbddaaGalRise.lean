/-
  The law GallopRises, walked.
-/
import Derived.Deep.RegionHeld3
import Derived.Test.YtlndgjibefbddaaGalSort
import Derived.Test.YtlndgjibefbddaaSpan
import Derived.Test.YtlndgjibefbddaaWakes
namespace Go.Proofs.Ytlndgjibefbddaa
open Go.RowKit
set_option linter.unusedVariables false

/-- Are the looks few for how far it is? -/
def farB (F P l : Int) : Bool := decide (l ≤ 2 + 2 * (lg (1 + P - F) : Int))
theorem far_any (F P l : Int) (B : Nat) (w : World) (h : w.cell? ⟨B, 0, none⟩ = some (.int .i64 F)) (h0 : 0 ≤ F) (h1 : F ≤ 200) (h2 : 0 ≤ P) (h3 : P ≤ 200) :
    Calls Try.prog 30 #[.int .i64 P, .int .i64 l, .pointer (some ⟨B, 0, none⟩)] w fun e w' => e = .returned (.bool (farB F P l)) ∧ w' = w := by
  have hl := lg_le (1 + P - F) (by omega)
  go_enter Try.func30, Try.ntmps30
  go_wp2_with (go_at_call 11; refine (log_any _ (by omega) (by omega) _).mono ?_; rintro e w2 ⟨rfl, rfl⟩)
  go_ret
  exact ⟨rfl, rfl⟩
theorem far_yes {n F P l : Nat} (h : FewLooks n F P l) (hF : F ≤ n) : farB F P l = true := by
  unfold farB
  refine decide_eq_true ?_
  rcases Nat.lt_or_ge F n with h1 | h1
  · have := (h.2 h1).2
    omega
  · have := h.1 (by omega)
    omega
/-- How many of the first lie in the span. -/
def cntTo (S1 S2 i : Nat) : Nat := min i S2 - min i S1
theorem Cmp.lt_of_block' {w : World} {b : Nat} {o : Obj} (h : w.heap[b]? = some o) : b < w.heap.size := (Array.getElem?_eq_some_iff.1 h).1
theorem from_mod (f : Int) (n : Nat) (hn : n ≤ 200) : ∃ F : Nat, wrap64 ((IntKind.u64.wrap f).tmod ((n : Int) + 1)) = (F : Int) ∧ F ≤ n := by
  have h0 : 0 ≤ IntKind.u64.wrap f := by rw [IntKind.wrap_u64]; omega
  have h1 := Int.tmod_nonneg ((n : Int) + 1) h0
  have h2 := Int.tmod_lt_of_pos (IntKind.u64.wrap f) (show (0 : Int) < (n : Int) + 1 by omega)
  obtain ⟨r, hr⟩ : ∃ r, (IntKind.u64.wrap f).tmod ((n : Int) + 1) = r := ⟨_, rfl⟩
  rw [hr] at h1 h2 ⊢
  refine ⟨r.toNat, ?_, by omega⟩
  rw [show wrap64 r = r from by unfold wrap64; omega]
  omega

set_option maxRecDepth 100000 in
set_option maxHeartbeats 8000000 in
theorem rises_walk (u : Value) (xs : List Int) (f k0 k1 : Int) (w : World) (hx : SlI .u64 w u xs) (hf : (Lit.int .i64 f).wf = true) :
    Calls Try.prog 9 #[u, .int .i64 f, .agg #[.int .u64 k0, .int .u64 k1]] w fun e w' => e = .returned (.bool true) ∧ Below w.heap.size w w' := by
  obtain ⟨i0, i1⟩ := wf_i64 hf
  obtain ⟨a, c, rfl, h1, h2, h3, h4⟩ := hx.open
  have HX := Lib.hid hx
  obtain ⟨w1, hw1⟩ : ∃ w1, (w.alloc (.cells #[.int .i64 f] 3)).alloc (.cells #[.int .u64 k0, .int .u64 k1] 46) = w1 := ⟨_, rfl⟩
  have hb1 : Below w.heap.size w w1 := by rw [← hw1]; exact later_trans (later_alloc w _) (later_alloc _ _)
  have hs1 : w1.heap.size = w.heap.size + 2 := by rw [← hw1]; simp
  have x0 : w1.heap[w.heap.size]? = some (.cells #[.int .i64 f] 3 (0, 0)) := by rw [← hw1]; exact Cmp.box_alloc (Cmp.box_new w _ _) _
  have x1 : w1.heap[w.heap.size + 1]? = some (.cells #[.int .u64 k0, .int .u64 k1] 46 (0, 0)) := by
    rw [← hw1]
    have := Cmp.box_new (w.alloc (.cells #[.int .i64 f] 3)) #[.int .u64 k0, .int .u64 k1] 46
    simpa using this
  have HW1 := Lib.hid hw1
  have HB := Lib.hid (And.intro hb1 (And.intro x0 x1))
  clear h1 h2 h3 h4 hx hf hb1 x0 x1 hw1
  go_enter Try.func9, Try.ntmps9
  go_wp2_with fail
  rw [HW1.out]
  refine (wakes_any _).mono ?_
  rintro e w2 ⟨rfl, hb2⟩
  have hx2 := HX.out.later (later_trans HB.out.1 hb2)
  have hs2 := hb2.size
  have HB2 := Lib.hid hb2
  clear hb2
  go_wp2_with fail
  refine (few_any _ _ _ hx2).mono ?_
  rintro e w3 ⟨v3, rfl, hown3, hb3⟩
  have hs3 := hb3.size
  have hb13 := later_trans HB2.out hb3
  have hl3 : (xs.take 200).length ≤ 255 := by rw [List.length_take]; omega
  obtain ⟨a3, n3, c3, hv3, -⟩ := Cmp.owns_shape hown3
  subst hv3
  clear hx2 hb3
  go_wp2_with fail
  refine (sortOwn_any _ _ w2.heap.size _ hown3 hl3 (by omega)).mono ?_
  rintro e w4 ⟨rfl, hown4, hb4⟩
  have hs4 := hb4.size
  have hb14 : Below w1.heap.size w1 w4 := hb13.trans (hb4.mono (by omega))
  clear hb4 hown3 hb13
  go_wp2_with fail
  refine (Cmp.compact_any _ (sortedL (xs.take 200)) w2.heap.size _ hown4 (by rw [sortedL_len]; omega) (by omega)).mono ?_
  rintro e w5 ⟨v5, rfl, hown5, hb5⟩
  have hs5 := hb5.size
  have hb15 : Below w1.heap.size w1 w5 := hb14.trans (hb5.mono (by omega))
  obtain ⟨o1, o2, o3⟩ := once_sorted (xs.take 200)
  have hlx : (xs.take 200).length ≤ 200 := by rw [List.length_take]; omega
  obtain ⟨L, hL⟩ : ∃ L, Cmp.onceTo (sortedL (xs.take 200)) (sortedL (xs.take 200)).length = L := ⟨_, rfl⟩
  rw [hL] at hown5 o1 o2 o3
  have hwfL : ∀ x ∈ L, (Lit.int .u64 x).wf = true := fun x hx => HX.out.2 x (List.mem_of_mem_take (o2 x hx))
  obtain ⟨a5, c5, rfl⟩ := Cmp.owns_shape2 hown5
  obtain ⟨n, hn⟩ : ∃ n, L.length = n := ⟨_, rfl⟩
  have hn200 : n ≤ 200 := by omega
  have x0 := (hb15.block _ (by omega)).trans HB.out.2.1
  have x1 := (hb15.block _ (by omega)).trans HB.out.2.2
  have y0 := Cmp.box_cell (i := 0) x0
  have y1 := Cmp.box_frozen (i := 0) x0
  simp at y0
  have HL := Lib.hid (And.intro hn (And.intro o1 (And.intro hwfL (And.intro hown5 (And.intro hb15 (And.intro x0 x1))))))
  rw [hn]
  clear hb5 hown4 hb14 o1 o2 o3 hL hn hwfL hown5 hb15 x0 x1 hl3 hlx
  go_wp2_with fail
  obtain ⟨F, hF, hFn⟩ := from_mod f n hn200
  rw [hF]
  obtain ⟨hLn, o1, hwfL, hown5, hb15, x0, x1⟩ := HL.out
  have hb05 := later_trans HB.out.1 hb15
  have hown6 := Cmp.own_set (i := 0) hown5 x0 (by decide) (.int .i64 (F : Int))
  have z0 := Cmp.box_set (i := 0) x0 (.int .i64 (F : Int))
  have z1 := Cmp.box_other (i := 0) x1 (show w.heap.size + 1 ≠ w.heap.size by omega) (.int .i64 (F : Int))
  have hb6 := hb05.setCell (p := ⟨w.heap.size, 0, none⟩) (Nat.le_refl _) (.int .i64 (F : Int))
  obtain ⟨w6, hw6⟩ : ∃ w6, w5.setCell ⟨w.heap.size, 0, none⟩ (.int .i64 (F : Int)) = w6 := ⟨_, rfl⟩
  rw [hw6] at hown6 z0 z1 hb6 ⊢
  have hz0 : w6.heap[w.heap.size]? = some (.cells #[.int .i64 (F : Int)] 3 (0, 0)) := by simpa using z0
  have hL6 := SlI.of_owns (k := .u64) (xs := L) hown6 hwfL
  rw [hLn] at hL6
  have c0 := Cmp.box_cell (i := 0) hz0
  have c1 := Cmp.box_cell (i := 0) z1
  have c2 := Cmp.box_cell (i := 1) z1
  simp at c0 c1 c2
  have HH := Lib.hid (And.intro hL6 (And.intro hb6 (And.intro hz0 (And.intro hLn o1))))
  clear y0 y1 HL hF hLn o1 hwfL hown5 hb15 x0 x1 hb05 hown6 z0 z1 hb6 hw6 hz0 hL6
  go_quiet (fail)
  obtain ⟨lo, hlo⟩ : ∃ lo, min k0 k1 = lo := ⟨_, rfl⟩
  obtain ⟨hi, hhi⟩ : ∃ hi, max k0 k1 = hi := ⟨_, rfl⟩
  have hlh : lo ≤ hi := by omega
  rw [hlo, hhi]
  obtain ⟨w7, hw7⟩ : ∃ w7, w6.drewN nq = w7 := ⟨_, rfl⟩
  rw [hw7]
  obtain ⟨hL6, hb6, hz0, hLn, o1⟩ := HH.out
  have hb67 : Below w6.heap.size w6 w7 := by rw [← hw7]; exact later_drewN _ _
  have hL7 := hL6.later hb67
  have hz7 := (hb67.block _ (Cmp.lt_of_block' hz0)).trans hz0
  have hb7 := later_trans hb6 hb67
  have hFl : F ≤ L.length := by omega
  have hmay : mayB L (F : Int) = true := by simp [mayB, o1]; omega
  obtain ⟨P1, hP1⟩ : ∃ P1, place L F (geB lo) = P1 := ⟨_, rfl⟩
  obtain ⟨P2, hP2⟩ : ∃ P2, place L F (geB hi) = P2 := ⟨_, rfl⟩
  have hFP : F ≤ P1 := by rw [← hP1]; exact place_ge
  have hP12 : P1 ≤ P2 := by rw [← hP1, ← hP2]; exact place_mono (fun x hx => by simp [geB] at *; omega) hFl
  have hP2n : P2 ≤ L.length := by rw [← hP2]; exact place_le hFl
  have hP3 : place L P1 (geB hi) = P2 := by rw [← hP2]; exact place_from hFP (by rw [hP2]; exact hP12) hFl
  have hmay1 : mayB L (P1 : Int) = true := by simp [mayB, o1]; omega
  have HM := Lib.hid (And.intro hLn (And.intro o1 (And.intro hmay (And.intro hP1 (And.intro hP2 (And.intro hP3 hmay1))))))
  have hP2n' : P2 ≤ n := by omega
  have c7 := Cmp.box_cell (i := 0) hz7
  simp at c7
  have HW := Lib.hid (And.intro hL7 (And.intro hz7 hb7))
  clear hlo hhi hw7 hL6 hb6 hz0 hb67 hL7 hz7 hb7 hmay hP1 hP2 hP3 hmay1 hLn o1 c0 c1 c2 HH hFl hP2n
  try refine ‹∀ (a : Act) (w_1 : World), _ → _› _ _ ?_
  go_wp2_with fail
  refine (Seek_any _ L F lo w7 HW.out.1 (by have := HM.out.1; omega)).mono ?_
  rintro e w8 ⟨he, hb8⟩
  rw [if_pos HM.out.2.2.1, Int.toNat_natCast, HM.out.2.2.2.1] at he
  obtain ⟨p, rfl, hp⟩ := he
  have c8 := (hb8.cell (World.block_lt_of_cell? _ _ c7)).trans c7
  have hfa := far_yes hp (by have := HM.out.1; omega)
  have HW8 := Lib.hid (And.intro (HW.out.1.later hb8) (later_trans HW.out.2.2 hb8))
  clear hb8 hp c7
  go_wp2_with fail
  refine (Seek_any _ L F hi w8 HW8.out.1 (by have := HM.out.1; omega)).mono ?_
  rintro e w9 ⟨he, hb9⟩
  rw [if_pos HM.out.2.2.1, Int.toNat_natCast, HM.out.2.2.2.2.1] at he
  obtain ⟨q, rfl, hq⟩ := he
  have c9 := (hb9.cell (World.block_lt_of_cell? _ _ c8)).trans c8
  have hfb := far_yes hq (by have := HM.out.1; omega)
  have HW9 := Lib.hid (And.intro (HW8.out.1.later hb9) (later_trans HW8.out.2 hb9))
  clear hb9 hq c8
  go_wp2_with fail
  refine (Seek_any _ L P1 hi w9 HW9.out.1 (by have := HM.out.1; omega)).mono ?_
  rintro e w10 ⟨he, hb10⟩
  rw [if_pos HM.out.2.2.2.2.2.2, Int.toNat_natCast, HM.out.2.2.2.2.2.1] at he
  obtain ⟨r, rfl, -⟩ := he
  have c10 := (hb10.cell (World.block_lt_of_cell? _ _ c9)).trans c9
  have HW10 := Lib.hid (And.intro (HW9.out.1.later hb10) (later_trans HW9.out.2 hb10))
  have g1 : ((P2 : Int) < P1) = False := eq_false (by omega)
  have g2 : (P2 < P1) = False := eq_false (by omega)
  have g3 : ((P2 : Int) != P2) = false := by simp
  clear hb10 c9
  go_wp2_with fail
  refine (span_any _ L lo hi w10 HW10.out.1 (by have := HM.out.1; omega)).mono ?_
  rw [spanOf_yes HM.out.2.1 hlh]
  rintro e w11 ⟨rfl, hb11⟩
  have c11 := (hb11.cell (World.block_lt_of_cell? _ _ c10)).trans c10
  obtain ⟨S1, hS1⟩ : ∃ S1, place L 0 (geB lo) = S1 := ⟨_, rfl⟩
  obtain ⟨S2, hS2⟩ : ∃ S2, place L 0 (gtB hi) = S2 := ⟨_, rfl⟩
  have hS12 : S1 ≤ S2 := by rw [← hS1, ← hS2]; exact place_mono (fun x hx => by simp [geB, gtB] at *; omega) (Nat.zero_le _)
  have hS2n : S2 ≤ n := by rw [← hS2, ← HM.out.1]; exact place_le (Nat.zero_le _)
  rw [hS1, hS2]
  have HS := Lib.hid (And.intro hS1 hS2)
  have HW11 := Lib.hid (And.intro (HW10.out.1.later hb11) (later_trans HW10.out.2 hb11))
  clear hb11 c10 hS1 hS2
  obtain ⟨a9, c9, e9, -, -, -, l4⟩ := HW11.out.1.open
  rw [HM.out.1] at e9
  cases e9
  have HX4 := Lib.hid l4
  clear l4
  have hnI : n ≤ 9223372036854775807 := by omega
  go_wp2_with fail
  go_loopw [21, 104] (fun m k wr => ∃ i : Nat, i ≤ n ∧ k = .int .i64 i ∧ m = .int .i64 (cntTo S1 S2 i : Nat) ∧ wr = w11) (fun _ k _ => n - (intOf k).toNat)
  case atStart => exact ⟨0, Nat.zero_le _, rfl, by simp [cntTo], rfl⟩
  case round =>
    obtain ⟨i, hi', rfl, rfl, hwr⟩ := hrel
    rw [hwr]
    by_cases hlt : i < n
    · have hil : i < L.length := by have := HM.out.1; omega
      obtain ⟨b1, o1, rfl, hb1w, hc1⟩ := HX4.out (by omega)
      have hx := hc1 i hil
      obtain ⟨x, hxe⟩ : ∃ x, L[i] = x := ⟨_, rfl⟩
      have f1 : i < S1 → x < lo := fun h => by
        have := place_not (xs := L) (i := 0) (p := geB lo) (Nat.zero_le i) hil (by rw [HS.out.1]; exact h)
        rw [hxe] at this
        simp [geB] at this; omega
      have f2 : S1 ≤ i → lo ≤ x := fun h => by
        have h1 := place_at (xs := L) (i := 0) (p := geB lo) (by rw [HS.out.1]; omega)
        have h2 := rises_le HM.out.2.1 (show place L 0 (geB lo) ≤ i by rw [HS.out.1]; exact h) hil
        simp [geB] at h1; omega
      have f3 : i < S2 → x ≤ hi := fun h => by
        have := place_not (xs := L) (i := 0) (p := gtB hi) (Nat.zero_le i) hil (by rw [HS.out.2]; exact h)
        rw [hxe] at this
        simp [gtB] at this; omega
      have f4 : S2 ≤ i → hi < x := fun h => by
        have h1 := place_at (xs := L) (i := 0) (p := gtB hi) (by rw [HS.out.2]; omega)
        have h2 := rises_le HM.out.2.1 (show place L 0 (gtB hi) ≤ i by rw [HS.out.2]; exact h) hil
        simp [gtB] at h1; omega
      rw [hxe] at hx
      have hcn : cntTo S1 S2 i ≤ 200 := by unfold cntTo; omega
      obtain ⟨m, hm⟩ : ∃ m, cntTo S1 S2 i = m := ⟨_, rfl⟩
      rw [hm] at hcn ⊢
      have HMM := Lib.hid hm
      have HF := Lib.hid (And.intro f1 (And.intro f2 (And.intro f3 f4)))
      clear hc1 hxe f1 f2 f3 f4 hm
      by_cases hin : S1 ≤ i ∧ i < S2
      · have d1 := HF.out.2.1 hin.1
        have d2 := HF.out.2.2.1 hin.2
        have hnx : cntTo S1 S2 (i + 1) = m + 1 := by have := HMM.out; unfold cntTo at this ⊢; omega
        have HN := Lib.hid hnx
        clear hnx hin
        go_wp2_with fail
        go_roundw
        case rel => exact ⟨i + 1, by omega, by go_num, by rw [HN.out]; go_num, by first | rfl | trivial⟩
        case measure => simp [intOf]; omega
      · have hnx : cntTo S1 S2 (i + 1) = m := by have := HMM.out; unfold cntTo at this ⊢; omega
        have HN := Lib.hid hnx
        clear hnx
        by_cases hlo : lo ≤ x
        · have d2 : ¬ x ≤ hi := by
            have h1 : S1 ≤ i := by
              rcases Nat.lt_or_ge i S1 with h | h
              · have := HF.out.1 h; omega
              · exact h
            have := HF.out.2.2.2 (by omega)
            omega
          clear hin
          go_wp2_with fail
          go_roundw
          case rel => exact ⟨i + 1, by omega, by go_num, by rw [HN.out], by first | rfl | trivial⟩
          case measure => simp [intOf]; omega
        · clear hin
          go_wp2_with fail
          go_roundw
          case rel => exact ⟨i + 1, by omega, by go_num, by rw [HN.out], by first | rfl | trivial⟩
          case measure => simp [intOf]; omega
    · obtain rfl : i = n := by omega
      have hfin : cntTo S1 S2 i = S2 - S1 := by unfold cntTo; omega
      obtain ⟨d, hd⟩ : ∃ d, S2 - S1 = d := ⟨_, rfl⟩
      rw [hfin, hd]
      have hdI : (S2 : Int) - (S1 : Int) = (d : Int) := by omega
      clear hfin hd
      go_wp2_with (go_at_call 30; refine (far_any F _ _ _ _ c11 (by omega) (by omega) (by omega) (by omega)).mono ?_; rintro e w12 ⟨rfl, rfl⟩)
      go_ret
      exact ⟨rfl, HW11.out.2⟩
end Go.Proofs.Ytlndgjibefbddaa
