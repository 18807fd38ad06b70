/-
  trie.Of, walked.
-/
import Derived.Test.YtdfnfdgkhflonaaRows
import Derived.WalkKit
import Derived.WalkSpells
import Derived.WalkLawsBesides
import Derived.Deep.QuietTactic
import Derived.BigQuiet
import Derived.Outline
import Derived.Test.YtdfnfdgkhflonaaBase
import Derived.Test.YtdfnfdgkhflonaaBase2
import Derived.Test.YtdfnfdgkhflonaaLib
import Derived.Test.YtdfnfdgkhflonaaTLib
import Derived.Test.YtdfnfdgkhflonaaTRunC
import Derived.Test.YtdfnfdgkhflonaaTOwn2
import Derived.Test.YtdfnfdgkhflonaaTOfP
import Derived.Test.YtdfnfdgkhflonaaTGath
namespace Go.Proofs.Ytdfnfdgkhflonaa
open Go.RowKit
set_option linter.unusedVariables false

set_option maxRecDepth 100000 in
set_option maxHeartbeats 4000000 in
theorem of_any (v : Value) (l : List Pr) (w : World) (h : SlP w v l) :
    Calls Try.prog 37 #[v] w fun e w' => ∃ vb vl q, e = .returned (.tuple #[.agg #[vb, vl], .int .i64 q]) ∧ Below w.heap.size w w' ∧
      (RunOk l → q = 0 ∧ w'.ownsRow w.heap.size 40 3 vb (brOf l).length ((brOf l).flatMap Br.cells) ∧ w'.ownsRow w.heap.size 38 1 vl (l.map Pr.b).length ((l.map Pr.b).map (.int .u64))) ∧
      (¬ RunOk l → q = 130 ∧ vb = .slice none 0 0 ∧ vl = .slice none 0 0) := by
  obtain ⟨i0, hi, hz0, hz1, hz2⟩ := info_parts info_branch
  have H := Lib.hid h
  obtain ⟨a, c, rfl, h1, h2, h3, h4⟩ := h.open
  have HX := Lib.hid h4
  have hmx : l.length ≤ 9223372036854775807 := by omega
  clear h1 h2 h3 h4 h
  go_enter Try.func37, Try.ntmps37
  go_wp2_with fail
  obtain ⟨W0, hW0⟩ : ∃ W, w.alloc (.cells #[.slice none 0 0, .slice none 0 0] 25) = W := ⟨_, rfl⟩
  have hb0 : Below w.heap.size w W0 := by rw [← hW0]; exact later_alloc w _
  have hs0 : W0.heap.size = w.heap.size + 1 := by rw [← hW0]; simp
  have hR0 : W0.heap[w.heap.size]? = some (.cells #[.slice none 0 0, .slice none 0 0] 25 (0, 0)) := by rw [← hW0]; exact box_new w _ _
  rw [hW0]
  clear hW0
  refine (runCheck_any _ _ _ (H.out.later hb0)).mono ?_
  rintro e w1 ⟨rfl, hb1⟩
  have hb01 := later_trans hb0 hb1
  have hR1 := (hb1.block _ (by omega)).trans hR0
  by_cases hok : RunOk l
  case neg =>
    rw [if_neg hok]
    have HNO := Lib.hid hok
    have c0 := box_cell (i := 0) hR1
    have c1 := box_cell (i := 1) hR1
    simp at c0 c1
    have f0 := box_frozen (i := 0) hR1
    have f1 := box_frozen (i := 1) hR1
    clear hok
    go_wp2_with fail
    have hR2 := box_set (i := 1) (box_set (i := 0) hR1 (.slice none 0 0)) (.slice none 0 0)
    have d0 := box_cell (i := 0) hR2
    have d1 := box_cell (i := 1) hR2
    simp at d0 d1
    refine bodyPost_ret (v := .tuple #[.agg #[.slice none 0 0, .slice none 0 0], .int .i64 130]) ?_ rfl ?_
    · simp [results, Try.results37, go_sem, d0, d1]
    · exact ⟨_, _, _, rfl, (hb01.setCell (by simp) _).setCell (by simp) _, fun h => absurd h HNO.out, fun _ => ⟨rfl, rfl, rfl⟩⟩
  rw [if_pos hok]
  have hlen := hok.1
  have HOK := Lib.hid hok
  clear hok
  go_wp2_with fail
  obtain ⟨W2, hW2⟩ : ∃ W, w1.alloc (.cells #[.slice none 0 0, .slice none 0 0] 25) = W := ⟨_, rfl⟩
  have hb2 : Below w.heap.size w W2 := by rw [← hW2]; exact later_trans hb01 (later_alloc w1 _)
  have hs1 := hb1.size
  have hs2 : W2.heap.size = w1.heap.size + 1 := by rw [← hW2]; simp
  have hR2 : W2.heap[w.heap.size]? = some (.cells #[.slice none 0 0, .slice none 0 0] 25 (0, 0)) := by rw [← hW2]; exact box_alloc hR1 _
  have hT2 : W2.heap[w1.heap.size]? = some (.cells #[.slice none 0 0, .slice none 0 0] 25 (0, 0)) := by rw [← hW2]; exact box_new w1 _ _
  rw [hW2]
  obtain ⟨T, hT⟩ : ∃ T, w1.heap.size = T := ⟨_, rfl⟩
  rw [hT] at hT2 hs2 hs1
  have hTR : T ≠ w.heap.size := by omega
  clear hW2 hR1 hR0 hb0 hb1 hb01
  simp only [hT]
  clear hT
  go_loopw [16] (fun k wr => ∃ (i : Nat) (vb : Value), i ≤ l.length ∧ k = .int .i64 i ∧ wr.heap[T]? = some (.cells #[vb, .slice none 0 0] 25 (0, 0)) ∧ wr.heap[w.heap.size]? = some (.cells #[.slice none 0 0, .slice none 0 0] 25 (0, 0)) ∧
    wr.ownsRow W2.heap.size 40 3 vb (brTo l i).length ((brTo l i).flatMap Br.cells) ∧ W2.heap.size ≤ wr.heap.size ∧ Below w.heap.size w wr) (fun k _ => l.length - (intOf k).toNat)
  case atStart => exact ⟨0, _, Nat.zero_le _, rfl, hT2, hR2, World.ownsRow_nil _ _ _ _, Nat.le_refl _, hb2⟩
  case round =>
    obtain ⟨i, vb, hile, rfl, hT, hR, hown, hsz, hb⟩ := hrel
    obtain ⟨ab, cb, rfl⟩ := owns_shape2 hown
    have t0 := box_cell (i := 0) hT
    simp at t0
    by_cases hlt : i < l.length
    · obtain ⟨bb, o, rfl, hbw, hcs⟩ := HX.out (by omega)
      obtain ⟨ha, hb2⟩ := hcs i hlt
      have ha := ((bcell hb).1 bb (o + i * 2) hbw).trans ha
      have hb2 := ((bcell hb).1 bb (o + i * 2 + 1) hbw).trans hb2
      have hbn : bb < wr.heap.size := by omega
      have hgi : l.getD i Pr.no = l[i] := getD_pr hlt
      obtain ⟨p, hp⟩ : ∃ p, l[i] = p := ⟨_, rfl⟩
      rw [hp] at ha hb2 hgi
      have hblen := brTo_len l i
      have HBT := Lib.hid (show brTo l (i + 1) = setT (if newAt l i then brTo l i ++ [⟨(l.getD i Pr.no).a, i, 0⟩] else brTo l i) ((i : Int) + 1) from rfl)
      have hway : (newAt l i ∧ ((((i : Int) == 0) = true) ∨ (((i : Int) == 0) = false ∧ 0 < i ∧ ∃ pa : Int, wr.cell? ⟨bb, o + (i - 1) * 2, none⟩ = some (.int .u64 pa) ∧ (pa != p.a) = true))) ∨ (¬ newAt l i ∧ ((i : Int) == 0) = false ∧ 0 < i ∧ ∃ pa : Int, wr.cell? ⟨bb, o + (i - 1) * 2, none⟩ = some (.int .u64 pa) ∧ (pa != p.a) = false) := by
        by_cases hi0 : i = 0
        · exact Or.inl ⟨Or.inl hi0, Or.inl (beq_iff_eq.2 (by omega))⟩
        · have hgp : l.getD (i - 1) Pr.no = l[i - 1] := getD_pr (by omega)
          have hk0 := ((bcell hb).1 bb (o + (i - 1) * 2) hbw).trans (hcs (i - 1) (by omega)).1
          by_cases hpa : l[i - 1].a = p.a
          · refine Or.inr ⟨fun h => ?_, beq_eq_false_iff_ne.2 (by omega), by omega, _, hk0, by simp [hpa]⟩
            rcases h with h | h
            · exact hi0 h
            · rw [hgp, hgi] at h; exact h hpa
          · exact Or.inl ⟨Or.inr (by rw [hgp, hgi]; exact hpa), Or.inr ⟨beq_eq_false_iff_ne.2 (by omega), by omega, _, hk0, by simp [hpa]⟩⟩
      clear hcs hp
      rcases hway with ⟨hn, hway⟩ | ⟨hn, hi0b, hip, pa, hk0, hpd⟩
      · rw [if_pos hn, hgi] at HBT
        clear hn hgi
        obtain ⟨n, hnl⟩ : ∃ n, (brTo l i).length = n := ⟨_, rfl⟩
        rw [hnl] at hown hblen t0 hT
        have HNL := Lib.hid hnl
        clear hnl
        rcases hway with hi0b | ⟨hi0b, hip, pa, hk0, hpd⟩ <;> (go_wp2_with fail; go_quiet (fail))
        all_goals (
          obtain ⟨w3, hw3⟩ : ∃ W, (wr.alloc (.cells #[.int .u64 p.a, .int .u64 p.b] 59)).drewN nq = W := ⟨_, rfl⟩
          have hs3 : wr.heap.size < w3.heap.size := by rw [← hw3]; simp
          have hT3 : w3.heap[T]? = some (.cells #[.slice ab n cb, .slice none 0 0] 25 (0, 0)) := by rw [← hw3]; exact box_alloc hT _
          have hR3 : w3.heap[w.heap.size]? = some (.cells #[.slice none 0 0, .slice none 0 0] 25 (0, 0)) := by rw [← hw3]; exact box_alloc hR _
          have hp3 : w3.cell? ⟨wr.heap.size, 0, none⟩ = some (.int .u64 p.a) := by rw [← hw3]; simp
          have hown3 : w3.ownsRow W2.heap.size 40 3 (.slice ab n cb) n ((brTo l i).flatMap Br.cells) := by rw [← hw3]; exact owns_drewN (hown.alloc _) nq
          have hb3 : Below w.heap.size w w3 := by rw [← hw3]; exact later_trans hb (later_trans (later_alloc _ _) (later_drewN _ _))
          rw [hw3]
          have t3 := box_cell (i := 0) hT3
          simp at t3
          clear hw3 ha hb2 hT hR hown t0
          try clear hk0
          go_wp2_with (at_builtin; refine wpList_append_own _ rfl (.tmp 35) (.tmp 40) 22 rfl W2.heap.size 40 i0 _ 3 24 Try.underlying22 hi hz0 hz1 hz2 rfl (by decide) _ _ _ rfl (hown3.alloc _) ⟨w3.heap.size, 0, none⟩ 1 1 [.int .u64 p.a, .int .i64 i, .int .i64 0] rfl rfl (cells_new _ _ _) (by simp [Value.oneCell']) (by unfold maxLen; omega) (by omega) (by simp; omega) ?_; intro v6 w6 hown6 hgrow6 _; obtain ⟨g6, cap6, rfl⟩ := ownsRow_succ hown6; have hT6 := box_grown (hown3.alloc _) hgrow6 (box_alloc hT3 _) (by decide); have hR6 := box_grown (hown3.alloc _) hgrow6 (box_alloc hR3 _) (by decide); have f6 := box_frozen (i := 0) hT6; have c6 := box_cell (i := 0) hT6; simp at c6; obtain ⟨w7, hw7⟩ : ∃ W, w6.setCell ⟨T, 0, none⟩ (.slice (some ⟨g6, 0, none⟩) (n + 1) cap6) = W := ⟨_, rfl⟩; have hT7 : w7.heap[T]? = some (.cells #[.slice (some ⟨g6, 0, none⟩) (n + 1) cap6, .slice none 0 0] 25 (0, 0)) := by rw [← hw7]; exact box_set hT6 _
                       have hR7 : w7.heap[w.heap.size]? = some (.cells #[.slice none 0 0, .slice none 0 0] 25 (0, 0)) := by rw [← hw7]; exact box_other hR6 hTR.symm _
                       have hown7 : w7.ownsRow W2.heap.size 40 3 (.slice (some ⟨g6, 0, none⟩) (n + 1) cap6) (n + 1) ((brTo l i).flatMap Br.cells ++ [.int .u64 p.a, .int .i64 i, .int .i64 0]) := by rw [← hw7]; exact own_set hown6 hT6 (by decide) _
                       have t7 := box_cell (i := 0) hT7; simp at t7
                       have hrow := owns_cell (j := n * 3 + 2) (u := .int .i64 0) hown7 (by rw [List.getElem?_append_right (by rw [flat_len Br.len, HNL.out]; omega), flat_len Br.len, HNL.out]; simp)
                       obtain ⟨hrc, hrf⟩ := hrow
                       have hb7 : Below w.heap.size w w7 := by rw [← hw7]; exact ((later_trans hb3 (later_alloc _ _)).grown hgrow6 (by simp; have := hb3.size; omega) (fun k e => Nat.le_trans (by omega) (owns_above hown3 k e))).setCell (show w.heap.size ≤ T by omega) _
                       have hgb := owns_above hown7 g6 rfl)
          go_roundw
          case rel =>
            have hown8 := owns_set (j := n * 3 + 2) hown7 (.int .i64 ((i : Int) + 1))
            refine ⟨i + 1, _, by omega, by go_num, box_other hT7 (by omega) _, box_other hR7 (by omega) _, ?_, Nat.le_of_lt (Nat.lt_of_le_of_lt hgb (hown8.lt g6 rfl).2), hb7.setCell (show w.heap.size ≤ g6 by omega) _⟩
            rw [HBT.out, setT_len (by simp), setT_flat (by simp)]
            simpa [HNL.out, Br.cells] using hown8
          case measure => simp [intOf]; omega)
      · rw [if_neg hn] at HBT
        have hne : brTo l i ≠ [] := brTo_ne hip
        obtain ⟨n, hnl⟩ : ∃ n, (brTo l i).length = n + 1 := ⟨(brTo l i).length - 1, by have := List.length_pos_iff.2 hne; omega⟩
        rw [hnl] at hown hblen t0 hT
        obtain ⟨g6, cap6, hv6⟩ := ownsRow_succ hown
        cases hv6
        have HNL := Lib.hid hnl
        have HNE := Lib.hid hne
        clear hn hgi hnl hne
        go_wp2_with fail
        go_quiet (fail)
        obtain ⟨w7, hw7⟩ : ∃ W, (wr.alloc (.cells #[.int .u64 p.a, .int .u64 p.b] 59)).drewN nq = W := ⟨_, rfl⟩
        have hT7 : w7.heap[T]? = some (.cells #[.slice (some ⟨g6, 0, none⟩) (n + 1) cb, .slice none 0 0] 25 (0, 0)) := by rw [← hw7]; exact box_alloc hT _
        have hR7 : w7.heap[w.heap.size]? = some (.cells #[.slice none 0 0, .slice none 0 0] 25 (0, 0)) := by rw [← hw7]; exact box_alloc hR _
        have hown7 : w7.ownsRow W2.heap.size 40 3 (.slice (some ⟨g6, 0, none⟩) (n + 1) cb) (n + 1) ((brTo l i).flatMap Br.cells) := by rw [← hw7]; exact owns_drewN (hown.alloc _) nq
        have hb7 : Below w.heap.size w w7 := by rw [← hw7]; exact later_trans hb (later_trans (later_alloc _ _) (later_drewN _ _))
        rw [hw7]
        have t7 := box_cell (i := 0) hT7
        simp at t7
        have hgb := owns_above hown7 g6 rfl
        have hlast : ∃ u, ((brTo l i).flatMap Br.cells)[n * 3 + 2]? = some u := ⟨_, List.getElem?_eq_getElem (by rw [flat_len Br.len, HNL.out]; omega)⟩
        obtain ⟨u, hu⟩ := hlast
        obtain ⟨hrc, hrf⟩ := owns_cell (j := n * 3 + 2) hown7 hu
        clear hw7 ha hb2 hT hR hown t0 hk0 hu
        go_wp2_with fail
        go_roundw
        case rel =>
          have hown8 := owns_set (j := n * 3 + 2) hown7 (.int .i64 ((i : Int) + 1))
          refine ⟨i + 1, _, by omega, by go_num, box_other hT7 (by omega) _, box_other hR7 (by omega) _, ?_, Nat.le_of_lt (Nat.lt_of_le_of_lt hgb (hown8.lt g6 rfl).2), hb7.setCell (show w.heap.size ≤ g6 by omega) _⟩
          rw [HBT.out, setT_len HNE.out, setT_flat HNE.out, HNL.out]
          simpa using hown8
        case measure => simp [intOf]; omega
    · obtain rfl : i = l.length := by omega
      go_wp2_with fail
      refine (gathP_any _ _ _ (H.out.later hb) (by omega)).mono ?_
      rintro e w4 ⟨vl, rfl, hownL, hb4⟩
      rw [List.length_map] at hownL
      obtain ⟨al, cl, rfl⟩ := owns_shape2 hownL
      have hT4 := (hb4.block _ (lt_of_block hT)).trans hT
      have hR4 := (hb4.block _ (lt_of_block hR)).trans hR
      have hown4 := owns_later hown hb4
      have hb04 := later_trans hb hb4
      obtain ⟨w5, hw5⟩ : ∃ W, w4.setCell ⟨T, 1, none⟩ (.slice al l.length cl) = W := ⟨_, rfl⟩
      have hT5 : w5.heap[T]? = some (.cells #[.slice ab (brTo l l.length).length cb, .slice al l.length cl] 25 (0, 0)) := by rw [← hw5]; exact box_set hT4 _
      have hR5 : w5.heap[w.heap.size]? = some (.cells #[.slice none 0 0, .slice none 0 0] 25 (0, 0)) := by rw [← hw5]; exact box_other hR4 hTR.symm _
      have hown5 : w5.ownsRow W2.heap.size 40 3 (.slice ab (brTo l l.length).length cb) (brTo l l.length).length ((brTo l l.length).flatMap Br.cells) := by rw [← hw5]; exact own_set hown4 hT4 (by decide) _
      have hownL5 : w5.ownsRow wr.heap.size 38 1 (.slice al l.length cl) l.length ((l.map Pr.b).map (.int .u64)) := by rw [← hw5]; exact own_set hownL hT4 (by decide) _
      have hb5 : Below w.heap.size w w5 := by rw [← hw5]; exact hb04.setCell (show w.heap.size ≤ T by omega) _
      have c4 := box_cell (i := 1) hT4
      have f4 := box_frozen (i := 1) hT4
      have t50 := box_cell (i := 0) hT5
      have t51 := box_cell (i := 1) hT5
      have r50 := box_cell (i := 0) hR5
      have r51 := box_cell (i := 1) hR5
      have rf0 := box_frozen (i := 0) hR5
      have rf1 := box_frozen (i := 1) hR5
      simp at c4 t50 t51 r50 r51
      have hszb := hb.size
      clear hT hR hown t0 hT4 hR4 hown4 hownL
      go_wp2_with fail
      try rw [hw5]
      have hR6 := box_set (i := 1) (box_set (i := 0) hR5 (.slice ab (brTo l l.length).length cb)) (.slice al l.length cl)
      have d0 := box_cell (i := 0) hR6
      have d1 := box_cell (i := 1) hR6
      simp at d0 d1
      trace_state
      refine bodyPost_ret (v := .tuple #[.agg #[.slice ab (brTo l l.length).length cb, .slice al l.length cl], .int .i64 0]) ?_ rfl ?_
      · simp [results, Try.results37, go_sem, d0, d1]
      · refine ⟨_, _, _, rfl, (hb5.setCell (by simp) _).setCell (by simp) _, fun _ => ⟨rfl, ?_, ?_⟩, fun h => absurd HOK.out h⟩
        · exact owns_down (own_set (own_set hown5 hR5 (by decide) _) (box_set hR5 _) (by decide) _) (by omega)
        · rw [List.length_map]
          exact owns_down (own_set (own_set hownL5 hR5 (by decide) _) (box_set hR5 _) (by decide) _) (by omega)
end Go.Proofs.Ytdfnfdgkhflonaa
