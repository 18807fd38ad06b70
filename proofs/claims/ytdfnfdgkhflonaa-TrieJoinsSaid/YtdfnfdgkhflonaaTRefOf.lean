/-
  The document's Of, walked.
-/
import Derived.Test.YtdfnfdgkhflonaaRows
import Derived.WalkKit
import Derived.WalkSpells
import Derived.WalkLawsBesides
import Derived.Deep.QuietTactic
import Derived.BigQuiet
import Derived.Outline
import Derived.Test.YtdfnfdgkhflonaaBase
import Derived.Test.YtdfnfdgkhflonaaBase2
import Derived.Test.YtdfnfdgkhflonaaLib
import Derived.Test.YtdfnfdgkhflonaaTLib
import Derived.Test.YtdfnfdgkhflonaaTRunC
import Derived.Test.YtdfnfdgkhflonaaTOwn2
import Derived.Test.YtdfnfdgkhflonaaTOfP
namespace Go.Proofs.Ytdfnfdgkhflonaa
open Go.RowKit
set_option linter.unusedVariables false

/-- Another row stays where a row grows. -/
theorem own_kept {w w' : World} {base base' : Nat} {e e' : TypeId} {size size' : Nat} {v v' : Value} {n n' : Nat} {xs xs' : List Value} (h : w.ownsRow base e size v n xs) (hg : w.grownBy w' v.ownBlock) (h' : w.ownsRow base' e' size' v' n' xs') (hne : e ≠ e') : w'.ownsRow base' e' size' v' n' xs' := by
  obtain ⟨h1, h2⟩ := h'
  refine ⟨h1, ?_⟩
  rcases h2 with h2 | ⟨g, cap, cur, hv, hg', hh, r⟩
  · exact .inl h2
  · exact .inr ⟨g, cap, cur, hv, hg', box_grown h hg hh hne, r⟩
/-- How many pairs have a first number. -/
def cnt (l : List Pr) (a : Int) (k : Nat) : Nat := ((l.take k).filter (fun q => q.a == a)).length
theorem cnt_yes {l : List Pr} {a : Int} {k : Nat} (h : k < l.length) (e : (l[k].a == a) = true) : cnt l a (k + 1) = cnt l a k + 1 := by
  unfold cnt; rw [List.take_succ_eq_append_getElem h, List.filter_append]; simp [e]
theorem cnt_no {l : List Pr} {a : Int} {k : Nat} (h : k < l.length) (e : (l[k].a == a) = false) : cnt l a (k + 1) = cnt l a k := by
  unfold cnt; rw [List.take_succ_eq_append_getElem h, List.filter_append]; simp [e]
theorem cnt_le (l : List Pr) (a : Int) (k : Nat) : cnt l a k ≤ k := by
  unfold cnt; exact Nat.le_trans (List.length_filter_le _ _) (by simp; omega)
def newR (l : List Pr) (i : Nat) : Prop := i = 0 ∨ (l.getD (i - 1) Pr.no).a < (l.getD i Pr.no).a
instance (l : List Pr) (i : Nat) : Decidable (newR l i) := by unfold newR; infer_instance
/-- The document's branches of the first i pairs. -/
def refTo (l : List Pr) : Nat → List Br
  | 0 => []
  | i + 1 => if newR l i then refTo l i ++ [⟨(l.getD i Pr.no).a, i, (i : Int) + (cnt l (l.getD i Pr.no).a l.length : Nat)⟩] else refTo l i
theorem refTo_len (l : List Pr) (i : Nat) : (refTo l i).length ≤ i := by
  induction i with
  | zero => simp [refTo]
  | succ i ih => unfold refTo; split <;> first | (simp; omega) | omega

set_option maxRecDepth 100000 in
set_option maxHeartbeats 4000000 in
theorem refof_any (v : Value) (l : List Pr) (w : World) (h : SlP w v l) (hlen : l.length ≤ 1048576) :
    Calls Try.prog 40 #[v] w fun e w' => ∃ vb vl, e = .returned (.agg #[vb, vl]) ∧ Below w.heap.size w w' ∧
      w'.ownsRow w.heap.size 40 3 vb (refTo l l.length).length ((refTo l l.length).flatMap Br.cells) ∧ w'.ownsRow w.heap.size 38 1 vl (l.map Pr.b).length ((l.map Pr.b).map (.int .u64)) := by
  obtain ⟨i0, hi, hz0, hz1, hz2⟩ := info_parts info_branch
  obtain ⟨i1, hi', hz0', hz1', hz2'⟩ := info_parts info_u64
  obtain ⟨a, c, rfl, h1, h2, h3, h4⟩ := h.open
  have HX := Lib.hid h4
  clear h1 h2 h3 h4 h
  go_enter Try.func40, Try.ntmps40
  go_wp2_with fail
  obtain ⟨W2, hW2⟩ : ∃ W, (w.alloc (.cells #[.slice none 0 0, .slice none 0 0] 25)).alloc (.cells #[.slice none 0 0, .slice none 0 0] 25) = W := ⟨_, rfl⟩
  have hb2 : Below w.heap.size w W2 := by rw [← hW2]; exact later_trans (later_alloc w _) (later_alloc _ _)
  obtain ⟨T, hTe⟩ : ∃ T, w.heap.size + 1 = T := ⟨_, rfl⟩
  have hs2 : W2.heap.size = T + 1 := by rw [← hW2, ← hTe]; simp
  have hR2 : W2.heap[w.heap.size]? = some (.cells #[.slice none 0 0, .slice none 0 0] 25 (0, 0)) := by rw [← hW2]; exact box_alloc (box_new w _ _) _
  have hT2 : W2.heap[T]? = some (.cells #[.slice none 0 0, .slice none 0 0] 25 (0, 0)) := by
    rw [← hW2, ← hTe]
    have := box_new (w.alloc (.cells #[.slice none 0 0, .slice none 0 0] 25)) #[.slice none 0 0, .slice none 0 0] 25
    simpa using this
  rw [hW2]
  have hTR : T ≠ w.heap.size := by omega
  have hTR2 : w.heap.size < T := by omega
  clear hW2
  simp only [hTe]
  clear hTe
  have HS2 := Lib.hid hs2
  have hs2' : T < W2.heap.size := by omega
  clear hs2
  go_loopw [11] (fun k wr => ∃ (i : Nat) (vb vl : Value), i ≤ l.length ∧ k = .int .i64 i ∧ wr.heap[T]? = some (.cells #[vb, vl] 25 (0, 0)) ∧ wr.heap[w.heap.size]? = some (.cells #[.slice none 0 0, .slice none 0 0] 25 (0, 0)) ∧
    wr.ownsRow W2.heap.size 40 3 vb (refTo l i).length ((refTo l i).flatMap Br.cells) ∧ wr.ownsRow W2.heap.size 38 1 vl i (((l.take i).map Pr.b).map (.int .u64)) ∧ W2.heap.size ≤ wr.heap.size ∧ Below w.heap.size w wr) (fun k _ => l.length - (intOf k).toNat)
  case atStart => exact ⟨0, _, _, Nat.zero_le _, rfl, hT2, hR2, World.ownsRow_nil _ _ _ _, World.ownsRow_nil _ _ _ _, Nat.le_refl _, hb2⟩
  case round =>
    obtain ⟨i, vb, vl, hile, rfl, hT, hR, hownB, hownL, hsz, hb⟩ := hrel
    obtain ⟨ab, cb, rfl⟩ := owns_shape2 hownB
    obtain ⟨al, cl, rfl⟩ := owns_shape2 hownL
    have t0 := box_cell (i := 0) hT
    simp at t0
    by_cases hlt : i < l.length
    · obtain ⟨bb, o, rfl, hbw, hcs⟩ := HX.out (by omega)
      have HCS := Lib.hid hcs
      obtain ⟨ha, hb2⟩ := hcs i hlt
      have ha := ((bcell hb).1 bb (o + i * 2) hbw).trans ha
      have hb2 := ((bcell hb).1 bb (o + i * 2 + 1) hbw).trans hb2
      have hbn : bb < wr.heap.size := by have := hb.size; omega
      have hgi : l.getD i Pr.no = l[i] := getD_pr hlt
      have hst : l.take (i + 1) = l.take i ++ [l[i]] := List.take_succ_eq_append_getElem hlt
      obtain ⟨p, hp⟩ : ∃ p, l[i] = p := ⟨_, rfl⟩
      rw [hp] at ha hb2 hgi hst
      have HST := Lib.hid hst
      have hblen := refTo_len l i
      have HBT := Lib.hid (show refTo l (i + 1) = if newR l i then refTo l i ++ [⟨(l.getD i Pr.no).a, i, (i : Int) + (cnt l (l.getD i Pr.no).a l.length : Nat)⟩] else refTo l i from rfl)
      have hway : (newR l i ∧ ((((i : Int) == 0) = true) ∨ (((i : Int) == 0) = false ∧ 0 < i ∧ ∃ pa : Int, wr.cell? ⟨bb, o + (i - 1) * 2, none⟩ = some (.int .u64 pa) ∧ decide (pa < p.a) = true))) ∨ (¬ newR l i ∧ ((i : Int) == 0) = false ∧ 0 < i ∧ ∃ pa : Int, wr.cell? ⟨bb, o + (i - 1) * 2, none⟩ = some (.int .u64 pa) ∧ decide (pa < p.a) = false) := by
        by_cases hi0 : i = 0
        · exact Or.inl ⟨Or.inl hi0, Or.inl (beq_iff_eq.2 (by omega))⟩
        · have hgp : l.getD (i - 1) Pr.no = l[i - 1] := getD_pr (by omega)
          have hk0 := ((bcell hb).1 bb (o + (i - 1) * 2) hbw).trans (hcs (i - 1) (by omega)).1
          by_cases hpa : l[i - 1].a < p.a
          · exact Or.inl ⟨Or.inr (by rw [hgp, hgi]; exact hpa), Or.inr ⟨beq_eq_false_iff_ne.2 (by omega), by omega, _, hk0, decide_eq_true hpa⟩⟩
          · refine Or.inr ⟨fun h => ?_, beq_eq_false_iff_ne.2 (by omega), by omega, _, hk0, decide_eq_false hpa⟩
            rcases h with h | h
            · exact hi0 h
            · rw [hgp, hgi] at h; exact hpa h
      clear hcs hp hst
      rcases hway with ⟨hn, hway⟩ | ⟨hn, hi0b, hip, pa, hk0, hpd⟩
      · rw [if_pos hn, hgi] at HBT
        clear hn hgi
        obtain ⟨n, hnl⟩ : ∃ n, (refTo l i).length = n := ⟨_, rfl⟩
        rw [hnl] at hownB hblen t0 hT
        have HNL := Lib.hid hnl
        clear hnl
        rcases hway with hi0b | ⟨hi0b, hip, pa, hk0, hpd⟩ <;> (go_wp2_with fail; go_quiet (fail))
        all_goals (
          obtain ⟨w3, hw3⟩ : ∃ W, (wr.alloc (.cells #[.int .u64 p.a, .int .u64 p.b] 59)).drewN nq = W := ⟨_, rfl⟩
          have hs3 : wr.heap.size < w3.heap.size := by rw [← hw3]; simp
          have hT3 : w3.heap[T]? = some (.cells #[.slice ab n cb, .slice al i cl] 25 (0, 0)) := by rw [← hw3]; exact box_alloc hT _
          have hR3 : w3.heap[w.heap.size]? = some (.cells #[.slice none 0 0, .slice none 0 0] 25 (0, 0)) := by rw [← hw3]; exact box_alloc hR _
          have hownB3 : w3.ownsRow W2.heap.size 40 3 (.slice ab n cb) n ((refTo l i).flatMap Br.cells) := by rw [← hw3]; exact owns_drewN (hownB.alloc _) nq
          have hownL3 : w3.ownsRow W2.heap.size 38 1 (.slice al i cl) i (((l.take i).map Pr.b).map (.int .u64)) := by rw [← hw3]; exact owns_drewN (hownL.alloc _) nq
          have hb3 : Below w.heap.size w w3 := by rw [← hw3]; exact later_trans hb (later_trans (later_alloc _ _) (later_drewN _ _))
          rw [hw3]
          try clear hk0
          have hp30 : w3.heap[wr.heap.size]? = some (.cells #[.int .u64 p.a, .int .u64 p.b] 59 (0, 0)) := by rw [← hw3]; exact box_new wr _ _
          clear hw3 ha hb2 hT hR hownB hownL t0
          go_wp2_with fail
          obtain ⟨n3, hn3⟩ : ∃ n, wr.heap.size = n := ⟨_, rfl⟩
          rw [hn3] at hp30 hs3
          simp only [hn3]
          go_loopw [6, 31] (fun m k wi => ∃ q : Nat, q ≤ l.length ∧ k = .int .i64 q ∧ m = .int .i64 (cnt l p.a q : Nat) ∧ Below w3.heap.size w3 wi) (fun _ k _ => l.length - (intOf k).toNat)
          case atStart => exact ⟨0, Nat.zero_le _, rfl, rfl, later_refl w3⟩
          case round =>
            obtain ⟨q, hq, rfl, rfl, hbi⟩ := hrel
            have hpi := box_cell (i := 0) ((hbi.block _ (by omega)).trans hp30)
            simp at hpi
            have hsi := hbi.size
            have hpn : n3 < wr.heap.size := by omega
            have hcl := cnt_le l p.a q
            by_cases hql : q < l.length
            · obtain ⟨hqa, hqb⟩ := HCS.out q hql
              have hqa := ((bcell (later_trans hb3 hbi)).1 bb (o + q * 2) hbw).trans hqa
              have hqb := ((bcell (later_trans hb3 hbi)).1 bb (o + q * 2 + 1) hbw).trans hqb
              by_cases he : l[q].a = p.a
              · have hee : (l[q].a == p.a) = true := beq_iff_eq.2 he
                have HCN := Lib.hid (cnt_yes hql hee)
                clear he
                go_wp2_with fail
                go_roundw
                case rel => exact ⟨q + 1, by omega, by go_num, by rw [HCN.out]; go_num, later_trans hbi (later_alloc _ _)⟩
                case measure => simp [intOf]; omega
              · have hee : (l[q].a == p.a) = false := beq_eq_false_iff_ne.2 he
                have HCN := Lib.hid (cnt_no hql hee)
                clear he
                go_wp2_with fail
                go_roundw
                case rel => exact ⟨q + 1, by omega, by go_num, by rw [HCN.out], later_trans hbi (later_alloc _ _)⟩
                case measure => simp [intOf]; omega
            · obtain rfl : q = l.length := by omega
              obtain ⟨N, hN⟩ : ∃ N, cnt l p.a l.length = N := ⟨_, rfl⟩
              rw [hN] at hcl HBT
              obtain ⟨wi, hwi⟩ : ∃ W, W = wr := ⟨_, rfl⟩
              subst hwi
              have hTi := (hbi.block _ (lt_of_block hT3)).trans hT3
              have hRi := (hbi.block _ (lt_of_block hR3)).trans hR3
              have hBi := owns_later hownB3 hbi
              have hLi := owns_later hownL3 hbi
              have hp3i := (hbi.block _ (by omega)).trans hp30
              have hb3i := later_trans hb3 hbi
              have tt0 := box_cell (i := 0) hTi
              simp at tt0
              simp only [hN]
              clear hN
              go_wp2_with (first | (at_builtin; refine wpList_append_own _ rfl (.tmp 44) (.tmp 52) 22 rfl W2.heap.size 40 i0 _ 3 24 Try.underlying22 hi hz0 hz1 hz2 rfl (by decide) _ _ _ rfl (hBi.alloc _) ⟨wi.heap.size, 0, none⟩ 1 1 [.int .u64 p.a, .int .i64 i, .int .i64 ((i : Int) + (N : Int))] rfl rfl (cells_new _ _ _) (by simp [Value.oneCell']) (by unfold maxLen; omega) (by omega) (by simp; omega) ?_; intro v6 w6 hown6 hgrow6 _; obtain ⟨g6, cap6, rfl⟩ := ownsRow_succ hown6; have hT6 := box_grown (hBi.alloc _) hgrow6 (box_alloc hTi _) (by decide); have hR6 := box_grown (hBi.alloc _) hgrow6 (box_alloc hRi _) (by decide); have hp6 := box_grown (hBi.alloc _) hgrow6 (box_alloc hp3i _) (by decide); have hL6 := own_kept (hBi.alloc _) hgrow6 (hLi.alloc _) (by decide); have f6 := box_frozen (i := 0) hT6; have c6 := box_cell (i := 0) hT6; simp at c6; obtain ⟨w7, hw7⟩ : ∃ W, w6.setCell ⟨T, 0, none⟩ (.slice (some ⟨g6, 0, none⟩) (n + 1) cap6) = W := ⟨_, rfl⟩; have hT7 : w7.heap[T]? = some (.cells #[.slice (some ⟨g6, 0, none⟩) (n + 1) cap6, .slice al i cl] 25 (0, 0)) := by rw [← hw7]; exact box_set hT6 _
                                    have hR7 : w7.heap[w.heap.size]? = some (.cells #[.slice none 0 0, .slice none 0 0] 25 (0, 0)) := by rw [← hw7]; exact box_other hR6 hTR.symm _
                                    have hp7 : w7.heap[n3]? = some (.cells #[.int .u64 p.a, .int .u64 p.b] 59 (0, 0)) := by rw [← hw7]; exact box_other hp6 (by omega) _
                                    have hB7 : w7.ownsRow W2.heap.size 40 3 (.slice (some ⟨g6, 0, none⟩) (n + 1) cap6) (n + 1) ((refTo l i).flatMap Br.cells ++ [.int .u64 p.a, .int .i64 i, .int .i64 ((i : Int) + (N : Int))]) := by rw [← hw7]; exact own_set hown6 hT6 (by decide) _
                                    have hL7 : w7.ownsRow W2.heap.size 38 1 (.slice al i cl) i (((l.take i).map Pr.b).map (.int .u64)) := by rw [← hw7]; exact own_set hL6 hT6 (by decide) _
                                    have t71 := box_cell (i := 1) hT7; simp at t71
                                    have p71 := box_cell (i := 1) hp7; simp at p71
                                    have hb7 : Below w.heap.size w w7 := by rw [← hw7]; exact ((later_trans hb3i (later_alloc _ _)).grown hgrow6 (by simp; have := hb3i.size; omega) (fun k e => Nat.le_trans (by omega) (owns_above hBi k e))).setCell (show w.heap.size ≤ T by omega) _
                                    have hsz7 : W2.heap.size ≤ w7.heap.size := Nat.le_of_lt (Nat.lt_of_le_of_lt (owns_above hB7 g6 rfl) (hB7.lt g6 rfl).2)
                                    have hbr7 : refTo l (i + 1) = refTo l i ++ [⟨p.a, i, (i : Int) + (N : Int)⟩] := HBT.out
                                    have HB7 := Lib.hid (show w7.ownsRow W2.heap.size 40 3 (.slice (some ⟨g6, 0, none⟩) (n + 1) cap6) (refTo l (i + 1)).length ((refTo l (i + 1)).flatMap Br.cells) by rw [hbr7, List.flatMap_append, List.length_append, HNL.out]; exact hB7)
                                    clear hown6 hgrow6 hT6 hR6 hp6 hL6 hTi hRi hBi hLi hp3i tt0 hT3 hR3 hownB3 hownL3 hp30 hpi hbr7) | (at_builtin; refine wpList_append_own _ rfl (.tmp 56) (.tmp 59) 23 rfl W2.heap.size 38 i1 _ 1 8 Try.underlying23 hi' hz0' hz1' hz2' rfl (by decide) _ _ _ rfl (hL7.alloc _) ⟨w7.heap.size, 0, none⟩ 1 1 [.int .u64 p.b] rfl rfl (cells_new _ _ _) (by simp [Value.oneCell']) (by unfold maxLen; omega) (by omega) (by simp; omega) ?_; intro v8 w8 hown8 hgrow8 _; obtain ⟨g8, cap8, rfl⟩ := ownsRow_succ hown8; have hT8 := box_grown (hL7.alloc _) hgrow8 (box_alloc hT7 _) (by decide); have hR8 := box_grown (hL7.alloc _) hgrow8 (box_alloc hR7 _) (by decide); have hB8 := own_kept (hL7.alloc _) hgrow8 (HB7.out.alloc _) (by decide); have hb8 := (later_trans hb7 (later_alloc _ _)).grown hgrow8 (by simp; have := hb7.size; omega) (fun k e => Nat.le_trans (by omega) (owns_above hL7 k e)); have f8 := box_frozen (i := 1) hT8; have c8 := box_cell (i := 1) hT8; simp at c8))
              go_roundw
              case rel =>
                refine ⟨i + 1, _, _, by omega, by go_num, box_set hT8 _, box_other hR8 (by omega) _, own_set hB8 hT8 (by decide) _, ?_, Nat.le_trans hsz7 (Nat.le_trans (by simp) (Nat.le_trans hgrow8.size (by simp))), hb8.setCell (show w.heap.size ≤ T by omega) _⟩
                have h9 := own_set (i := 1) hown8 hT8 (by decide) (.slice (some ⟨g8, 0, none⟩) (i + 1) cap8)
                rw [HST.out]
                simpa using h9
              case measure => simp [intOf]; omega
              )
      · rw [if_neg hn] at HBT
        clear hn hgi
        obtain ⟨n, hnl⟩ : ∃ n, (refTo l i).length = n := ⟨_, rfl⟩
        rw [hnl] at hownB hblen t0 hT
        have HNL := Lib.hid hnl
        clear hnl
        go_wp2_with fail
        go_quiet (fail)
        obtain ⟨w7, hw7⟩ : ∃ W, (wr.alloc (.cells #[.int .u64 p.a, .int .u64 p.b] 59)).drewN nq = W := ⟨_, rfl⟩
        have hT7 : w7.heap[T]? = some (.cells #[.slice ab n cb, .slice al i cl] 25 (0, 0)) := by rw [← hw7]; exact box_alloc hT _
        have hR7 : w7.heap[w.heap.size]? = some (.cells #[.slice none 0 0, .slice none 0 0] 25 (0, 0)) := by rw [← hw7]; exact box_alloc hR _
        have hB7 : w7.ownsRow W2.heap.size 40 3 (.slice ab n cb) n ((refTo l i).flatMap Br.cells) := by rw [← hw7]; exact owns_drewN (hownB.alloc _) nq
        have hL7 : w7.ownsRow W2.heap.size 38 1 (.slice al i cl) i (((l.take i).map Pr.b).map (.int .u64)) := by rw [← hw7]; exact owns_drewN (hownL.alloc _) nq
        have hb7 : Below w.heap.size w w7 := by rw [← hw7]; exact later_trans hb (later_trans (later_alloc _ _) (later_drewN _ _))
        have hsz7 : W2.heap.size ≤ w7.heap.size := by rw [← hw7]; simp; omega
        have hp7 : w7.heap[wr.heap.size]? = some (.cells #[.int .u64 p.a, .int .u64 p.b] 59 (0, 0)) := by rw [← hw7]; exact box_new wr _ _
        have HB7 := Lib.hid (show w7.ownsRow W2.heap.size 40 3 (.slice ab n cb) (refTo l (i + 1)).length ((refTo l (i + 1)).flatMap Br.cells) by rw [HBT.out, HNL.out]; exact hB7)
        rw [hw7]
        have t71 := box_cell (i := 1) hT7
        have p71 := box_cell (i := 1) hp7
        simp at t71 p71
        clear hw7 ha hb2 hT hR hownB hownL t0 hk0
        go_wp2_with (at_builtin; refine wpList_append_own _ rfl (.tmp 56) (.tmp 59) 23 rfl W2.heap.size 38 i1 _ 1 8 Try.underlying23 hi' hz0' hz1' hz2' rfl (by decide) _ _ _ rfl (hL7.alloc _) ⟨w7.heap.size, 0, none⟩ 1 1 [.int .u64 p.b] rfl rfl (cells_new _ _ _) (by simp [Value.oneCell']) (by unfold maxLen; omega) (by omega) (by simp; omega) ?_; intro v8 w8 hown8 hgrow8 _; obtain ⟨g8, cap8, rfl⟩ := ownsRow_succ hown8; have hT8 := box_grown (hL7.alloc _) hgrow8 (box_alloc hT7 _) (by decide); have hR8 := box_grown (hL7.alloc _) hgrow8 (box_alloc hR7 _) (by decide); have hB8 := own_kept (hL7.alloc _) hgrow8 (HB7.out.alloc _) (by decide); have hb8 := (later_trans hb7 (later_alloc _ _)).grown hgrow8 (by simp; have := hb7.size; omega) (fun k e => Nat.le_trans (by omega) (owns_above hL7 k e)); have f8 := box_frozen (i := 1) hT8; have c8 := box_cell (i := 1) hT8; simp at c8)
        go_roundw
        case rel =>
          refine ⟨i + 1, _, _, by omega, by go_num, box_set hT8 _, box_other hR8 (by omega) _, own_set hB8 hT8 (by decide) _, ?_, Nat.le_trans hsz7 (Nat.le_trans (by simp) (Nat.le_trans hgrow8.size (by simp))), hb8.setCell (show w.heap.size ≤ T by omega) _⟩
          have h9 := own_set (i := 1) hown8 hT8 (by decide) (.slice (some ⟨g8, 0, none⟩) (i + 1) cap8)
          rw [HST.out]
          simpa using h9
        case measure => simp [intOf]; omega
    · obtain rfl : i = l.length := by omega
      have e : l.take l.length = l := List.take_of_length_le (Nat.le_refl _)
      rw [e] at hownL
      have t01 := box_cell (i := 1) hT
      have r0 := box_cell (i := 0) hR
      have r1 := box_cell (i := 1) hR
      have rf0 := box_frozen (i := 0) hR
      have rf1 := box_frozen (i := 1) hR
      simp at t01 r0 r1
      go_wp2_with fail
      have hR6 := box_set (i := 1) (box_set (i := 0) hR (.slice ab (refTo l l.length).length cb)) (.slice al l.length cl)
      have d0 := box_cell (i := 0) hR6
      have d1 := box_cell (i := 1) hR6
      simp at d0 d1
      refine bodyPost_ret (v := .agg #[.slice ab (refTo l l.length).length cb, .slice al l.length cl]) ?_ rfl ?_
      · simp [results, Try.results40, go_sem, d0, d1]
      · refine ⟨_, _, rfl, (hb.setCell (by simp) _).setCell (by simp) _, ?_, ?_⟩
        · exact owns_down (own_set (own_set hownB hR (by decide) _) (box_set hR _) (by decide) _) (by omega)
        · rw [List.length_map]
          exact owns_down (own_set (own_set hownL hR (by decide) _) (box_set hR _) (by decide) _) (by omega)
end Go.Proofs.Ytdfnfdgkhflonaa
