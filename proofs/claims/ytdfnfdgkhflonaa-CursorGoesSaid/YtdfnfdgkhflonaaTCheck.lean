/-
  trie.Check, walked.
-/
import Derived.Test.YtdfnfdgkhflonaaRows
import Derived.WalkKit
import Derived.WalkSpells
import Derived.WalkLawsBesides
import Derived.Deep.QuietTactic
import Derived.BigQuiet
import Derived.Outline
import Derived.WalkMore
import Derived.Test.YtdfnfdgkhflonaaBase
import Derived.Test.YtdfnfdgkhflonaaBase2
import Derived.Test.YtdfnfdgkhflonaaTPlain
namespace Go.Proofs.Ytdfnfdgkhflonaa
open Go.RowKit
set_option linter.unusedVariables false

/-- The leaves rise from place f on, up to place q. -/
def RiseTo (L : List Int) (f q : Nat) : Prop := ∀ k : Nat, f < k → k < q → L.getD (k - 1) 0 < L.getD k 0
theorem riseTo_start (L : List Int) (f : Nat) : RiseTo L f (f + 1) := fun k h1 h2 => by omega
theorem riseTo_step {L : List Int} {f q : Nat} (h : RiseTo L f q) (hl : L.getD (q - 1) 0 < L.getD q 0) : RiseTo L f (q + 1) := fun k h1 h2 => by
  by_cases e : k = q
  · subst e; exact hl
  · exact h k h1 (by omega)

set_option maxRecDepth 100000 in
set_option maxHeartbeats 800000 in
open Classical in
theorem check_any (vb vl : Value) (B : List Br) (L : List Int) (w : World) (hB : SlB w vb B) (hL : SlI .u64 w vl L) :
    Calls Try.prog 31 #[.agg #[vb, vl]] w fun e w' => e = .returned (.int .i64 (if TrieOk B L then 0 else 170)) ∧ Below w.heap.size w w' := by
  obtain ⟨a, c, rfl, h1, h2, h3, h4⟩ := hB.open
  obtain ⟨a', c', rfl, g1, g2, g3, g4⟩ := hL.open
  have HX := Lib.hid h4
  have HY := Lib.hid g4
  have hmB : B.length ≤ 9223372036854775807 := by omega
  have hmL : L.length ≤ 9223372036854775807 := by omega
  clear hB hL h1 h2 h3 h4 g1 g2 g3 g4
  go_enter Try.func31, Try.ntmps31
  go_wp2
  go_step3
  go_wp2
  go_step3
  go_wp2
  obtain ⟨w1, hw1⟩ : ∃ w1, w.alloc (.cells #[.slice a B.length c, .slice a' L.length c'] 25) = w1 := ⟨_, rfl⟩
  have hb1 : Below w.heap.size w w1 := by rw [← hw1]; exact later_alloc w _
  have hsz1 : w1.heap.size = w.heap.size + 1 := by rw [← hw1]; simp
  have hc0 : w1.cell? ⟨w.heap.size, 0, none⟩ = some (.slice a B.length c) := by rw [← hw1]; simp
  have hc1 : w1.cell? ⟨w.heap.size, 1, none⟩ = some (.slice a' L.length c') := by rw [← hw1]; simp
  rw [hw1]
  clear hw1
  go_loopw [3, 4, 15] (fun at_ ok k wr => ∃ i : Nat, i ≤ B.length ∧ at_ = .int .i64 (endAt B i) ∧ ok = .bool (decide ((L.length : Int) ≤ 1048576 ∧ ∀ j, j < i → SegOk L (B.getD j Br.no))) ∧ k = .int .i64 i ∧ (∀ j, j < i → BrOk B L j) ∧ Below w1.heap.size w1 wr) (fun _ _ k _ => B.length - (intOf k).toNat)
  case atStart => exact ⟨0, Nat.zero_le _, rfl, by simp, rfl, fun j hj => by omega, later_refl w1⟩
  case round =>
    obtain ⟨i, hi, rfl, rfl, rfl, hbr, hb⟩ := hrel
    have hbx0 := ((bcell hb).1 w.heap.size 0 (by omega)).trans hc0
    have hbx1 := ((bcell hb).1 w.heap.size 1 (by omega)).trans hc1
    have hszr := hb.size
    have hnx0 : wr.heap.size ≠ w.heap.size := by omega
    have hnx1 : w.heap.size < wr.heap.size := by omega
    by_cases hlt : i < B.length
    · obtain ⟨bb, o, rfl, hbw, hcs⟩ := HX.out (by omega)
      obtain ⟨hk1, hf1, ht1⟩ := hcs i hlt
      have hk1 := ((bcell hb).1 bb (o + i * 3) (by omega)).trans (((bcell hb1).1 bb _ hbw).trans hk1)
      have hf1 := ((bcell hb).1 bb (o + i * 3 + 1) (by omega)).trans (((bcell hb1).1 bb _ hbw).trans hf1)
      have ht1 := ((bcell hb).1 bb (o + i * 3 + 2) (by omega)).trans (((bcell hb1).1 bb _ hbw).trans ht1)
      have hbw2 : Below w.heap.size w wr := later_trans hb1 hb
      have hgi : B.getD i Br.no = B[i] := by simp [List.getD, List.getElem?_eq_getElem hlt]
      have HG := Lib.hid hgi
      have hgi' := hgi
      by_cases hok : (L.length : Int) ≤ 1048576 ∧ ∀ j, j < i → SegOk L (B.getD j Br.no)
      · have hokd : decide ((L.length : Int) ≤ 1048576 ∧ ∀ j, j < i → SegOk L (B.getD j Br.no)) = true := decide_eq_true hok
        have HOK := Lib.hid hok
        rw [hokd]
        clear hokd hok hgi
        by_cases hf : B[i].f = endAt B i
        · have hfb : (B[i].f == endAt B i) = true := beq_iff_eq.2 hf
          by_cases ht : endAt B i < B[i].t
          · have htd : decide (endAt B i < B[i].t) = true := decide_eq_true ht
            by_cases htl : B[i].t ≤ (L.length : Int)
            · have htld : decide (B[i].t ≤ (L.length : Int)) = true := decide_eq_true htl
              by_cases hkr : i = 0 ∨ (B.getD (i - 1) Br.no).k < B[i].k
              · have hnn := endAt_nonneg hbr
                have hbri : BrOk B L i := by unfold BrOk; rw [hgi']; exact ⟨hf, by omega, htl, hkr⟩
                obtain ⟨nf, hnf⟩ : ∃ n : Nat, B[i].f = n := ⟨B[i].f.toNat, by omega⟩
                obtain ⟨nt, hnt⟩ : ∃ n : Nat, B[i].t = n := ⟨B[i].t.toNat, by omega⟩
                have hway : ((i : Int) == 0) = true ∨ (((i : Int) == 0) = false ∧ 0 < i ∧ ∃ kp : Int, wr.cell? ⟨bb, o + (i - 1) * 3, none⟩ = some (.int .u64 kp) ∧ decide (kp < B[i].k) = true) := by
                  by_cases hi0 : i = 0
                  · exact Or.inl (beq_iff_eq.2 (by omega))
                  · have hgp : B.getD (i - 1) Br.no = B[i - 1] := by simp [List.getD, List.getElem?_eq_getElem (show i - 1 < B.length by omega)]
                    obtain ⟨hk0, -, -⟩ := hcs (i - 1) (by omega)
                    refine Or.inr ⟨beq_eq_false_iff_ne.2 (by omega), by omega, (B.getD (i - 1) Br.no).k, ?_, decide_eq_true ?_⟩
                    · rw [hgp]
                      exact ((bcell hb).1 bb (o + (i - 1) * 3) (by omega)).trans (((bcell hb1).1 bb _ hbw).trans hk0)
                    · rcases hkr with h | h
                      · omega
                      · exact h
                have hnk0 : bb < wr.heap.size := by omega
                have HBR := Lib.hid hbr
                have HBI := Lib.hid hbri
                have HKR := Lib.hid hkr
                have hntl : nt ≤ L.length := by omega
                have hnft : nf < nt := by omega
                clear hcs hkr hbr hbri hf ht htl hnn
                rcases hway with hi0b | ⟨hi0b, hip, kp, hk0, hkd⟩ <;> (rw [hnf] at hf1 hfb; rw [hnt] at ht1 htd htld; go_wp2; go_quiet (fail); go_wp2)
                all_goals (
                  obtain ⟨wo, rfl⟩ : ∃ W, W = wr := ⟨wr, rfl⟩
                  go_loopw [4, 7] (fun ok m wi => ∃ q : Nat, nf < q ∧ q ≤ nt ∧ ok = .bool (decide (RiseTo L nf q)) ∧ m = .int .i64 q ∧ Below (wo.heap.size + 1) (wo.alloc (.cells #[.int .u64 B[i].k, .int .i64 nf, .int .i64 nt] 40)) wi) (fun _ m _ => nt - (intOf m).toNat)
                  case atStart => exact ⟨nf + 1, by omega, by omega, by rw [decide_eq_true (riseTo_start L nf)], by go_num, ⟨rfl, rfl, rfl, by simp, fun _ _ => rfl⟩⟩
                  case round =>
                    obtain ⟨q, hq1, hq2, rfl, rfl, hbi⟩ := hrel
                    have hi0 := (hbi.cell (p := ⟨wo.heap.size, 1, none⟩) (by show wo.heap.size < _; omega)).trans (World.cell?_alloc_new _ _ _ _)
                    have hi1 := (hbi.cell (p := ⟨wo.heap.size, 2, none⟩) (by show wo.heap.size < _; omega)).trans (World.cell?_alloc_new _ _ _ _)
                    have hxi := (hbi.cell (p := ⟨w.heap.size, 1, none⟩) (by show w.heap.size < _; omega)).trans ((World.cell?_alloc_past _ _ _ (by omega)).trans hbx1)
                    simp at hi0 hi1
                    have hszi := hbi.size
                    simp at hszi
                    have hoi : w.heap.size < wr.heap.size := by omega
                    have hoi2 : wo.heap.size < wr.heap.size := by omega
                    by_cases hqt : q < nt
                    · obtain ⟨bl, ol, rfl, hbl, hcl⟩ := HY.out (by omega)
                      have hl0 := ((hbi.cell (p := ⟨bl, ol + (q - 1), none⟩) (by show bl < _; omega)).trans ((World.cell?_alloc_past _ _ _ (by omega)).trans ((bcell hb).1 bl _ (by omega)))).trans (((bcell hb1).1 bl _ hbl).trans (hcl (q - 1) (by omega)))
                      have hl1 := ((hbi.cell (p := ⟨bl, ol + q, none⟩) (by show bl < _; omega)).trans ((World.cell?_alloc_past _ _ _ (by omega)).trans ((bcell hb).1 bl _ (by omega)))).trans (((bcell hb1).1 bl _ hbl).trans (hcl q (by omega)))
                      have hbln : bl < wr.heap.size := by omega
                      have hg0 : L.getD (q - 1) 0 = L[q - 1] := by simp [List.getD, List.getElem?_eq_getElem (show q - 1 < L.length by omega)]
                      have hg1 : L.getD q 0 = L[q] := by simp [List.getD, List.getElem?_eq_getElem (show q < L.length by omega)]
                      by_cases hr : RiseTo L nf q
                      · have hrd := decide_eq_true hr
                        rw [hrd]
                        by_cases hll : L[q - 1] < L[q]
                        · have hlld : decide (L[q - 1] < L[q]) = true := decide_eq_true hll
                          have hnew : RiseTo L nf (q + 1) := riseTo_step hr (by rw [hg0, hg1]; exact hll)
                          clear hg0 hg1 hll hr hrd hcl
                          go_wp2
                          go_quiet (fail)
                          go_wp2
                          go_roundw
                          case rel => exact ⟨q + 1, by omega, by omega, by rw [decide_eq_true hnew], by go_num, hbi.trans ⟨rfl, rfl, rfl, Nat.le_refl _, fun _ _ => rfl⟩⟩
                          case measure => simp [intOf]; omega
                        · have hlld : decide (L[q - 1] < L[q]) = false := decide_eq_false hll
                          have hnew : ¬ RiseTo L nf (q + 1) := fun h => hll (by rw [← hg0, ← hg1]; exact h q hq1 (by omega))
                          clear hg0 hg1 hll hr hrd hcl
                          go_wp2
                          go_quiet (fail)
                          go_wp2
                          go_roundw
                          case rel => exact ⟨q + 1, by omega, by omega, by rw [decide_eq_false hnew], by go_num, hbi.trans ⟨rfl, rfl, rfl, Nat.le_refl _, fun _ _ => rfl⟩⟩
                          case measure => simp [intOf]; omega
                      · have hrd := decide_eq_false hr
                        rw [hrd]
                        have hnew : ¬ RiseTo L nf (q + 1) := fun h => hr (fun k h1 h2 => h k h1 (by omega))
                        clear hg0 hg1 hr hrd hcl
                        go_wp2
                        go_quiet (fail)
                        go_wp2
                        go_roundw
                        case rel => exact ⟨q + 1, by omega, by omega, by rw [decide_eq_false hnew], by go_num, hbi.trans ⟨rfl, rfl, rfl, Nat.le_refl _, fun _ _ => rfl⟩⟩
                        case measure => simp [intOf]; omega
                    · obtain rfl : q = nt := by omega
                      go_wp2
                      go_roundw
                      case rel =>
                        have hend : endAt B (i + 1) = (q : Int) := by show (B.getD i Br.no).t = _; rw [HG.out, hnt]
                        refine ⟨i + 1, by omega, by rw [hend], ?_, by go_num, fun j hj => ?_, ?_⟩
                        · congr 1
                          refine decide_eq_decide.2 ⟨fun h => ⟨HOK.out.1, fun j hj => ?_⟩, fun h k h1 h2 => ?_⟩
                          · by_cases e : j = i
                            · subst e
                              rw [HG.out]
                              exact fun k h1 h2 => h k (by omega) (by omega)
                            · exact HOK.out.2 j (by omega)
                          · have h3 := h.2 i (by omega)
                            rw [HG.out] at h3
                            exact h3 k (by omega) (by omega)
                        · by_cases e : j = i
                          · subst e; exact HBI.out
                          · exact HBR.out j (by omega)
                        · exact later_trans hb ((later_alloc wo _).trans (hbi.mono (by omega)))
                      case measure => simp [intOf]; omega)
              · have hi0 : ¬ i = 0 := fun h => hkr (Or.inl h)
                obtain ⟨hk0, -, -⟩ := hcs (i - 1) (by omega)
                have hk0 := ((bcell hb).1 bb (o + (i - 1) * 3) (by omega)).trans (((bcell hb1).1 bb _ hbw).trans hk0)
                have hnk0 : bb < wr.heap.size := by omega
                have hi0b : ((i : Int) == 0) = false := beq_eq_false_iff_ne.2 (by omega)
                have hgp : B.getD (i - 1) Br.no = B[i - 1] := by simp [List.getD, List.getElem?_eq_getElem (show i - 1 < B.length by omega)]
                have hkk : ¬ B[i - 1].k < B[i].k := fun h => hkr (Or.inr (by rw [hgp]; exact h))
                have hno : ¬ TrieOk B L := fun h => by
                  have h4 := (h.2.1 i hlt).1.2.2.2
                  rw [HG.out, hgp] at h4
                  omega
                have hkd : decide (B[i - 1].k < B[i].k) = false := decide_eq_false hkk
                clear hcs hf hgp ht htl hkk hkr
                go_wp2
                go_quiet (fail)
                go_wp2
                rw [Exit.noGoto_ret]
                go_ret
                exact ⟨by rw [if_neg hno]; rfl, later_trans hbw2 (later_trans (later_alloc wr _) (later_drewN _ _))⟩
            · have hno : ¬ TrieOk B L := fun h => htl (by rw [← HG.out]; exact (h.2.1 i hlt).1.2.2.1)
              have htld : decide (B[i].t ≤ (L.length : Int)) = false := decide_eq_false htl
              clear hcs hf ht htl
              go_wp2
              go_quiet (fail)
              go_wp2
              rw [Exit.noGoto_ret]
              go_ret
              exact ⟨by rw [if_neg hno]; rfl, later_trans hbw2 (later_trans (later_alloc wr _) (later_drewN _ _))⟩
          · have hno : ¬ TrieOk B L := fun h => ht (by have h3 := (h.2.1 i hlt).1; rw [← h3.1, ← HG.out]; exact h3.2.1)
            have htd : decide (endAt B i < B[i].t) = false := decide_eq_false ht
            clear hcs hf ht
            go_wp2
            go_quiet (fail)
            go_wp2
            rw [Exit.noGoto_ret]
            go_ret
            exact ⟨by rw [if_neg hno]; rfl, later_trans hbw2 (later_trans (later_alloc wr _) (later_drewN _ _))⟩
        · have hno : ¬ TrieOk B L := fun h => hf (by rw [← HG.out]; exact (h.2.1 i hlt).1.1)
          have hfb : (B[i].f == endAt B i) = false := beq_eq_false_iff_ne.2 hf
          clear hcs hf
          go_wp2
          go_quiet (fail)
          go_wp2
          rw [Exit.noGoto_ret]
          go_ret
          exact ⟨by rw [if_neg hno]; rfl, later_trans hbw2 (later_trans (later_alloc wr _) (later_drewN _ _))⟩
      · have hokd : decide ((L.length : Int) ≤ 1048576 ∧ ∀ j, j < i → SegOk L (B.getD j Br.no)) = false := decide_eq_false hok
        have hno : ¬ TrieOk B L := fun h => hok ⟨by have := h.1; omega, fun j hj => (h.2.1 j (by omega)).2⟩
        clear hcs hgi
        rw [hokd]
        clear hokd
        go_wp2
        go_quiet (fail)
        go_wp2
        rw [Exit.noGoto_ret]
        go_ret
        exact ⟨by rw [if_neg hno]; rfl, later_trans hbw2 (later_trans (later_alloc wr _) (later_drewN _ _))⟩
    · obtain rfl : i = B.length := by omega
      have hbw2 : Below w.heap.size w wr := later_trans hb1 hb
      have hnx1 : w.heap.size < wr.heap.size := by omega
      by_cases hok : (L.length : Int) ≤ 1048576 ∧ ∀ j, j < B.length → SegOk L (B.getD j Br.no)
      · have hokd : decide ((L.length : Int) ≤ 1048576 ∧ ∀ j, j < B.length → SegOk L (B.getD j Br.no)) = true := decide_eq_true hok
        rw [hokd]
        by_cases he : endAt B B.length = (L.length : Int)
        · have hyes : TrieOk B L := ⟨by omega, fun j hj => ⟨hbr j hj, hok.2 j hj⟩, he⟩
          have heb : (endAt B B.length == (L.length : Int)) = true := beq_iff_eq.2 he
          clear hokd hok he
          go_wp2
          rw [Exit.noGoto_ret]
          go_ret
          first | exact ⟨by rw [if_pos hyes]; rfl, hbw2⟩ | exact ⟨by rw [if_pos hyes]; rfl, later_trans hbw2 (later_drewN _ _)⟩
        · have hno : ¬ TrieOk B L := fun h => he h.2.2
          have heb : (endAt B B.length == (L.length : Int)) = false := beq_eq_false_iff_ne.2 he
          clear hokd hok he
          go_wp2
          rw [Exit.noGoto_ret]
          go_ret
          first | exact ⟨by rw [if_neg hno]; rfl, hbw2⟩ | exact ⟨by rw [if_neg hno]; rfl, later_trans hbw2 (later_drewN _ _)⟩
      · have hokd : decide ((L.length : Int) ≤ 1048576 ∧ ∀ j, j < B.length → SegOk L (B.getD j Br.no)) = false := decide_eq_false hok
        have hno : ¬ TrieOk B L := fun h => hok ⟨by have := h.1; omega, fun j hj => (h.2.1 j hj).2⟩
        rw [hokd]
        clear hokd hok
        go_wp2
        rw [Exit.noGoto_ret]
        go_ret
        first | exact ⟨by rw [if_neg hno]; rfl, hbw2⟩ | exact ⟨by rw [if_neg hno]; rfl, later_trans hbw2 (later_drewN _ _)⟩
end Go.Proofs.Ytdfnfdgkhflonaa
