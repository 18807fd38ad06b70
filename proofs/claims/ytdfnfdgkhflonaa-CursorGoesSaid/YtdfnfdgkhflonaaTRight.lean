/-
  The document's Right for tries, walked.
-/
import Derived.Test.YtdfnfdgkhflonaaRows
import Derived.WalkKit
import Derived.WalkSpells
import Derived.WalkLawsBesides
import Derived.Deep.QuietTactic
import Derived.BigQuiet
import Derived.Outline
import Derived.WalkMore
import Derived.Test.YtdfnfdgkhflonaaBase
import Derived.Test.YtdfnfdgkhflonaaBase2
import Derived.Test.YtdfnfdgkhflonaaTPlain
import Derived.Test.YtdfnfdgkhflonaaTCheck
import Derived.Test.YtdfnfdgkhflonaaTEq
namespace Go.Proofs.Ytdfnfdgkhflonaa
open Go.RowKit
set_option linter.unusedVariables false

set_option maxRecDepth 100000 in
set_option maxHeartbeats 2000000 in
open Classical in
theorem right7_any (vb vl : Value) (B : List Br) (L : List Int) (w : World) (hB : SlB w vb B) (hL : SlI .u64 w vl L) :
    Calls Try.prog 16 #[.agg #[vb, vl]] w fun e w' => e = .returned (.bool (decide (TrieOk B L))) ∧ Below w.heap.size w w' := by
  obtain ⟨a, c, rfl, h1, h2, h3, h4⟩ := hB.open
  obtain ⟨a', c', rfl, g1, g2, g3, g4⟩ := hL.open
  have HX := Lib.hid h4
  have HY := Lib.hid g4
  have hmB : B.length ≤ 9223372036854775807 := by omega
  have hmL : L.length ≤ 9223372036854775807 := by omega
  have hLc : L.length ≤ c' := g1
  have hmc : c' ≤ 9223372036854775807 := g2
  clear hB hL h1 h2 h3 h4 g1 g2 g3 g4
  go_enter Try.func16, Try.ntmps16
  go_wp2
  obtain ⟨w1, hw1⟩ : ∃ w1, w.alloc (.cells #[.slice a B.length c, .slice a' L.length c'] 25) = w1 := ⟨_, rfl⟩
  have hb1 : Below w.heap.size w w1 := by rw [← hw1]; exact later_alloc w _
  have hsz1 : w1.heap.size = w.heap.size + 1 := by rw [← hw1]; simp
  have hc0 : w1.cell? ⟨w.heap.size, 0, none⟩ = some (.slice a B.length c) := by rw [← hw1]; simp
  have hc1 : w1.cell? ⟨w.heap.size, 1, none⟩ = some (.slice a' L.length c') := by rw [← hw1]; simp
  rw [hw1]
  clear hw1
  go_loopw [3, 10] (fun end_ k wr => ∃ i : Nat, i ≤ B.length ∧ end_ = .int .i64 (endAt B i) ∧ k = .int .i64 i ∧ (∀ j, j < i → BrOk B L j) ∧ (∀ j, j < i → SegOk L (B.getD j Br.no)) ∧ Below w1.heap.size w1 wr) (fun _ k _ => B.length - (intOf k).toNat)
  case atStart => exact ⟨0, Nat.zero_le _, rfl, rfl, fun j hj => by omega, fun j hj => by omega, later_refl w1⟩
  case round =>
    obtain ⟨i, hi, rfl, rfl, hbr, hsg, hb⟩ := hrel
    have hbx0 := ((bcell hb).1 w.heap.size 0 (by omega)).trans hc0
    have hbx1 := ((bcell hb).1 w.heap.size 1 (by omega)).trans hc1
    have hszr := hb.size
    have hnx0 : wr.heap.size ≠ w.heap.size := by omega
    have hnx1 : w.heap.size < wr.heap.size := by omega
    have hbw2 : Below w.heap.size w wr := later_trans hb1 hb
    by_cases hlt : i < B.length
    · obtain ⟨bb, o, rfl, hbw, hcs⟩ := HX.out (by omega)
      obtain ⟨hk1, hf1, ht1⟩ := hcs i hlt
      have hk1 := ((bcell hb).1 bb (o + i * 3) (by omega)).trans (((bcell hb1).1 bb _ hbw).trans hk1)
      have hf1 := ((bcell hb).1 bb (o + i * 3 + 1) (by omega)).trans (((bcell hb1).1 bb _ hbw).trans hf1)
      have ht1 := ((bcell hb).1 bb (o + i * 3 + 2) (by omega)).trans (((bcell hb1).1 bb _ hbw).trans ht1)
      have hgi : B.getD i Br.no = B[i] := by simp [List.getD, List.getElem?_eq_getElem hlt]
      have HG := Lib.hid hgi
      have hnk0 : bb < wr.heap.size := by omega
      by_cases hf : B[i].f = endAt B i
      case neg =>
        have HNO := Lib.hid (decide_eq_false (fun h : TrieOk B L => hf (by rw [← HG.out]; exact (h.2.1 i hlt).1.1)))
        have hfb : (B[i].f != endAt B i) = true := by simpa using hf
        clear hcs hf hgi
        go_wp2
        go_quiet (fail)
        go_wp2
        go_ret
        exact ⟨by rw [HNO.out]; rfl, later_trans hbw2 (later_trans (later_alloc wr _) (later_drewN _ _))⟩
      have hfb : (B[i].f != endAt B i) = false := by simpa using hf
      by_cases ht : endAt B i < B[i].t
      case neg =>
        have HNO := Lib.hid (decide_eq_false (fun h : TrieOk B L => ht (by have h3 := (h.2.1 i hlt).1; rw [← h3.1, ← HG.out]; exact h3.2.1)))
        have htd : decide (B[i].t ≤ B[i].f) = true := decide_eq_true (by omega)
        clear hcs hf hgi ht
        go_wp2
        go_quiet (fail)
        go_wp2
        go_ret
        exact ⟨by rw [HNO.out]; rfl, later_trans hbw2 (later_trans (later_alloc wr _) (later_drewN _ _))⟩
      have htd : decide (B[i].t ≤ B[i].f) = false := decide_eq_false (by omega)
      by_cases htl : B[i].t ≤ (L.length : Int)
      case neg =>
        have HNO := Lib.hid (decide_eq_false (fun h : TrieOk B L => htl (by rw [← HG.out]; exact (h.2.1 i hlt).1.2.2.1)))
        have htld : decide ((L.length : Int) < B[i].t) = true := decide_eq_true (by omega)
        clear hcs hf hgi ht htl
        go_wp2
        go_quiet (fail)
        go_wp2
        go_ret
        exact ⟨by rw [HNO.out]; rfl, later_trans hbw2 (later_trans (later_alloc wr _) (later_drewN _ _))⟩
      have htld : decide ((L.length : Int) < B[i].t) = false := decide_eq_false (by omega)
      by_cases hkr : i = 0 ∨ (B.getD (i - 1) Br.no).k < B[i].k
      case neg =>
        have hi0 : ¬ i = 0 := fun h => hkr (Or.inl h)
        obtain ⟨hk0, -, -⟩ := hcs (i - 1) (by omega)
        have hk0 := ((bcell hb).1 bb (o + (i - 1) * 3) (by omega)).trans (((bcell hb1).1 bb _ hbw).trans hk0)
        have hi0b : decide ((0 : Int) < (i : Int)) = true := decide_eq_true (by omega)
        have hi0n : decide (0 < i) = true := decide_eq_true (by omega)
        have hgp : B.getD (i - 1) Br.no = B[i - 1] := by simp [List.getD, List.getElem?_eq_getElem (show i - 1 < B.length by omega)]
        have hkk : ¬ B[i - 1].k < B[i].k := fun h => hkr (Or.inr (by rw [hgp]; exact h))
        have HNO := Lib.hid (decide_eq_false (fun h : TrieOk B L => by
          have h4 := (h.2.1 i hlt).1.2.2.2
          rw [HG.out, hgp] at h4
          omega))
        have hkd : decide (B[i].k ≤ B[i - 1].k) = true := decide_eq_true (by omega)
        clear hcs hf hgp ht htl hkk hkr hgi
        go_wp2
        go_quiet (fail)
        go_wp2
        go_ret
        exact ⟨by rw [HNO.out]; rfl, later_trans hbw2 (later_trans (later_alloc wr _) (later_drewN _ _))⟩
      have hnn := endAt_nonneg hbr
      have hbri : BrOk B L i := by unfold BrOk; rw [hgi]; exact ⟨hf, by omega, htl, hkr⟩
      obtain ⟨nf, hnf⟩ : ∃ n : Nat, B[i].f = n := ⟨B[i].f.toNat, by omega⟩
      obtain ⟨nt, hnt⟩ : ∃ n : Nat, B[i].t = n := ⟨B[i].t.toNat, by omega⟩
      have hway : (decide ((0 : Int) < (i : Int)) = false ∧ decide (0 < i) = false) ∨ (decide ((0 : Int) < (i : Int)) = true ∧ decide (0 < i) = true ∧ 0 < i ∧ ∃ kp : Int, wr.cell? ⟨bb, o + (i - 1) * 3, none⟩ = some (.int .u64 kp) ∧ decide (B[i].k ≤ kp) = false) := by
        by_cases hi0 : i = 0
        · exact Or.inl ⟨decide_eq_false (by omega), decide_eq_false (by omega)⟩
        · have hgp : B.getD (i - 1) Br.no = B[i - 1] := by simp [List.getD, List.getElem?_eq_getElem (show i - 1 < B.length by omega)]
          obtain ⟨hk0, -, -⟩ := hcs (i - 1) (by omega)
          refine Or.inr ⟨decide_eq_true (by omega), decide_eq_true (by omega), by omega, (B.getD (i - 1) Br.no).k, ?_, decide_eq_false ?_⟩
          · rw [hgp]
            exact ((bcell hb).1 bb (o + (i - 1) * 3) (by omega)).trans (((bcell hb1).1 bb _ hbw).trans hk0)
          · rcases hkr with h | h <;> omega
      have HBR := Lib.hid hbr
      have HBI := Lib.hid hbri
      have HSG := Lib.hid hsg
      have hntl : nt ≤ L.length := by omega
      have hnft : nf < nt := by omega
      have hntc : nt ≤ c' := by omega
      have htdn : decide (nt ≤ nf) = false := decide_eq_false (by omega)
      have htldn : decide (L.length < nt) = false := decide_eq_false (by omega)
      obtain ⟨bl, ol, rfl, hbl, hcl⟩ := HY.out (by omega)
      have HCL := Lib.hid hcl
      clear hcs hkr hbr hbri hf ht htl hnn hgi hcl hsg
      have hsub : (nt : Int) - (nf : Int) = ((nt - nf : Nat) : Int) := by omega
      rcases hway with ⟨hi0b, hi0n⟩ | ⟨hi0b, hi0n, hip, kp, hk0, hkd⟩ <;> (rw [hnf] at hf1 hfb htd; rw [hnt] at ht1 htd htld; go_wp2; go_quiet (fail); go_wp2)
      all_goals (
        obtain ⟨wo, rfl⟩ : ∃ W, W = wr := ⟨wr, rfl⟩
        go_loopw [58] (fun m wi => ∃ q : Nat, nf + q ≤ nt ∧ RiseTo L nf (nf + q) ∧ m = .int .i64 q ∧ Below (wo.heap.size + 1) (wo.alloc (.cells #[.int .u64 B[i].k, .int .i64 nf, .int .i64 nt] 40)) wi) (fun m _ => nt - nf - (intOf m).toNat)
        case atStart => exact ⟨0, by omega, fun k h1 h2 => by omega, rfl, ⟨rfl, rfl, rfl, by simp, fun _ _ => rfl⟩⟩
        case round =>
          obtain ⟨q, hq, hr, rfl, hbi⟩ := hrel
          have hi0 := (hbi.cell (p := ⟨wo.heap.size, 1, none⟩) (by show wo.heap.size < _; omega)).trans (World.cell?_alloc_new _ _ _ _)
          have hi1 := (hbi.cell (p := ⟨wo.heap.size, 2, none⟩) (by show wo.heap.size < _; omega)).trans (World.cell?_alloc_new _ _ _ _)
          have hxi := (hbi.cell (p := ⟨w.heap.size, 1, none⟩) (by show w.heap.size < _; omega)).trans ((World.cell?_alloc_past _ _ _ (by omega)).trans hbx1)
          simp at hi0 hi1
          have hszi := hbi.size
          simp at hszi
          have hoi : w.heap.size < wr.heap.size := by omega
          have hoi2 : wo.heap.size < wr.heap.size := by omega
          by_cases hqt : nf + q < nt
          · have hrd0 : (q : Int) < (nt : Int) - (nf : Int) := by omega
            by_cases hq0 : q = 0
            · subst hq0
              have hqd : decide ((0 : Int) < ((0 : Nat) : Int)) = false := by simp
              go_wp2
              go_quiet (fail)
              go_wp2
              go_roundw
              case rel => exact ⟨1, by omega, fun k h1 h2 => by omega, by go_num, hbi.trans ⟨rfl, rfl, rfl, Nat.le_refl _, fun _ _ => rfl⟩⟩
              case measure => simp [intOf]; omega
            · have hqd : decide ((0 : Int) < (q : Int)) = true := decide_eq_true (by omega)
              have hqdn : decide (0 < q) = true := decide_eq_true (by omega)
              have hl0 := ((hbi.cell (p := ⟨bl, ol + (nf + q - 1), none⟩) (by show bl < _; omega)).trans ((World.cell?_alloc_past _ _ _ (by omega)).trans ((bcell hb).1 bl _ (by omega)))).trans (((bcell hb1).1 bl _ hbl).trans (HCL.out (nf + q - 1) (by omega)))
              have hl1 := ((hbi.cell (p := ⟨bl, ol + (nf + q), none⟩) (by show bl < _; omega)).trans ((World.cell?_alloc_past _ _ _ (by omega)).trans ((bcell hb).1 bl _ (by omega)))).trans (((bcell hb1).1 bl _ hbl).trans (HCL.out (nf + q) (by omega)))
              have hbln : bl < wr.heap.size := by omega
              have hg0 : L.getD (nf + q - 1) 0 = L[nf + q - 1] := by simp [List.getD, List.getElem?_eq_getElem (show nf + q - 1 < L.length by omega)]
              have hg1 : L.getD (nf + q) 0 = L[nf + q] := by simp [List.getD, List.getElem?_eq_getElem (show nf + q < L.length by omega)]
              obtain ⟨x, hx⟩ : ∃ x, L[nf + q - 1] = x := ⟨_, rfl⟩
              obtain ⟨y, hy⟩ : ∃ y, L[nf + q] = y := ⟨_, rfl⟩
              rw [hx] at hl0 hg0
              rw [hy] at hl1 hg1
              have hix0 : (0 : Int) ≤ (nf : Int) + (q : Int) - 1 := by omega
              have hix1 : (nf : Int) + (q : Int) - 1 < (L.length : Int) := by omega
              have hix2 : (nf : Int) + (q : Int) < (L.length : Int) := by omega
              have hix3 : ((nf : Int) + (q : Int) - 1).toNat = nf + q - 1 := by omega
              have hix4 : ((nf : Int) + (q : Int)).toNat = nf + q := by omega
              clear hx hy
              by_cases hll : x < y
              · have hlld : decide (y ≤ x) = false := decide_eq_false (by omega)
                have HNEW := Lib.hid (show RiseTo L nf (nf + q + 1) from riseTo_step hr (by rw [hg0, hg1]; exact hll))
                clear hg0 hg1 hll hr
                go_wp2
                go_quiet (fail)
                go_wp2
                go_roundw
                case rel => exact ⟨q + 1, by omega, HNEW.out, by go_num, hbi.trans ⟨rfl, rfl, rfl, Nat.le_refl _, fun _ _ => rfl⟩⟩
                case measure => simp [intOf]; omega
              · have hlld : decide (y ≤ x) = true := decide_eq_true (by omega)
                have HNO := Lib.hid (decide_eq_false (fun h : TrieOk B L => hll (by
                  have h3 := (h.2.1 i hlt).2
                  rw [HG.out] at h3
                  rw [← hg0, ← hg1]
                  exact h3 (nf + q) (by omega) (by omega))))
                clear hg0 hg1 hll hr
                go_wp2
                go_quiet (fail)
                go_wp2
                go_ret
                exact ⟨by rw [HNO.out]; rfl, later_trans hbw2 ((later_alloc wo _).trans ((hbi.trans (c := wr.drewN nq) ⟨rfl, rfl, rfl, Nat.le_refl _, fun _ _ => rfl⟩).mono (show wo.heap.size ≤ wo.heap.size + 1 by omega)))⟩
          · have hq' : nf + q = nt := by omega
            have hrd0 : ¬ (q : Int) < (nt : Int) - (nf : Int) := by omega
            go_wp2
            go_roundw
            case rel =>
              have hend : endAt B (i + 1) = (nt : Int) := by show (B.getD i Br.no).t = _; rw [HG.out, hnt]
              refine ⟨i + 1, by omega, by rw [hend], by go_num, fun j hj => ?_, fun j hj => ?_, ?_⟩
              · by_cases e : j = i
                · subst e; exact HBI.out
                · exact HBR.out j (by omega)
              · by_cases e : j = i
                · subst e
                  rw [HG.out]
                  exact fun k h1 h2 => hr k (by omega) (by omega)
                · exact HSG.out j (by omega)
              · exact later_trans hb ((later_alloc wo _).trans (hbi.mono (by omega)))
            case measure => simp [intOf]; omega)
    · obtain rfl : i = B.length := by omega
      by_cases he : endAt B B.length = (L.length : Int)
      · have heb : (endAt B B.length == (L.length : Int)) = true := beq_iff_eq.2 he
        by_cases hm6 : endAt B B.length ≤ 1048576
        · have hmd : decide (endAt B B.length ≤ 1048576) = true := decide_eq_true hm6
          have HNO := Lib.hid (decide_eq_true (show TrieOk B L from ⟨by omega, fun j hj => ⟨hbr j hj, hsg j hj⟩, he⟩))
          clear he hm6 hbr hsg
          go_wp2
          go_ret
          exact ⟨by rw [HNO.out]; rfl, by first | exact hbw2 | exact later_trans hbw2 (later_drewN _ _)⟩
        · have hmd : decide (endAt B B.length ≤ 1048576) = false := decide_eq_false hm6
          have HNO := Lib.hid (decide_eq_false (fun h : TrieOk B L => hm6 (by have := h.1; omega)))
          clear he hm6 hbr hsg
          go_wp2
          go_ret
          exact ⟨by rw [HNO.out]; rfl, by first | exact hbw2 | exact later_trans hbw2 (later_drewN _ _)⟩
      · have heb : (endAt B B.length == (L.length : Int)) = false := beq_eq_false_iff_ne.2 he
        have HNO := Lib.hid (decide_eq_false (fun h : TrieOk B L => he h.2.2))
        clear he hbr hsg
        go_wp2
        go_ret
        exact ⟨by rw [HNO.out]; rfl, by first | exact hbw2 | exact later_trans hbw2 (later_drewN _ _)⟩
end Go.Proofs.Ytdfnfdgkhflonaa
