/-
  The document's Run, walked.
-/
import Derived.Test.YtdfnfdgkhflonaaRows
import Derived.WalkKit
import Derived.WalkSpells
import Derived.WalkLawsBesides
import Derived.Deep.QuietTactic
import Derived.BigQuiet
import Derived.Outline
import Derived.Test.YtdfnfdgkhflonaaBase
import Derived.Test.YtdfnfdgkhflonaaBase2
import Derived.Test.YtdfnfdgkhflonaaTLib
import Derived.Test.YtdfnfdgkhflonaaTPlain
import Derived.Test.YtdfnfdgkhflonaaTOwn2
namespace Go.Proofs.Ytdfnfdgkhflonaa
open Go.RowKit
set_option linter.unusedVariables false

set_option maxRecDepth 100000 in
set_option maxHeartbeats 2000000 in
theorem refrun_any (vb vl : Value) (B : List Br) (L : List Int) (w : World) (hB : SlB w vb B) (hL : SlI .u64 w vl L) (hok : TrieOk B L) :
    Calls Try.prog 41 #[.agg #[vb, vl]] w fun e w' => ∃ v', e = .returned v' ∧ w'.ownsRow w.heap.size 59 2 v' (runOf B L).length ((runOf B L).flatMap Pr.cells) ∧ Below w.heap.size w w' := by
  obtain ⟨i0, hi, hz0, hz1, hz2⟩ := info_parts info_pair
  obtain ⟨a, c, rfl, h1, h2, h3, h4⟩ := hB.open
  obtain ⟨a', c', rfl, g1, g2, g3, g4⟩ := hL.open
  have HX := Lib.hid h4
  have HY := Lib.hid g4
  have HOK := Lib.hid hok
  have hmB : B.length ≤ 9223372036854775807 := by omega
  have hmL : L.length ≤ 1048576 := hok.1
  have hLc : L.length ≤ c' := g1
  have hmc : c' ≤ 9223372036854775807 := g2
  clear hB hL h1 h2 h3 h4 g1 g2 g3 g4 hok
  go_enter Try.func41, Try.ntmps41
  go_wp2
  obtain ⟨w1, hw1⟩ : ∃ w1, w.alloc (.cells #[.slice a B.length c, .slice a' L.length c'] 25) = w1 := ⟨_, rfl⟩
  have hb1 : Below w.heap.size w w1 := by rw [← hw1]; exact later_alloc w _
  have hsz1 : w1.heap.size = w.heap.size + 1 := by rw [← hw1]; simp
  have hbx : w1.heap[w.heap.size]? = some (.cells #[.slice a B.length c, .slice a' L.length c'] 25 (0, 0)) := by rw [← hw1]; exact box_new w _ _
  rw [hw1]
  clear hw1
  go_loopw [3, 11] (fun out k wr => ∃ i : Nat, i ≤ B.length ∧ k = .int .i64 i ∧ wr.ownsRow w1.heap.size 59 2 out (runTo B L i).length ((runTo B L i).flatMap Pr.cells) ∧ Below w1.heap.size w1 wr) (fun _ k _ => B.length - (intOf k).toNat)
  case atStart => exact ⟨0, Nat.zero_le _, rfl, World.ownsRow_nil _ _ _ _, later_refl w1⟩
  case round =>
    obtain ⟨i, hilt, rfl, hown, hb⟩ := hrel
    obtain ⟨ao, mo, co, rfl, HMO⟩ := owns_shape hown
    have hbxr : wr.heap[w.heap.size]? = some (.cells #[.slice a B.length c, .slice a' L.length c'] 25 (0, 0)) := (hb.block _ (by omega)).trans hbx
    have hbx1 := box_cell (i := 1) hbxr
    simp at hbx1
    have hszr := hb.size
    have hnx1 : w.heap.size < wr.heap.size := by omega
    have hbw2 : Below w.heap.size w wr := later_trans hb1 hb
    by_cases hlt : i < B.length
    · obtain ⟨bb, o, rfl, hbw, hcs⟩ := HX.out (by omega)
      obtain ⟨hk1, hf1, ht1⟩ := hcs i hlt
      have hk1 := ((bcell hbw2).1 bb (o + i * 3) hbw).trans hk1
      have hf1 := ((bcell hbw2).1 bb (o + i * 3 + 1) hbw).trans hf1
      have ht1 := ((bcell hbw2).1 bb (o + i * 3 + 2) hbw).trans ht1
      have hgi : B.getD i Br.no = B[i] := by simp [List.getD, List.getElem?_eq_getElem hlt]
      have hbri := (HOK.out.2.1 i hlt).1
      unfold BrOk at hbri
      rw [hgi] at hbri
      have hnn := endAt_nonneg (n := i) (fun j hj => (HOK.out.2.1 j (by omega)).1)
      have hlen := runTo_len (L := L) (fun j hj => (HOK.out.2.1 j hj).1) (i := i) (by omega)
      obtain ⟨q1, q2, q3, -⟩ := hbri
      obtain ⟨nf, hnf⟩ : ∃ n : Nat, B[i].f = n := ⟨B[i].f.toNat, by omega⟩
      obtain ⟨nt, hnt⟩ : ∃ n : Nat, B[i].t = n := ⟨B[i].t.toNat, by omega⟩
      obtain ⟨key, hkey⟩ : ∃ n, B[i].k = n := ⟨_, rfl⟩
      have hseg : segOf L B[i] = segTo L key nf (nt - nf) := by simp [segOf, hnf, hnt, hkey]
      have HS := Lib.hid (runTo_succ (L := L) hlt)
      have HSE := Lib.hid hseg
      have hlen0 : (runTo B L i).length = nf := by omega
      have hntl : nt ≤ L.length := by omega
      have hnft : nf < nt := by omega
      have hntc : nt ≤ c' := by omega
      rw [hnf] at hf1
      rw [hnt] at ht1
      rw [hkey] at hk1
      obtain ⟨bl, ol, rfl, hbl, hcl⟩ := HY.out (by omega)
      have HCL := Lib.hid hcl
      have hsub : (nt : Int) - (nf : Int) = ((nt - nf : Nat) : Int) := by omega
      clear hcs hcl hnn hlen q1 q2 q3 hgi hseg
      go_wp2
      obtain ⟨wo, rfl⟩ : ∃ W, W = wr := ⟨wr, rfl⟩
      go_loopw [3, 23] (fun out m wi => ∃ q : Nat, nf + q ≤ nt ∧ m = .int .i64 q ∧ wi.ownsRow w1.heap.size 59 2 out (runTo B L i ++ segTo L key nf q).length ((runTo B L i ++ segTo L key nf q).flatMap Pr.cells) ∧ wi.heap[wo.heap.size]? = some (.cells #[.int .u64 key, .int .i64 nf, .int .i64 nt] 40 (0, 0)) ∧ Below w1.heap.size w1 wi) (fun _ m _ => nt - nf - (intOf m).toNat)
      case atStart => exact ⟨0, by omega, rfl, by rw [segTo_zero, List.append_nil]; exact hown.alloc _, box_new wo _ _, later_trans hb (later_alloc wo _)⟩
      case round =>
        obtain ⟨q, hq, rfl, hown2, hbox, hbi⟩ := hrel
        have hseglen : (segTo L key nf q).length = q := segTo_len (by omega)
        have hall : (runTo B L i ++ segTo L key nf q).length = nf + q := by rw [List.length_append, hlen0, hseglen]
        have hbkey := box_cell (i := 0) hbox
        simp at hbkey
        by_cases hqt : nf + q < nt
        · have hrd0 : (q : Int) < (nt : Int) - (nf : Int) := by omega
          have hleaf : wr.cell? ⟨bl, ol + nf + q, none⟩ = some (.int .u64 L[nf + q]) := by
            rw [show ol + nf + q = ol + (nf + q) from by omega]
            exact ((bcell (later_trans hb1 hbi)).1 bl _ hbl).trans (HCL.out (nf + q) (by omega))
          obtain ⟨x, hx⟩ : ∃ x, L[nf + q] = x := ⟨_, rfl⟩
          rw [hx] at hleaf
          have hst := segTo_succ (L := L) (k := key) (f := nf) (q := q) (by omega)
          rw [hx] at hst
          have HST := Lib.hid hst
          obtain ⟨l0, hl0⟩ : ∃ l0, runTo B L i ++ segTo L key nf q = l0 := ⟨_, rfl⟩
          have HL0 := Lib.hid hl0
          rw [hl0] at hown2 hall
          obtain ⟨ai, mi, ci, rfl, HMI⟩ := owns_shape hown2
          have hsi := hbi.size
          clear hst hx hl0
          go_wp2_with (at_builtin; refine wpList_append_own _ rfl (.tmp 27) (.tmp 32) 57 rfl w1.heap.size 59 i0 _ 2 16 Try.underlying57 hi hz0 hz1 hz2 rfl (by decide) _ _ _ rfl (hown2.alloc _) ⟨wr.heap.size, 0, none⟩ 1 1 [.int .u64 key, .int .u64 x] rfl rfl (cells_new _ _ _) (by simp [Value.oneCell']) (by unfold maxLen; omega) (by omega) (by simp; omega) ?_; intro v6 w6 hown6 hgrow6 _; obtain ⟨g6, cap6, rfl⟩ := ownsRow_succ hown6)
          go_roundw
          case rel =>
            refine ⟨q + 1, by omega, by go_num, ?_, box_grown (hown2.alloc _) hgrow6 (box_alloc hbox _) (by decide), ?_⟩
            · have e1 : runTo B L i ++ segTo L key nf (q + 1) = l0 ++ [⟨key, x⟩] := by rw [HST.out, ← List.append_assoc, HL0.out]
              rw [e1, List.length_append, List.flatMap_append]
              simpa [Pr.cells, hall] using hown6
            · exact (later_trans hbi (later_alloc _ _)).grown hgrow6 (by simp; omega) (owns_above hown2)
          case measure => simp [intOf]; omega
        · have hq' : nf + q = nt := by omega
          have hrd0 : ¬ (q : Int) < (nt : Int) - (nf : Int) := by omega
          obtain ⟨l0, hl0⟩ : ∃ l0, runTo B L i ++ segTo L key nf q = l0 := ⟨_, rfl⟩
          have HL0 := Lib.hid hl0
          rw [hl0] at hown2 hall
          obtain ⟨ai, mi, ci, rfl, HMI⟩ := owns_shape hown2
          go_wp2
          go_roundw
          case rel =>
            refine ⟨i + 1, by omega, by go_num, ?_, hbi⟩
            rw [HS.out, HSE.out, show nt - nf = q from by omega, HL0.out]
            exact hown2
          case measure => simp [intOf]; omega
    · obtain rfl : i = B.length := by omega
      rw [runTo_all (Nat.le_refl _)] at hown
      clear HMO
      go_wp2
      go_ret
      exact ⟨_, rfl, owns_down hown (by omega), hbw2⟩
end Go.Proofs.Ytdfnfdgkhflonaa
