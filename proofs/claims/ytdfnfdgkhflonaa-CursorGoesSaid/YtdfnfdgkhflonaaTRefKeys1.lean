/-
  The document's Keys at a path of one number, walked.
-/
import Derived.Test.YtdfnfdgkhflonaaTRefKeys
import Derived.Test.YtdfnfdgkhflonaaTUnder
import Derived.Test.YtdfnfdgkhflonaaTHas
namespace Go.Proofs.Ytdfnfdgkhflonaa
open Go.RowKit
set_option linter.unusedVariables false

theorem under_take_no {B : List Br} {L : List Int} {key : Int} {i : Nat} (hi : i < B.length) (hk : B[i].k ≠ key) : underL (B.take (i + 1)) L key = underL (B.take i) L key := by
  unfold underL
  rw [List.take_succ_eq_append_getElem hi, List.find?_append]
  have : [B[i]].find? (fun b => b.k == key) = none := by simp [hk]
  rw [this, Option.or_none]
theorem under_take_yes {B : List Br} {L : List Int} {key : Int} {i : Nat} (hok : TrieOk B L) (hi : i < B.length) (hk : B[i].k = key) : underL (B.take (i + 1)) L key = underL (B.take i) L key ++ (L.drop B[i].f.toNat).take (B[i].t.toNat - B[i].f.toNat) := by
  unfold underL
  rw [List.take_succ_eq_append_getElem hi, List.find?_append]
  have h0 : (B.take i).find? (fun b => b.k == key) = none := by
    refine find_none (fun j hj he => ?_)
    simp at hj
    simp at he
    have := keys_rise hok j i (by omega) hi
    omega
  have h1 : [B[i]].find? (fun b => b.k == key) = some B[i] := by simp [hk]
  rw [h0, h1]
  simp

set_option maxRecDepth 100000 in
set_option maxHeartbeats 2000000 in
theorem refkeys1_any (vb vl : Value) (pb po pc : Nat) (B : List Br) (L : List Int) (key : Int) (w : World) (hB : SlB w vb B) (hL : SlI .u64 w vl L) (hok : TrieOk B L) (hl : B.length ≤ 1048576) (hp : w.cell? ⟨pb, po, none⟩ = some (.int .u64 key)) :
    Calls Try.prog 43 #[.agg #[vb, vl], .slice (some ⟨pb, po, none⟩) 1 pc] w fun e w' => ∃ v', e = .returned v' ∧ w'.ownsRow w.heap.size 38 1 v' (underL B L key).length ((underL B L key).map (.int .u64)) ∧ Below w.heap.size w w' := by
  obtain ⟨i0, hi, hz0, hz1, hz2⟩ := info_parts info_u64
  obtain ⟨a, c, rfl, h1, h2, h3, h4⟩ := hB.open
  obtain ⟨a', c', rfl, g1, g2, g3, g4⟩ := hL.open
  have HX := Lib.hid h4
  have HY := Lib.hid (fun W (hW : Below w.heap.size w W) => hL.later hW)
  have HY4 := Lib.hid g4
  have HOK := Lib.hid hok
  have HP := Lib.hid (fun W (hW : Below w.heap.size w W) => cell_next hW hp)
  have hmL : L.length ≤ 1048576 := hok.1
  have hLc : L.length ≤ c' := g1
  have hmc : c' ≤ 9223372036854775807 := g2
  clear h1 h2 h3 h4 hB hL hok hp g1 g2 g3 g4
  go_enter Try.func43, Try.ntmps43
  go_wp2
  obtain ⟨w1, hw1⟩ : ∃ w1, w.alloc (.cells #[.slice a B.length c, .slice a' L.length c'] 25) = w1 := ⟨_, rfl⟩
  have hb1 : Below w.heap.size w w1 := by rw [← hw1]; exact later_alloc w _
  have hs1 : w.heap.size < w1.heap.size := by rw [← hw1]; simp
  have hbx : w1.heap[w.heap.size]? = some (.cells #[.slice a B.length c, .slice a' L.length c'] 25 (0, 0)) := by rw [← hw1]; exact box_new w _ _
  rw [hw1]
  clear hw1
  go_loopw [5, 11] (fun out k wr => ∃ i : Nat, i ≤ B.length ∧ k = .int .i64 i ∧ wr.ownsRow w1.heap.size 38 1 out (underL (B.take i) L key).length ((underL (B.take i) L key).map (.int .u64)) ∧ Below w1.heap.size w1 wr) (fun _ k _ => B.length - (intOf k).toNat)
  case atStart => exact ⟨0, Nat.zero_le _, rfl, by simpa [underL] using World.ownsRow_nil _ _ _ _, later_refl w1⟩
  case round =>
    obtain ⟨i, hi', rfl, hown, hb⟩ := hrel
    obtain ⟨ao, co, rfl⟩ := owns_shape2 hown
    have hbw := later_trans hb1 hb
    by_cases hlt : i < B.length
    · obtain ⟨bb, o, rfl, hbb, hcs⟩ := HX.out (by omega)
      obtain ⟨hk, hf, ht⟩ := hcs i hlt
      have hk := ((bcell hbw).1 bb (o + i * 3) hbb).trans hk
      have hf := ((bcell hbw).1 bb (o + i * 3 + 1) hbb).trans hf
      have ht := ((bcell hbw).1 bb (o + i * 3 + 2) hbb).trans ht
      have hpr := HP.out wr hbw
      have hpb : pb < wr.heap.size := World.block_lt_of_cell? _ _ hpr
      obtain ⟨q1, q2, q3⟩ := br_at HOK.out hlt
      obtain ⟨nf, hnf⟩ : ∃ n : Nat, B[i].f = n := ⟨B[i].f.toNat, by omega⟩
      obtain ⟨nt, hnt⟩ : ∃ n : Nat, B[i].t = n := ⟨B[i].t.toNat, by omega⟩
      obtain ⟨bk, hbk⟩ : ∃ n, B[i].k = n := ⟨_, rfl⟩
      have hul := Nat.le_trans (under_len (B := B.take i) (L := L) key) hmL
      by_cases hkey : bk = key
      · have hyes := under_take_yes HOK.out hlt (hbk.trans hkey)
        rw [hnf, hnt] at hyes
        simp only [Int.toNat_natCast] at hyes
        have HYES := Lib.hid hyes
        have hY := HY.out _ (later_trans hbw (later_trans (later_alloc wr (.cells #[.int .u64 bk, .int .i64 nf, .int .i64 nt] 40)) (later_drew _)))
        rw [hnf] at hf q2
        rw [hnt] at ht q3 q2
        rw [hbk] at hk
        obtain ⟨bl, ol, rfl, hbl, hcl⟩ := HY4.out (by omega)
        have hntl : nt ≤ L.length := by omega
        have hnft : nf < nt := by omega
        have hntc : nt ≤ c' := by omega
        have hsub : (nt : Int) - (nf : Int) = ((nt - nf : Nat) : Int) := by omega
        have HSU := Lib.hid (sub_slice hY (f := nf) (t := nt) hnft hntl)
        have hseg : ((L.drop nf).take (nt - nf)).length = nt - nf := by simp; omega
        obtain ⟨sg, hsg⟩ : ∃ sg, (L.drop nf).take (nt - nf) = sg := ⟨_, rfl⟩
        rw [hsg] at hseg HYES HSU
        have hsz := hb.size
        have hke : (bk == key) = true := beq_iff_eq.2 hkey
        have hbxr : wr.heap[w.heap.size]? = some (.cells #[.slice (some ⟨bb, o, none⟩) B.length c, .slice (some ⟨bl, ol, none⟩) L.length c'] 25 (0, 0)) := (hb.block _ (by omega)).trans hbx
        have hbx1 := box_cell (i := 1) hbxr
        simp at hbx1
        have hnx1 : w.heap.size < wr.heap.size := by omega
        clear hcs hcl hyes hY hsg q1 q2 q3 hnf hnt hbk hkey
        go_wp2
        go_quiet (fail)
        go_wp2_with (at_builtin; refine wpList_append_own _ rfl (.tmp 34) (.tmp 41) 23 rfl w1.heap.size 38 i0 _ 1 8 Try.underlying23 hi hz0 hz1 hz2 rfl (by decide) _ _ _ rfl (owns_drewN (hown.alloc _) _) ⟨bl, ol + nf, none⟩ (nt - nf) (c' - nf) (sg.map (.int .u64)) rfl (by simp [hseg]) (HSU.out.1.cells) (by simp [Value.oneCell']) (by unfold maxLen; omega) (by omega) (by simp; omega) ?_; intro v6 w6 hown6 hgrow6 _)
        go_roundw
        case rel =>
          refine ⟨i + 1, by omega, by go_num, ?_, (later_trans hb (later_trans (later_alloc wr _) (later_drewN _ _))).grown hgrow6 (by simp; omega) (owns_above hown)⟩
          rw [HYES.out, List.length_append, hseg, List.map_append]
          exact hown6
        case measure => simp [intOf]; omega
      · have hno := under_take_no (L := L) hlt (show B[i].k ≠ key by rw [hbk]; exact hkey)
        have HNO := Lib.hid hno
        rw [hnf] at hf
        rw [hnt] at ht
        rw [hbk] at hk
        have hke : (bk == key) = false := beq_eq_false_iff_ne.2 hkey
        clear hcs hno q1 q2 q3 hnf hnt hbk hkey
        go_wp2
        go_quiet (fail)
        go_wp2
        go_roundw
        case rel =>
          refine ⟨i + 1, by omega, by go_num, ?_, later_trans hb (later_trans (later_alloc wr _) (later_drewN _ _))⟩
          rw [HNO.out]
          exact owns_drewN (hown.alloc _) _
        case measure => simp [intOf]; omega
    · obtain rfl : i = B.length := by omega
      have e : B.take B.length = B := List.take_of_length_le (Nat.le_refl _)
      rw [e] at hown ⊢
      go_wp2
      go_ret
      exact ⟨_, rfl, owns_down hown (Nat.le_of_lt hs1), hbw⟩
end Go.Proofs.Ytdfnfdgkhflonaa
