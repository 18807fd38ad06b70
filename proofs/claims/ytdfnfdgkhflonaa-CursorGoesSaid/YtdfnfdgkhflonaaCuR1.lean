/-
  The document's answer for the cursor (colanderref08), walked: Row.
-/
import Derived.Test.YtdfnfdgkhflonaaCuQ
import Derived.Test.YtdfnfdgkhflonaaTRefKeys1
namespace Go.Proofs.Ytdfnfdgkhflonaa
open Go.RowKit
set_option linter.unusedVariables false

/-- The document's keys under a branch's key are its leaves. -/
theorem under_at {bs : List Br} {ls : List Int} (hT : TrieS bs ls) {i : Nat} (hi : i < bs.length) : underL bs ls bs[i].k = leavesOf ls bs[i] := by
  have hf : bs.find? (fun b => b.k == bs[i].k) = some bs[i] := by
    rw [List.find?_eq_some_iff_getElem]
    refine ⟨by simp, i, hi, rfl, fun j hj => ?_⟩
    have h1 := rises_lt (rises_keys hT) (i := j) (j := i) hj (by rw [keysOf_len]; exact hi)
    simp only [keysOf, List.getElem_map] at h1
    simp only [Bool.not_eq_true', beq_eq_false_iff_ne]
    omega
  unfold underL
  rw [hf]
  rfl

/-- A place, as a value: the trie, the depth, the places, the steps. -/
def plcA (vb vl : Value) (d z1 z2 le mo : Int) : Array Value := #[vb, vl, .int .i64 d, .int .i64 0, .int .i64 z1, .int .i64 z2, .int .i64 le, .int .i64 mo]

section
variable {vb vl : Value} {bs : List Br} {ls : List Int} {w : World} {d z1 z2 le mo : Int}
set_option maxRecDepth 100000 in
set_option maxHeartbeats 2000000 in
theorem row1_any (hB : SlB w vb bs) (hL : SlI .u64 w vl ls) (hT : TrieS bs ls) :
    Calls Try.prog 67 #[.agg (plcA vb vl d z1 z2 le mo), .int .i64 1] w fun e w' => ∃ v', e = .returned v' ∧ w'.ownsRow w.heap.size 38 1 v' (keysOf bs).length ((keysOf bs).map (.int .u64)) ∧ Below w.heap.size w w' := by
  have HK := Lib.hid (fun W (hb : Below w.heap.size w W) => refkeys0_any vb vl none 0 bs W (hB.later hb) hT.few)
  obtain ⟨a, c, rfl, -, -, -, -⟩ := hB.open
  obtain ⟨a', c', rfl, -, -, -, -⟩ := hL.open
  unfold plcA
  clear hB hL hT
  go_enter Try.func67, Try.ntmps67
  go_wp2_with fail
  refine (HK.out _ (later_alloc w _)).mono ?_
  rintro e w' ⟨v', rfl, ho, hb⟩
  have HO := Lib.hid (owns_down ho (later_alloc w _).size)
  have hb2 := later_trans (later_alloc w _) hb
  clear ho hb
  go_wp2_with fail
  go_ret
  exact ⟨_, rfl, HO.out, hb2⟩

set_option maxRecDepth 100000 in
set_option maxHeartbeats 4000000 in
theorem row2_any {i : Nat} (hB : SlB w vb bs) (hL : SlI .u64 w vl ls) (hT : TrieS bs ls) (hi : i < bs.length) :
    Calls Try.prog 67 #[.agg (plcA vb vl d i z2 le mo), .int .i64 2] w fun e w' => ∃ v', e = .returned v' ∧ w'.ownsRow w.heap.size 38 1 v' (leavesOf ls bs[i]).length ((leavesOf ls bs[i]).map (.int .u64)) ∧ Below w.heap.size w w' := by
  have HK := Lib.hid (fun (W : World) (X : Nat) (hb : Below w.heap.size w W) (hp : W.cell? ⟨X, 0, none⟩ = some (.int .u64 bs[i].k)) => refkeys1_any vb vl X 0 1 bs ls bs[i].k W (hB.later hb) (hL.later hb) hT.ok hT.few hp)
  rw [under_at hT hi] at HK
  obtain ⟨a, c, rfl, -, -, -, h4⟩ := hB.open
  obtain ⟨a', c', rfl, -, -, -, -⟩ := hL.open
  obtain ⟨bb, o, rfl, hbb, hcs⟩ := h4 (by omega)
  obtain ⟨q0, -, -⟩ := hcs i hi
  unfold plcA
  obtain ⟨kk, hkk⟩ : ∃ kk, bs[i].k = kk := ⟨_, rfl⟩
  rw [hkk] at q0 HK
  have hiI : (i : Int) < bs.length := by omega
  have hfew := hT.few
  have hcell : ∀ W, Below w.heap.size w W → W.heap[w.heap.size]? = some (.cells #[.slice (some ⟨bb, o, none⟩) bs.length c, .slice a' ls.length c', .int .i64 d, .int .i64 0, .int .i64 i, .int .i64 z2, .int .i64 le, .int .i64 mo] 36 (0, 0)) →
      W.cell? ⟨w.heap.size, 0, none⟩ = some (.slice (some ⟨bb, o, none⟩) bs.length c) ∧ W.cell? ⟨w.heap.size, 1, none⟩ = some (.slice a' ls.length c') ∧ W.cell? ⟨w.heap.size, 4, none⟩ = some (.int .i64 i) ∧ W.cell? ⟨bb, o + i * 3, none⟩ = some (.int .u64 kk) := fun W hb hn =>
    ⟨by simpa using box_cell (i := 0) hn, by simpa using box_cell (i := 1) hn, by simpa using box_cell (i := 4) hn, (hb.cell (p := ⟨bb, o + i * 3, none⟩) hbb).trans q0⟩
  have HC := Lib.hid hcell
  clear hB hL h4 hcs hkk hcell hT q0
  go_enter Try.func67, Try.ntmps67
  go_wp2_with fail
  have hX := box_new w #[.slice (some ⟨bb, o, none⟩) bs.length c, .slice a' ls.length c', .int .i64 d, .int .i64 0, .int .i64 i, .int .i64 z2, .int .i64 le, .int .i64 mo] 36
  have hb1 := later_alloc w (.cells #[.slice (some ⟨bb, o, none⟩) bs.length c, .slice a' ls.length c', .int .i64 d, .int .i64 0, .int .i64 i, .int .i64 z2, .int .i64 le, .int .i64 mo] 36)
  go_region_held3 (fun W => W.cell? ⟨w.heap.size, 0, none⟩ = some (.slice (some ⟨bb, o, none⟩) bs.length c) ∧ W.cell? ⟨w.heap.size, 1, none⟩ = some (.slice a' ls.length c') ∧ W.cell? ⟨w.heap.size, 4, none⟩ = some (.int .i64 i) ∧ W.cell? ⟨bb, o + i * 3, none⟩ = some (.int .u64 kk))
    (first | exact HC.out _ (later_trans hb1 (later_drew _)) hX | exact HC.out _ hbE hXE | exact HC.out _ (later_trans (later_trans hb1 (later_drew _)) (later_alloc _ _)) (box_alloc hX _) | exact HC.out _ (later_trans hb1 (later_trans (later_alloc _ _) (later_drew _))) (box_alloc hX _) | assumption)
    (first
      | (go_at_call 43; refine (HK.out _ (w.heap.size + 1) (by first | exact later_trans hb1 (later_trans (later_drew _) (later_alloc _ _)) | exact later_trans hb1 (later_trans (later_alloc _ _) (later_drew _))) (by simp)).mono ?_; rintro e wE ⟨v', rfl, ho, hE⟩; have hbE : Below w.heap.size w wE := later_trans (by first | exact later_trans hb1 (later_trans (later_drew _) (later_alloc _ _)) | exact later_trans hb1 (later_trans (later_alloc _ _) (later_drew _))) hE; have hXE := (hE.block w.heap.size (by simp; omega)).trans (box_alloc hX (.cells #[.int .u64 kk] 38)); have HO := Lib.hid (owns_down ho (by simp; omega : w.heap.size ≤ _)); clear ho))
  all_goals go_wp2
  all_goals go_ret
  all_goals exact ⟨_, rfl, HO.out, hbE⟩
end
end Go.Proofs.Ytdfnfdgkhflonaa
