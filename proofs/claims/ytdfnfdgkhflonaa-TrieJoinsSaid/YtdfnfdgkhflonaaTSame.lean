/-
  The document's Same, walked.
-/
import Derived.Test.YtdfnfdgkhflonaaRows
import Derived.WalkKit
import Derived.WalkSpells
import Derived.WalkLawsBesides
import Derived.Deep.QuietTactic
import Derived.BigQuiet
import Derived.Outline
import Derived.Laws.StructEq
import Derived.Test.YtdfnfdgkhflonaaBase
import Derived.Test.YtdfnfdgkhflonaaBase2
import Derived.Test.YtdfnfdgkhflonaaTEq
namespace Go.Proofs.Ytdfnfdgkhflonaa
open Go.RowKit
set_option linter.unusedVariables false

set_option maxRecDepth 100000 in
set_option maxHeartbeats 2000000 in
theorem same7_any (va vl vb vm : Value) (A B : List Br) (L M : List Int) (w : World) (hA : SlB w va A) (hL : SlI .u64 w vl L) (hB : SlB w vb B) (hM : SlI .u64 w vm M) :
    Calls Try.prog 39 #[.agg #[va, vl], .agg #[vb, vm]] w fun e w' => e = .returned (.bool (decide (A = B ∧ L = M))) ∧ Below w.heap.size w w' := by
  obtain ⟨a1, c1, rfl, h11, h12, h13, h14⟩ := hA.open
  obtain ⟨a2, c2, rfl, h21, h22, h23, h24⟩ := hL.open
  obtain ⟨a3, c3, rfl, h31, h32, h33, h34⟩ := hB.open
  obtain ⟨a4, c4, rfl, h41, h42, h43, h44⟩ := hM.open
  have HA := Lib.hid h14
  have HL := Lib.hid h24
  have HB := Lib.hid h34
  have HM := Lib.hid h44
  have hmA : A.length ≤ 9223372036854775807 := by omega
  have hmL : L.length ≤ 9223372036854775807 := by omega
  have hmB : B.length ≤ 9223372036854775807 := by omega
  have hmM : M.length ≤ 9223372036854775807 := by omega
  clear hA hL hB hM h11 h12 h13 h14 h21 h22 h23 h24 h31 h32 h33 h34 h41 h42 h43 h44
  obtain ⟨W, hW⟩ : ∃ W, (w.alloc (.cells #[.slice a1 A.length c1, .slice a2 L.length c2] 25)).alloc (.cells #[.slice a3 B.length c3, .slice a4 M.length c4] 25) = W := ⟨_, rfl⟩
  have hbW : Below w.heap.size w W := by rw [← hW]; exact later_trans (later_alloc w _) (later_alloc _ _)
  have hszW : W.heap.size = w.heap.size + 2 := by rw [← hW]; simp
  have k0 : W.cell? ⟨w.heap.size, 0, none⟩ = some (.slice a1 A.length c1) := by rw [← hW]; simp
  have k1 : W.cell? ⟨w.heap.size, 1, none⟩ = some (.slice a2 L.length c2) := by rw [← hW]; simp
  have k2 : W.cell? ⟨w.heap.size + 1, 0, none⟩ = some (.slice a3 B.length c3) := by rw [← hW]; simp
  have k3 : W.cell? ⟨w.heap.size + 1, 1, none⟩ = some (.slice a4 M.length c4) := by rw [← hW]; simp
  by_cases hl1 : A.length = B.length
  case neg =>
    have hd : ((A.length : Int) != (B.length : Int)) = true := by simp; omega
    have hno : decide (A = B ∧ L = M) = false := decide_eq_false (by rintro ⟨rfl, -⟩; exact hl1 rfl)
    rw [hno]
    clear hno hl1 hszW
    go_enter Try.func39, Try.ntmps39
    go_wp2
    go_ret
    first | exact ⟨rfl, hbW⟩ | exact ⟨rfl, later_trans hbW (later_drewN _ _)⟩
  have hd1 : ((A.length : Int) != (B.length : Int)) = false := by simp; omega
  by_cases hl2 : L.length = M.length
  case neg =>
    have hd : ((L.length : Int) != (M.length : Int)) = true := by simp; omega
    have hno : decide (A = B ∧ L = M) = false := decide_eq_false (by rintro ⟨-, rfl⟩; exact hl2 rfl)
    rw [hno]
    clear hno hl2 hl1 hszW
    go_enter Try.func39, Try.ntmps39
    go_wp2
    go_ret
    first | exact ⟨rfl, hbW⟩ | exact ⟨rfl, later_trans hbW (later_drewN _ _)⟩
  have hd2 : ((L.length : Int) != (M.length : Int)) = false := by simp; omega
  have HL1 := Lib.hid hl1
  have HL2 := Lib.hid hl2
  clear hl1 hl2
  have HSZ := Lib.hid hszW
  clear hszW
  go_enter Try.func39, Try.ntmps39
  go_wp2
  go_loopw [28] (fun i wr => ∃ k : Nat, k ≤ A.length ∧ i = .int .i64 k ∧ SameUp k A B ∧ Below W.heap.size W wr) (fun i _ => A.length - (intOf i).toNat)
  case atStart => exact ⟨0, Nat.zero_le _, rfl, sameUp_zero _ _, by first | exact later_refl W | exact later_drewN _ _⟩
  case round =>
    obtain ⟨k, hk, rfl, hs, hb⟩ := hrel
    have hx0 := ((bcell hb).1 w.heap.size 0 (by have := HSZ.out; omega)).trans k0
    have hx1 := ((bcell hb).1 w.heap.size 1 (by have := HSZ.out; omega)).trans k1
    have hx2 := ((bcell hb).1 (w.heap.size + 1) 0 (by have := HSZ.out; omega)).trans k2
    have hx3 := ((bcell hb).1 (w.heap.size + 1) 1 (by have := HSZ.out; omega)).trans k3
    have hn0 : w.heap.size < wr.heap.size := by have := HSZ.out; have := hb.size; omega
    have hn1 : w.heap.size + 1 < wr.heap.size := by have := HSZ.out; have := hb.size; omega
    by_cases hlt : k < A.length
    · have hlb : k < B.length := by have := HL1.out; omega
      obtain ⟨b, o, rfl, hbb, hc⟩ := HA.out (by omega)
      obtain ⟨b', o', rfl, hbb', hc'⟩ := HB.out (by omega)
      obtain ⟨p, hpe⟩ : ∃ p, A[k] = p := ⟨_, rfl⟩
      obtain ⟨q, hqe⟩ : ∃ q, B[k] = q := ⟨_, rfl⟩
      have hcp := hc k hlt
      have hcq := hc' k hlb
      rw [hpe] at hcp
      rw [hqe] at hcq
      have hbwr := later_trans hbW hb
      obtain ⟨hpk, hpf, hpt⟩ := hcp
      obtain ⟨hqk, hqf, hqt⟩ := hcq
      have hpk := ((bcell hbwr).1 b (o + k * 3) hbb).trans hpk
      have hpf := ((bcell hbwr).1 b (o + k * 3 + 1) hbb).trans hpf
      have hpt := ((bcell hbwr).1 b (o + k * 3 + 2) hbb).trans hpt
      have hqk := ((bcell hbwr).1 b' (o' + k * 3) hbb').trans hqk
      have hqf := ((bcell hbwr).1 b' (o' + k * 3 + 1) hbb').trans hqf
      have hqt := ((bcell hbwr).1 b' (o' + k * 3 + 2) hbb').trans hqt
      have hnb : b < wr.heap.size := by omega
      have hnb' : b' < wr.heap.size := by omega
      have hgd := guard_branch
      have hne := neq_branch p q
      by_cases hpq : p = q
      · have hd : decide (p = q) = true := decide_eq_true hpq
        rw [hd] at hne
        have HST := Lib.hid (sameUp_step hs hlt hlb (by rw [hpe, hqe]; exact hpq))
        clear hc hc' hpe hqe hpq hd hs
        go_wp2
        go_quiet (fail)
        go_wp2
        go_roundw
        case rel => exact ⟨k + 1, by omega, by go_num, HST.out, later_trans hb (later_trans (later_alloc wr _) (later_drewN _ _))⟩
        case measure => simp [intOf]; omega
      · have hd : decide (p = q) = false := decide_eq_false hpq
        rw [hd] at hne
        have HNO := Lib.hid (show decide (A = B ∧ L = M) = false from decide_eq_false (by rintro ⟨rfl, -⟩; exact hpq (hpe.symm.trans hqe)))
        clear hc hc' hpe hqe hpq hd hs
        go_wp2
        go_quiet (fail)
        go_wp2
        go_ret
        exact ⟨ret_bool HNO.out.symm, later_trans hbwr (later_trans (later_alloc wr _) (later_drewN _ _))⟩
    · have hAB : A = B := sameUp_all (by rw [show A.length = k from by omega]; exact hs) HL1.out
      have HAB := Lib.hid hAB
      obtain rfl : k = A.length := by omega
      clear hs hAB
      have hbW1 := later_trans hbW hb
      go_wp2
      go_loopw [44] (fun i wi => ∃ k : Nat, k ≤ L.length ∧ i = .int .i64 k ∧ SameUp k L M ∧ Below W.heap.size W wi) (fun i _ => L.length - (intOf i).toNat)
      case atStart => exact ⟨0, Nat.zero_le _, rfl, sameUp_zero _ _, hb⟩
      case round =>
        obtain ⟨k, hk, rfl, hs, hb⟩ := hrel
        have hx0 := ((bcell hb).1 w.heap.size 0 (by have := HSZ.out; omega)).trans k0
        have hx1 := ((bcell hb).1 w.heap.size 1 (by have := HSZ.out; omega)).trans k1
        have hx2 := ((bcell hb).1 (w.heap.size + 1) 0 (by have := HSZ.out; omega)).trans k2
        have hx3 := ((bcell hb).1 (w.heap.size + 1) 1 (by have := HSZ.out; omega)).trans k3
        by_cases hlt : k < L.length
        · have hlb : k < M.length := by have := HL2.out; omega
          obtain ⟨b, o, rfl, hbb, hc⟩ := HL.out (by omega)
          obtain ⟨b', o', rfl, hbb', hc'⟩ := HM.out (by omega)
          obtain ⟨p, hpe⟩ : ∃ p, L[k] = p := ⟨_, rfl⟩
          obtain ⟨q, hqe⟩ : ∃ q, M[k] = q := ⟨_, rfl⟩
          have hcp := hc k hlt
          have hcq := hc' k hlb
          rw [hpe] at hcp
          rw [hqe] at hcq
          have hbwr := later_trans hbW hb
          have hpk := ((bcell hbwr).1 b (o + k) hbb).trans hcp
          have hqk := ((bcell hbwr).1 b' (o' + k) hbb').trans hcq
          by_cases hpq : p = q
          · have hd : (p != q) = false := by simp [hpq]
            have HST := Lib.hid (sameUp_step hs hlt hlb (by rw [hpe, hqe]; exact hpq))
            clear hc hc' hpe hqe hpq hs hcp hcq
            go_wp2
            go_roundw
            case rel => exact ⟨k + 1, by omega, by go_num, HST.out, by first | exact hb | exact later_trans hb (later_drewN _ _)⟩
            case measure => simp [intOf]; omega
          · have hd : (p != q) = true := by simp [hpq]
            have HNO := Lib.hid (show decide (A = B ∧ L = M) = false from decide_eq_false (by rintro ⟨-, rfl⟩; exact hpq (hpe.symm.trans hqe)))
            clear hc hc' hpe hqe hpq hs hcp hcq
            go_wp2
            go_ret
            exact ⟨ret_bool HNO.out.symm, by first | exact hbwr | exact later_trans hbwr (later_drewN _ _)⟩
        · have HLM := Lib.hid (show decide (A = B ∧ L = M) = true from decide_eq_true ⟨HAB.out, sameUp_all (by rw [show L.length = k from by omega]; exact hs) HL2.out⟩)
          obtain rfl : k = L.length := by omega
          clear hs
          go_wp2
          go_ret
          exact ⟨ret_bool HLM.out.symm, later_trans hbW hb⟩
end Go.Proofs.Ytdfnfdgkhflonaa
