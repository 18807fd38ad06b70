/-
  Are rows of structs the same: slices.Equal at pairs and at branches, walked.
-/
import Derived.Test.YtdfnfdgkhflonaaRows
import Derived.WalkKit
import Derived.WalkSpells
import Derived.WalkLawsBesides
import Derived.Deep.QuietTactic
import Derived.BigQuiet
import Derived.Outline
import Derived.Laws.StructEq
import Derived.Test.YtdfnfdgkhflonaaBase
import Derived.Test.YtdfnfdgkhflonaaBase2
namespace Go.Proofs.Ytdfnfdgkhflonaa
open Go.RowKit
set_option linter.unusedVariables false

theorem ret_bool2 {a b : Bool} (h : a = b) : Ending.returned (.bool a) = .returned (.bool b) := by rw [h]
/-- The first k elements are the same. -/
def SameUp {α : Type} (k : Nat) (xs ys : List α) : Prop := xs.take k = ys.take k
theorem sameUp_zero {α : Type} (xs ys : List α) : SameUp 0 xs ys := by simp [SameUp]
theorem sameUp_step {α : Type} {k : Nat} {xs ys : List α} (h : SameUp k xs ys) (hx : k < xs.length) (hy : k < ys.length) (e : xs[k] = ys[k]) : SameUp (k + 1) xs ys := by
  unfold SameUp at *
  rw [List.take_succ_eq_append_getElem hx, List.take_succ_eq_append_getElem hy, h, e]
theorem sameUp_all {α : Type} {xs ys : List α} (h : SameUp xs.length xs ys) (hl : xs.length = ys.length) : xs = ys := by
  unfold SameUp at h
  rw [List.take_length, hl, List.take_length] at h
  exact h

theorem neq_pair (p q : Pr) (w : World) : (binOp .neq 59 (.agg #[.int .u64 p.a, .int .u64 p.b]) (.agg #[.int .u64 q.a, .int .u64 q.b])).run Try.prog w = .ok (.bool (!decide (p = q))) w := by
  have uuint64 := Try.underlying38
  have hS : Try.prog.underlying 59 = some (.struct (Try.prog.fieldsOf 59)) := by kernel_rfl
  have hp : Try.prog.stoodInHeld 59 = false := by kernel_rfl
  rw [run_neq_struct, show (10000 : Nat) = 9999 + 1 from rfl, run_equalIn_agg w 9999 59 _ _ hS hp]
  simp only [Program.fieldsOf, Try.underlying59]
  go_simp
  obtain ⟨pa, pb⟩ := p
  obtain ⟨qa, qb⟩ := q
  by_cases ha : pa = qa <;> by_cases hb : pb = qb <;> simp [ha, hb]
theorem guard_pair (x y : Operand) (xs ys : Array Value) (w : World) : (eqGuard .neq 59 x y (.agg xs) (.agg ys)).run Try.prog w = .ok () w := run_eqGuard_agg w .neq 59 x y xs ys (by kernel_rfl)

set_option maxHeartbeats 800000 in
/-- slices.Equal at pairs: are the elements the same? It only reads. -/
theorem equalP_any (u v : Value) (xs ys : List Pr) (w : World) (hx : SlP w u xs) (hy : SlP w v ys) :
    Calls Try.prog 32 #[u, v] w fun e w' => e = .returned (.bool (decide (xs = ys))) ∧ ∃ n, w' = w.drewN n := by
  obtain ⟨a, c, rfl, h1, h2, h3, h4⟩ := hx.open
  obtain ⟨a', c', rfl, g1, g2, g3, g4⟩ := hy.open
  by_cases hl : xs.length = ys.length
  · have hm : ys.length ≤ 9223372036854775807 := by omega
    have HX := Lib.hid h4
    have HY := Lib.hid g4
    rw [hl]
    have HL := Lib.hid hl
    clear h1 g1 hx hy h3 g3 h4 g4 hl
    go_enter Try.func32, Try.ntmps32
    go_wp2
    go_loopw [13] (fun i wr => ∃ k : Nat, k ≤ ys.length ∧ i = .int .i64 k ∧ SameUp k xs ys ∧ ∃ n, wr = w.drewN n) (fun i _ => ys.length - (intOf i).toNat)
    case atStart => exact ⟨0, Nat.zero_le _, rfl, sameUp_zero _ _, 0, rfl⟩
    case round =>
      obtain ⟨k, hk, rfl, hs, n, rfl⟩ := hrel
      by_cases hlt : k < ys.length
      · have hlx : k < xs.length := by have := HL.out; omega
        obtain ⟨b, o, rfl, -, hc⟩ := HX.out (by omega)
        obtain ⟨b', o', rfl, -, hc'⟩ := HY.out (by omega)
        obtain ⟨p, hpe⟩ : ∃ p, xs[k] = p := ⟨_, rfl⟩
        obtain ⟨q, hqe⟩ : ∃ q, ys[k] = q := ⟨_, rfl⟩
        have hcp := hc k hlx
        have hcq := hc' k hlt
        rw [hpe] at hcp
        rw [hqe] at hcq
        obtain ⟨hpa, hpb⟩ := hcp
        obtain ⟨hqa, hqb⟩ := hcq
        have hgd := guard_pair
        have hne := neq_pair p q
        by_cases hpq : p = q
        · have hd : decide (p = q) = true := decide_eq_true hpq
          rw [hd] at hne
          have HST := Lib.hid (sameUp_step hs hlx hlt (by rw [hpe, hqe]; exact hpq))
          clear hc hc' hpe hqe hpq hd hs
          go_wp2
          go_quiet (fail)
          go_wp2
          go_roundw
          case rel => exact ⟨k + 1, by omega, by go_num, HST.out, _, rfl⟩
          case measure => simp [intOf]; omega
        · have hd : decide (p = q) = false := decide_eq_false hpq
          rw [hd] at hne
          have HNO := Lib.hid (show decide (xs = ys) = false from decide_eq_false (by rintro rfl; exact hpq (hpe.symm.trans hqe)))
          clear hc hc' hpe hqe hpq hd hs
          go_wp2
          go_quiet (fail)
          go_wp2
          go_ret
          exact ⟨ret_bool HNO.out.symm, _, World.drewN_drewN _ _ _⟩
      · have hk' : k = ys.length := by omega
        go_wp2
        go_ret
        exact ⟨ret_bool (decide_eq_true (sameUp_all (by rw [HL.out, ← hk']; exact hs) HL.out)).symm, _, rfl⟩
  · have hne : decide (xs = ys) = false := by rw [decide_eq_false_iff_not]; rintro rfl; exact hl rfl
    have hl' : ((xs.length : Int) == ys.length) = false := by rw [beq_eq_false_iff_ne]; omega
    rw [hne]
    clear hx hy h3 g3 h4 g4 hne
    go_enter Try.func32, Try.ntmps32
    go_wp2
    go_ret
    exact ⟨rfl, 0, rfl⟩

theorem neq_branch (p q : Br) (w : World) : (binOp .neq 40 (.agg #[.int .u64 p.k, .int .i64 p.f, .int .i64 p.t]) (.agg #[.int .u64 q.k, .int .i64 q.f, .int .i64 q.t])).run Try.prog w = .ok (.bool (!decide (p = q))) w := by
  have uuint64 := Try.underlying38
  have uint := Try.underlying3
  have hS : Try.prog.underlying 40 = some (.struct (Try.prog.fieldsOf 40)) := by kernel_rfl
  have hp : Try.prog.stoodInHeld 40 = false := by kernel_rfl
  rw [run_neq_struct, show (10000 : Nat) = 9999 + 1 from rfl, run_equalIn_agg w 9999 40 _ _ hS hp]
  simp only [Program.fieldsOf, Try.underlying40]
  go_simp
  obtain ⟨pk, pf, pt⟩ := p
  obtain ⟨qk, qf, qt⟩ := q
  by_cases hk : pk = qk <;> by_cases hf : pf = qf <;> by_cases ht : pt = qt <;> simp [hk, hf, ht]
theorem guard_branch (x y : Operand) (xs ys : Array Value) (w : World) : (eqGuard .neq 40 x y (.agg xs) (.agg ys)).run Try.prog w = .ok () w := run_eqGuard_agg w .neq 40 x y xs ys (by kernel_rfl)

set_option maxHeartbeats 800000 in
/-- slices.Equal at branchs: are the elements the same? It only reads. -/
theorem equalB_any (u v : Value) (xs ys : List Br) (w : World) (hx : SlB w u xs) (hy : SlB w v ys) :
    Calls Try.prog 78 #[u, v] w fun e w' => e = .returned (.bool (decide (xs = ys))) ∧ ∃ n, w' = w.drewN n := by
  obtain ⟨a, c, rfl, h1, h2, h3, h4⟩ := hx.open
  obtain ⟨a', c', rfl, g1, g2, g3, g4⟩ := hy.open
  by_cases hl : xs.length = ys.length
  · have hm : ys.length ≤ 9223372036854775807 := by omega
    have HX := Lib.hid h4
    have HY := Lib.hid g4
    rw [hl]
    have HL := Lib.hid hl
    clear h1 g1 hx hy h3 g3 h4 g4 hl
    go_enter Try.func78, Try.ntmps78
    go_wp2
    go_loopw [13] (fun i wr => ∃ k : Nat, k ≤ ys.length ∧ i = .int .i64 k ∧ SameUp k xs ys ∧ ∃ n, wr = w.drewN n) (fun i _ => ys.length - (intOf i).toNat)
    case atStart => exact ⟨0, Nat.zero_le _, rfl, sameUp_zero _ _, 0, rfl⟩
    case round =>
      obtain ⟨k, hk, rfl, hs, n, rfl⟩ := hrel
      by_cases hlt : k < ys.length
      · have hlx : k < xs.length := by have := HL.out; omega
        obtain ⟨b, o, rfl, -, hc⟩ := HX.out (by omega)
        obtain ⟨b', o', rfl, -, hc'⟩ := HY.out (by omega)
        obtain ⟨p, hpe⟩ : ∃ p, xs[k] = p := ⟨_, rfl⟩
        obtain ⟨q, hqe⟩ : ∃ q, ys[k] = q := ⟨_, rfl⟩
        have hcp := hc k hlx
        have hcq := hc' k hlt
        rw [hpe] at hcp
        rw [hqe] at hcq
        obtain ⟨hpk, hpf, hpt⟩ := hcp
        obtain ⟨hqk, hqf, hqt⟩ := hcq
        have hgd := guard_branch
        have hne := neq_branch p q
        by_cases hpq : p = q
        · have hd : decide (p = q) = true := decide_eq_true hpq
          rw [hd] at hne
          have HST := Lib.hid (sameUp_step hs hlx hlt (by rw [hpe, hqe]; exact hpq))
          clear hc hc' hpe hqe hpq hd hs
          go_wp2
          go_quiet (fail)
          go_wp2
          go_roundw
          case rel => exact ⟨k + 1, by omega, by go_num, HST.out, _, rfl⟩
          case measure => simp [intOf]; omega
        · have hd : decide (p = q) = false := decide_eq_false hpq
          rw [hd] at hne
          have HNO := Lib.hid (show decide (xs = ys) = false from decide_eq_false (by rintro rfl; exact hpq (hpe.symm.trans hqe)))
          clear hc hc' hpe hqe hpq hd hs
          go_wp2
          go_quiet (fail)
          go_wp2
          go_ret
          exact ⟨ret_bool HNO.out.symm, _, World.drewN_drewN _ _ _⟩
      · have hk' : k = ys.length := by omega
        go_wp2
        go_ret
        exact ⟨ret_bool (decide_eq_true (sameUp_all (by rw [HL.out, ← hk']; exact hs) HL.out)).symm, _, rfl⟩
  · have hne : decide (xs = ys) = false := by rw [decide_eq_false_iff_not]; rintro rfl; exact hl rfl
    have hl' : ((xs.length : Int) == ys.length) = false := by rw [beq_eq_false_iff_ne]; omega
    rw [hne]
    clear hx hy h3 g3 h4 g4 hne
    go_enter Try.func78, Try.ntmps78
    go_wp2
    go_ret
    exact ⟨rfl, 0, rfl⟩
end Go.Proofs.Ytdfnfdgkhflonaa
