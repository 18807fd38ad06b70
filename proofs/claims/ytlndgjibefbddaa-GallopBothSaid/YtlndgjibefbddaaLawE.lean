/-
  The law GallopBoth, walked.
-/
import Derived.Test.YtlndgjibefbddaaRows
import Derived.WalkKit
import Derived.WalkSpells
import Derived.WalkLawsBesides
import Derived.Outline
import Derived.Test.YtlndgjibefbddaaPlain
import Derived.Test.YtlndgjibefbddaaBase
import Derived.Test.YtlndgjibefbddaaLib
import Derived.Test.YtlndgjibefbddaaGal
import Derived.Test.YtlndgjibefbddaaGal2
import Derived.Test.YtlndgjibefbddaaRef04
import Derived.Test.YtlndgjibefbddaaMeet
import Derived.Test.YtlndgjibefbddaaWakes
import Derived.Test.YtlndgjibefbddaaSpan
import Derived.Test.YtlndgjibefbddaaLawB
namespace Go.Proofs.Ytlndgjibefbddaa
open Go.RowKit
set_option linter.unusedVariables false

theorem meet_self (A : List Int) : meetL A A = A := by
  unfold meetL
  rw [List.filter_eq_self]
  intro x hx
  simpa using hx
theorem bothL_comm (A B : List Int) : (if risesB A && risesB B then meetL A B else []) = (if risesB B && risesB A then meetL B A else []) := by
  cases hA : risesB A <;> cases hB : risesB B <;> simp
  exact meet_comm hA hB
theorem bothL_rises (A B : List Int) : risesB (if risesB A && risesB B then meetL A B else []) = true := by
  cases hA : risesB A <;> cases hB : risesB B <;> simp
  · decide
  · decide
  · decide
  · exact meet_rises hA
theorem bothL_wf {A B : List Int} (hA : ∀ x ∈ A, (Lit.int .u64 x).wf = true) : ∀ x ∈ (if risesB A && risesB B then meetL A B else []), (Lit.int .u64 x).wf = true := by
  intro x hx
  split at hx
  · exact hA x (meet_mem.1 hx).1
  · cases hx

set_option maxRecDepth 100000 in
set_option maxHeartbeats 4000000 in
theorem both_walk (u v : Value) (xs ys : List Int) (w : World) (hx : SlI .u64 w u xs) (hy : SlI .u64 w v ys) :
    Calls Try.prog 8 #[u, v] w fun e w' => e = .returned (.bool true) ∧ Below w.heap.size w w' := by
  obtain ⟨a, c, rfl, h1, h2, h3, h4⟩ := hx.open
  obtain ⟨a', c', rfl, g1, g2, g3, g4⟩ := hy.open
  clear h1 h2 h3 h4 g1 g2 g3 g4
  go_enter Try.func8, Try.ntmps8
  go_wp2_with fail
  refine (wakes_any w).mono ?_
  rintro e w1 ⟨rfl, hb1⟩
  go_wp2_with fail
  refine (few_any _ xs w1 (hx.later hb1)).mono ?_
  rintro e w2 ⟨v2, rfl, hown, hb2⟩
  obtain ⟨A, hA, hA200, HA, al, n, cl, rfl, hn1, hn2⟩ := few_read hx.2 hown
  have hb2 := later_trans hb1 hb2
  clear hb1 hown
  go_wp2_with fail
  refine (few_any _ ys w2 (hy.later hb2)).mono ?_
  rintro e w3 ⟨v3, rfl, hown, hb3⟩
  obtain ⟨B, hB, hB200, HB, bl, m, dl, rfl, hm1, hm2⟩ := few_read hy.2 hown
  have hA := hA.later hb3
  have hb3 := later_trans hb2 hb3
  clear hb2 hown
  go_wp2_with fail
  refine (meet_any _ _ A B w3 hA hB (by omega) (by omega)).mono ?_
  rintro e w4 ⟨v4, all, rfl, hown, _, hb4⟩
  obtain ⟨M, hM⟩ : ∃ M, (if risesB A && risesB B then meetL A B else []) = M := ⟨_, rfl⟩
  have hMw : ∀ x ∈ M, (Lit.int .u64 x).wf = true := by rw [← hM]; exact bothL_wf hA.2
  rw [hM] at hown
  obtain ⟨ao, mo, co, rfl, HMO⟩ := owns_shape hown
  have hl := SlI.of_owns hown hMw
  have HM := Lib.hid hM
  clear hM hown
  have hA4 := hA.later hb4
  have hB4 := hB.later hb4
  have hb04 := later_trans hb3 hb4
  go_wp2_with fail
  refine (meet_any _ _ B A w4 hB4 hA4 (by omega) (by omega)).mono ?_
  rintro e w5 ⟨v5, all5, rfl, hown, _, hb5⟩
  rw [← bothL_comm, HM.out] at hown
  obtain ⟨ao5, mo5, co5, rfl, HMO5⟩ := owns_shape hown
  have hl5 := SlI.of_owns hown hMw
  clear hown
  have hl := hl.later hb5
  have hA5 := hA4.later hb5
  have hB5 := hB4.later hb5
  have hb05 := later_trans hb04 hb5
  go_wp2_with fail
  refine (equal_any _ _ M M w5 hl hl5).mono ?_
  rintro e w6 ⟨rfl, n6, hw6⟩
  have hb6 : Below w5.heap.size w5 w6 := by rw [hw6]; exact later_drewN _ _
  clear hw6
  have hl := hl.later hb6
  have hA6 := hA5.later hb6
  have hB6 := hB5.later hb6
  have hb06 := later_trans hb05 hb6
  rw [show decide (M = M) = true from by simp]
  go_wp2_with fail
  refine (rising_any _ M w6 hl).mono ?_
  rintro e w7 ⟨he, n7, hw7⟩
  rw [show risesB M = true by rw [← HM.out]; exact bothL_rises A B] at he
  subst he
  have hb7 : Below w6.heap.size w6 w7 := by rw [hw7]; exact later_drewN _ _
  clear hw7
  have hl := hl.later hb7
  have hA7 := hA6.later hb7
  have hB7 := hB6.later hb7
  have hb07 := later_trans hb06 hb7
  obtain ⟨r, hr⟩ : ∃ r, risesB A = r := ⟨_, rfl⟩
  obtain ⟨r', hr'⟩ : ∃ r', risesB B = r' := ⟨_, rfl⟩
  have HR := Lib.hid hr
  have HR' := Lib.hid hr'
  clear hr hr'
  go_wp2_with fail
  refine (rising_any _ A w7 hA7).mono ?_
  rintro e w8 ⟨he, n8, hw8⟩
  rw [HR.out] at he
  subst he
  have hb8 : Below w7.heap.size w7 w8 := by rw [hw8]; exact later_drewN _ _
  clear hw8
  have hl := hl.later hb8
  have hA8 := hA7.later hb8
  have hB8 := hB7.later hb8
  have hb08 := later_trans hb07 hb8
  cases r with
  | false =>
    have hM0 : M = [] := by rw [← HM.out, HR.out]; simp
    obtain rfl : mo = 0 := by rw [HMO.out, hM0]; rfl
    clear hM0
    go_wp2_with fail
    go_ret
    exact ⟨rfl, hb08⟩
  | true =>
    go_wp2_with fail
    refine (rising_any _ B w8 hB8).mono ?_
    rintro e w9 ⟨he, n9, hw9⟩
    rw [HR'.out] at he
    subst he
    have hb9 : Below w8.heap.size w8 w9 := by rw [hw9]; exact later_drewN _ _
    clear hw9
    have hl := hl.later hb9
    have hA9 := hA8.later hb9
    have hB9 := hB8.later hb9
    have hb09 := later_trans hb08 hb9
    cases r' with
    | false =>
      have hM0 : M = [] := by rw [← HM.out, HR'.out]; simp
      obtain rfl : mo = 0 := by rw [HMO.out, hM0]; rfl
      clear hM0
      go_wp2_with fail
      go_ret
      exact ⟨rfl, hb09⟩
    | true =>
      have hMM : M = meetL A B := by rw [← HM.out, HR.out, HR'.out]; simp
      have HMM := Lib.hid hMM
      have hmo1 : mo ≤ M.length := by have := HMO.out; omega
      have hmo2 : M.length ≤ mo := by have := HMO.out; omega
      have hM200 : M.length ≤ 200 := by rw [hMM]; have := meet_le A B; omega
      clear hMM hA8 hB8 hA7 hB7 hA6 hB6 hA5 hB5 hl5 hA4 hB4 HMO5
      go_wp2_with fail
      go_loopw [57] (fun i wr => ∃ k : Nat, k ≤ n ∧ i = .int .i64 k ∧ Below w9.heap.size w9 wr) (fun i _ => n - (intOf i).toNat)
      case atStart => exact ⟨0, Nat.zero_le _, rfl, later_refl w9⟩
      case round =>
        obtain ⟨k, hkn, rfl, hbr⟩ := hrel
        have hAr := hA9.later hbr
        have hBr := hB9.later hbr
        have hlr := hl.later hbr
        by_cases hlt : k < n
        · have hkL : k < A.length := by omega
          obtain ⟨al', c9, e9, _, _, _, hc9⟩ := hAr.open
          obtain ⟨b, o, e8, _, hc⟩ := hc9 (by omega)
          have hck := hc k hkL
          obtain ⟨rfl, -, -⟩ : al = al' ∧ n = A.length ∧ cl = c9 := by injection e9 with a b c; exact ⟨a, b, c⟩
          subst e8
          clear hc hc9 e9
          obtain ⟨ans, hans⟩ : ∃ ans, decide (A[k] ∈ B) = ans := ⟨_, rfl⟩
          have hans2 : decide (A[k] ∈ M) = ans := by rw [← hans, HMM.out, decide_eq_decide, meet_mem]; exact ⟨fun h => h.2, fun h => ⟨List.getElem_mem hkL, h⟩⟩
          have HAN := Lib.hid hans
          have HAN2 := Lib.hid hans2
          have haa : (ans != ans) = false := by simp
          have HC := Lib.hid (contains_any _ M A[k] wr hlr)
          have HH := Lib.hid (has_any _ B A[k] wr hBr (by omega))
          clear hans hans2
          go_wp2_with fail
          refine HC.out.mono ?_
          rintro e y1 ⟨he, rfl⟩
          rw [HAN2.out] at he
          subst he
          go_wp2_with fail
          refine HH.out.mono ?_
          rintro e y2 ⟨he, hy2⟩
          rw [hasOf_mem HR'.out, HAN.out] at he
          subst he
          go_wp2_with fail
          go_roundw
          case rel => exact ⟨k + 1, by omega, by go_num, later_trans hbr hy2⟩
          case measure => simp [intOf]; omega
        · obtain ⟨wq, rfl⟩ : ∃ wq : World, wq = wr := ⟨_, rfl⟩
          go_wp2_with fail
          go_loopw [71] (fun i wr => ∃ k : Nat, k ≤ mo ∧ i = .int .i64 k ∧ Below w9.heap.size w9 wr) (fun i _ => mo - (intOf i).toNat)
          case atStart => exact ⟨0, Nat.zero_le _, rfl, hbr⟩
          case round =>
            obtain ⟨j, hjm, rfl, hbj⟩ := hrel
            have hAj := hA9.later hbj
            have hBj := hB9.later hbj
            have hlj := hl.later hbj
            by_cases hjlt : j < mo
            · have hjM : j < M.length := by omega
              obtain ⟨ao', c9, e9, _, _, _, hc9⟩ := hlj.open
              obtain ⟨b, o, e8, _, hc⟩ := hc9 (by omega)
              have hcj := hc j hjM
              obtain ⟨rfl, -, -⟩ : ao = ao' ∧ mo = M.length ∧ co = c9 := by injection e9 with a b c; exact ⟨a, b, c⟩
              subst e8
              clear hc hc9 e9
              have hmm : M[j] ∈ A ∧ M[j] ∈ B := meet_mem.1 (by rw [← HMM.out]; exact List.getElem_mem hjM)
              have HT1 := Lib.hid (show hasOf A M[j] = true by rw [hasOf_mem HR.out]; simpa using hmm.1)
              have HT2 := Lib.hid (show hasOf B M[j] = true by rw [hasOf_mem HR'.out]; simpa using hmm.2)
              have HH1 := Lib.hid (has_any _ A M[j] wr hAj (by omega))
              clear hmm
              go_wp2_with fail
              refine HH1.out.mono ?_
              rintro e y1 ⟨he, hy1⟩
              rw [HT1.out] at he
              subst he
              have HH2 := Lib.hid (has_any _ B M[j] y1 (hBj.later hy1) (by omega))
              go_wp2_with fail
              refine HH2.out.mono ?_
              rintro e y2 ⟨he, hy2⟩
              rw [HT2.out] at he
              subst he
              go_wp2_with fail
              go_roundw
              case rel => exact ⟨j + 1, by omega, by go_num, later_trans hbj (later_trans hy1 hy2)⟩
              case measure => simp [intOf]; omega
            · go_wp2_with fail
              refine (meet_any _ _ A A wr hAj hAj (by omega) (by omega)).mono ?_
              rintro e y1 ⟨v7, all7, rfl, hown7, _, hy1⟩
              rw [HR.out] at hown7
              simp only [Bool.and_self, if_true, meet_self] at hown7
              obtain ⟨ao7, mo7, co7, rfl, _⟩ := owns_shape hown7
              have hl7 := SlI.of_owns hown7 hA.2
              clear hown7
              go_wp2_with fail
              refine (equal_any _ _ A A y1 hl7 (hAj.later hy1)).mono ?_
              rintro e y2 ⟨rfl, n2, hy2⟩
              have hy2b : Below y1.heap.size y1 y2 := by rw [hy2]; exact later_drewN _ _
              clear hy2
              rw [show decide (A = A) = true from by simp]
              go_wp2_with fail
              go_ret
              exact ⟨rfl, later_trans hb09 (later_trans hbj (later_trans hy1 hy2b))⟩
end Go.Proofs.Ytlndgjibefbddaa
