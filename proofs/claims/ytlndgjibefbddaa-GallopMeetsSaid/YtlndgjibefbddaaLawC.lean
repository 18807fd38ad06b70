/-
  The law GallopMeets, walked.
-/
import Derived.Test.YtlndgjibefbddaaRows
import Derived.WalkKit
import Derived.WalkSpells
import Derived.WalkLawsBesides
import Derived.Outline
import Derived.Test.YtlndgjibefbddaaPlain
import Derived.Test.YtlndgjibefbddaaBase
import Derived.Test.YtlndgjibefbddaaLib
import Derived.Test.YtlndgjibefbddaaGal
import Derived.Test.YtlndgjibefbddaaGal2
import Derived.Test.YtlndgjibefbddaaRef04
import Derived.Test.YtlndgjibefbddaaMeet
import Derived.Test.YtlndgjibefbddaaWakes
import Derived.Test.YtlndgjibefbddaaSpan
import Derived.Test.YtlndgjibefbddaaLawB
import Derived.IntWalk
namespace Go.Proofs.Ytlndgjibefbddaa
open Go.RowKit
set_option linter.unusedVariables false

/-- What both rows have, as the law asks it. -/
def bothL (A B : List Int) : List Int := if risesB A && risesB B then meetL A B else []

theorem most_facts {all n m lA lB : Nat} (h : all ≤ min lA lB * (8 + 8 * lg (1 + max (lA : Int) lB))) (h1 : n ≤ lA) (h2 : lA ≤ n) (h3 : m ≤ lB) (h4 : lB ≤ m) (hn : n ≤ 200) (hm : m ≤ 200) :
    ∃ mn mx g Q : Nat, (if m < n then (m : Int) else (n : Int)) = mn ∧ (if n < m then (m : Int) else (n : Int)) = mx ∧ lg (1 + (mx : Int)) = g ∧ (mx ≤ 200 ∧ mn ≤ 200 ∧ g ≤ 62) ∧ wrap64 (8 * (mn : Int) * (1 + (g : Int))) = (Q : Int) ∧ Q ≤ 100800 ∧ (all : Int) ≤ 8 + (Q : Int) := by
  obtain rfl : n = lA := by omega
  obtain rfl : m = lB := by omega
  have e3 : (((max n m : Nat)) : Int) = max (n : Int) m := by omega
  have hmx : max n m ≤ 200 := by omega
  have hmn : min n m ≤ 200 := by omega
  have hg := lg_le (1 + ((max n m : Nat) : Int)) (by omega)
  rw [← e3] at h
  refine ⟨min n m, max n m, lg (1 + ((max n m : Nat) : Int)), 8 * min n m * (1 + lg (1 + ((max n m : Nat) : Int))), by split <;> omega, by split <;> omega, rfl, ⟨hmx, hmn, hg⟩, ?_, ?_, ?_⟩
  all_goals generalize lg (1 + ((max n m : Nat) : Int)) = g at *
  all_goals generalize min n m = a at *
  all_goals clear e3 hmx h1 h2 h3 h4 hn hm
  · have hb : 8 * a * (1 + g) ≤ 1600 * 63 := Nat.mul_le_mul (by omega) (by omega)
    have e : 8 * (a : Int) * (1 + (g : Int)) = ((8 * a * (1 + g) : Nat) : Int) := by simp
    rw [e]
    generalize 8 * a * (1 + g) = q at *
    exact IntWalk.wrap64_in _ (by omega)
  · have hb : 8 * a * (1 + g) ≤ 1600 * 63 := Nat.mul_le_mul (by omega) (by omega)
    omega
  · have e : a * (8 + 8 * g) = 8 * a * (1 + g) := by rw [show 8 + 8 * g = 8 * (1 + g) from by omega, ← Nat.mul_assoc, Nat.mul_comm a 8]
    rw [e] at h
    generalize 8 * a * (1 + g) = q at *
    omega
/-- What the law's last loop keeps: l is still the call's own, and nothing that lay when gallop.Meet was called has turned. -/
def IncI (w : World) (v : Value) (n : Nat) (wr : World) : Prop :=
  (∃ M' : List Int, M'.length = n ∧ wr.ownsRow w.heap.size 34 1 v n (M'.map (Value.int .u64))) ∧ Below w.heap.size w wr
theorem owns_read {wr : World} {base m n : Nat} {ao : Option Addr} {c : Nat} {M' : List Int} {j : Nat} (h : wr.ownsRow base 34 1 (.slice ao m c) n (M'.map (Value.int .u64))) (hn : M'.length = n) (hj : j < M'.length) :
    ∃ g, ao = some ⟨g, 0, none⟩ ∧ wr.cell? ⟨g, j, none⟩ = some (.int .u64 M'[j]) ∧ wr.frozen? ⟨g, j, none⟩ = false ∧ base ≤ g := by
  rcases h.2 with ⟨h', h0⟩ | ⟨g, cap, cur, hv, hg, hh, _⟩
  · omega
  · cases hv
    refine ⟨g, rfl, ?_, h.frozenAt j, hg⟩
    rw [h.cellAt j (by omega)]
    simp [hj]
theorem inc_step {w wr : World} {g m c j n : Nat} {M' : List Int} {u : Int} (h : wr.ownsRow w.heap.size 34 1 (.slice (some ⟨g, 0, none⟩) m c) n (M'.map (Value.int .u64))) (hb : Below w.heap.size w wr) (hn : M'.length = n) (hm : m = n) (hg : w.heap.size ≤ g) :
    IncI w (.slice (some ⟨g, 0, none⟩) m c) n (wr.setCell ⟨g, j, none⟩ (.int .u64 u)) := by
  subst hm
  refine ⟨⟨M'.set j u, by simpa using hn, ?_⟩, hb.setCell (p := ⟨g, j, none⟩) hg _⟩
  have := (h.stored j (.int .u64 u)).1
  rw [List.map_set]
  exact this

set_option maxRecDepth 100000 in
set_option maxHeartbeats 4000000 in
theorem meets_walk (u v t : Value) (xs ys ks : List Int) (w : World) (hx : SlI .u64 w u xs) (hy : SlI .u64 w v ys) (hk : SlI .u64 w t ks) :
    Calls Try.prog 5 #[u, v, t] w fun e w' => e = .returned (.bool true) ∧ Below w.heap.size w w' := by
  obtain ⟨a, c, rfl, h1, h2, h3, h4⟩ := hx.open
  obtain ⟨a', c', rfl, g1, g2, g3, g4⟩ := hy.open
  obtain ⟨a'', c'', rfl, f1, f2, f3, f4⟩ := hk.open
  have hmk : ks.length ≤ 9223372036854775807 := by omega
  have HK := Lib.hid f4
  clear h1 h2 h3 h4 g1 g2 g3 g4 f1 f2 f3 f4
  go_enter Try.func5, Try.ntmps5
  go_wp2_with fail
  refine (wakes_any w).mono ?_
  rintro e w1 ⟨rfl, hb1⟩
  go_wp2_with fail
  refine (few_any _ xs w1 (hx.later hb1)).mono ?_
  rintro e w2 ⟨v2, rfl, hown, hb2⟩
  obtain ⟨A, hA, hA200, HA, al, n, cl, rfl, hn1, hn2⟩ := few_read hx.2 hown
  have hb2 := later_trans hb1 hb2
  clear hb1 hown
  go_wp2_with fail
  refine (few_any _ ys w2 (hy.later hb2)).mono ?_
  rintro e w3 ⟨v3, rfl, hown, hb3⟩
  obtain ⟨B, hB, hB200, HB, bl, m, dl, rfl, hm1, hm2⟩ := few_read hy.2 hown
  have hA := hA.later hb3
  have hb3 := later_trans hb2 hb3
  clear hb2 hown
  obtain ⟨r, hr⟩ : ∃ r, risesB A = r := ⟨_, rfl⟩
  obtain ⟨r', hr'⟩ : ∃ r', risesB B = r' := ⟨_, rfl⟩
  have HR := Lib.hid hr
  have HR' := Lib.hid hr'
  clear hr hr'
  go_wp2_with fail
  refine (refrising_any _ A w3 hA).mono ?_
  rintro e w3' ⟨he, rfl⟩
  rw [HR.out] at he
  subst he
  -- the ways meet again: what the law asks of l and of looks has been answered
  cases r with
  | false =>
    go_wp2_with fail
    refine (meet_any _ _ A B w3 hA hB (by omega) (by omega)).mono ?_
    rintro e w4 ⟨v4, all, rfl, hown, hall, hb4⟩
    simp only [HR.out, Bool.false_and, Bool.false_eq_true, if_false] at hown hall
    obtain ⟨ao, mo, co, rfl, HMO⟩ := owns_shape hown
    obtain rfl : all = 0 := by omega
    have hl := SlI.of_owns (xs := []) hown (by simp)
    go_wp2_with fail
    refine (equal_any _ _ [] [] w4 hl (SlI.nil _ _)).mono ?_
    rintro e w6 ⟨rfl, n6, hw6⟩
    have hb6 : Below w4.heap.size w4 w6 := by rw [hw6]; exact later_drewN _ _
    clear hw6
    obtain ⟨M, hM0⟩ : ∃ M : List Int, M = [] := ⟨_, rfl⟩
    rw [← hM0] at hown HMO
    have hM200 : M.length ≤ 200 := by rw [hM0]; simp
    clear hM0 hl
    rw [show decide (([] : List Int) = []) = true from by decide]
    go_wp2_with fail
    have hb36 : Below w3.heap.size w3 w6 := later_trans hb4 hb6
    have hA6 := hA.later hb36
    have hb06 := later_trans hb3 hb36
    have hown6 := owns_later hown hb6
    have hA3 := hA
    have hB3 := hB
    go_loopw [77] (fun i wr => ∃ k : Nat, k ≤ ks.length ∧ k ≤ 8 ∧ i = .int .i64 k ∧ Below w6.heap.size w6 wr) (fun i _ => ks.length - (intOf i).toNat)
    case atStart => exact ⟨0, Nat.zero_le _, Nat.zero_le _, rfl, later_refl w6⟩
    case round =>
      obtain ⟨k, hk2, hk8, rfl, hbr⟩ := hrel
      have hbr0 := later_trans hb06 hbr
      have hAr := hA6.later hbr
      by_cases hlt : k < ks.length ∧ k ≠ 8
      · obtain ⟨hlt, h8⟩ := hlt
        obtain ⟨b2, o2, rfl, hbw2, hc2⟩ := HK.out (by omega)
        have hck := ((bcell hbr0).1 b2 (o2 + k) hbw2).trans (hc2 k hlt)
        have h8' : ((k : Int) == 8) = false := by rw [beq_eq_false_iff_ne]; omega
        have hk9 : k < 8 := by omega
        obtain ⟨key, hkey⟩ : ∃ key, ks[k] = key := ⟨_, rfl⟩
        rw [hkey] at hck
        obtain ⟨high, hhigh⟩ : ∃ high, IntKind.u64.wrap (key + (k : Int) * 7) = high := ⟨_, rfl⟩
        clear hc2 h8 hkey
        go_wp2_with fail
        clear hhigh
        have hsp := spanOf_no (A := A) (low := key) (high := high) (.inl HR.out)
        have HSP := Lib.hid hsp
        have HH := Lib.hid (hasOf_no (key := key) HR.out)
        clear hsp
        refine (span_any _ A key high wr hAr (by omega)).mono ?_
        rintro e v1 ⟨he, hv1⟩
        rw [HSP.out] at he
        subst he
        have hA1 := hAr.later hv1
        have hbv1 := later_trans hbr hv1
        go_wp2_with fail
        refine (has_any _ A key v1 hA1 (by omega)).mono ?_
        rintro e v2 ⟨he, hv2⟩
        rw [HH.out] at he
        subst he
        have hbv2 := later_trans hbv1 hv2
        go_wp2_with fail
        go_roundw
        case rel => exact ⟨k + 1, by omega, by omega, by go_num, hbv2⟩
        case measure => simp [intOf]; omega
      · by_cases hm8 : k < ks.length
        · obtain rfl : k = 8 := by omega
          obtain ⟨b2, o2, rfl, hbw2, hc2⟩ := HK.out (by omega)
          have hck : wr.cell? ⟨b2, o2 + 8, none⟩ = some (.int .u64 ks[8]) := ((bcell hbr0).1 b2 (o2 + 8) hbw2).trans (hc2 8 hm8)
          clear hc2
          obtain ⟨wq, rfl⟩ : ∃ wq : World, wq = wr := ⟨_, rfl⟩
          go_wp2_with fail
          have hownq := owns_later hown6 hbr
          have hb0q := later_trans hb3 (later_trans hb36 hbr)
          have hAq := hA3
          have hBq := hB3
          have HMQ := Lib.hid (show ∃ M' : List Int, M'.length = M.length ∧ wq.ownsRow w3.heap.size 34 1 (.slice ao mo co) M.length (M'.map (Value.int .u64)) from ⟨M, rfl, hownq⟩)
          have hmo := Lib.hid HMO.out
          have hbq3 := later_trans hb36 hbr
          go_loopw [131] (fun i wr => ∃ k : Nat, k ≤ mo ∧ i = .int .i64 k ∧ IncI w3 (.slice ao mo co) M.length wr) (fun i _ => mo - (intOf i).toNat)
          case atStart => exact ⟨0, Nat.zero_le _, rfl, HMQ.out, hbq3⟩
          case round =>
            obtain ⟨j, hj, rfl, hinc⟩ := hrel
            by_cases hjlt : j < mo
            · obtain ⟨⟨M', hM'l, hownj⟩, hbj⟩ := hinc
              obtain ⟨g9, rfl, hcell9, hfr9, hblk9⟩ := owns_read hownj (by have := hmo.out; omega) (show j < M'.length by have := hmo.out; omega)
              have hmo9 : (mo : Int) ≤ 9223372036854775807 := by have := hmo.out; omega
              go_wp2_with fail
              go_roundw
              case rel => exact ⟨j + 1, by omega, by go_num, inc_step hownj hbj hM'l (by have := hmo.out; omega) hblk9⟩
              case measure => simp [intOf]; omega
            · obtain ⟨_, hbj⟩ := hinc
              have hbF := later_trans hb3 hbj
              have hAF := hAq.later hbj
              have hBF := hBq.later hbj
              clear hmo HMQ
              go_wp2_with fail
              refine (few_any _ xs wr (hx.later hbF)).mono ?_
              rintro e y1 ⟨v7, rfl, hown7, hy1⟩
              obtain ⟨L', hL', _, HL', al', n', cl', rfl, _, _⟩ := few_read hx.2 hown7
              have hA7 := hAF.later hy1
              have hB7 := hBF.later hy1
              go_wp2_with fail
              refine (equal_any _ _ A L' y1 hA7 hL').mono ?_
              rintro e y2 ⟨rfl, m5, hy2⟩
              have hb5y : Below y1.heap.size y1 y2 := by rw [hy2]; exact later_drewN _ _
              have HE := Lib.hid (show decide (A = L') = true by rw [decide_eq_true_eq, HA.out, HL'.out])
              rw [HE.out]
              clear hy2
              have hB8 := hB7.later hb5y
              have hbG := later_trans hbF (later_trans hy1 hb5y)
              go_wp2_with fail
              refine (few_any _ ys y2 (hy.later hbG)).mono ?_
              rintro e y3 ⟨v8, rfl, hown8, hy3⟩
              obtain ⟨L2, hL2, _, HL2, al2, n2, cl2, rfl, _, _⟩ := few_read hy.2 hown8
              have hB9 := hB8.later hy3
              go_wp2_with fail
              refine (equal_any _ _ B L2 y3 hB9 hL2).mono ?_
              rintro e y4 ⟨rfl, m6, hy4⟩
              have hb6y : Below y3.heap.size y3 y4 := by rw [hy4]; exact later_drewN _ _
              have HE2 := Lib.hid (show decide (B = L2) = true by rw [decide_eq_true_eq, HB.out, HL2.out])
              rw [HE2.out]
              clear hy4
              go_wp2_with fail
              go_ret
              exact ⟨rfl, later_trans hbG (later_trans hy3 hb6y)⟩
        · obtain ⟨wq, rfl⟩ : ∃ wq : World, wq = wr := ⟨_, rfl⟩
          go_wp2_with fail
          have hownq := owns_later hown6 hbr
          have hb0q := later_trans hb3 (later_trans hb36 hbr)
          have hAq := hA3
          have hBq := hB3
          have HMQ := Lib.hid (show ∃ M' : List Int, M'.length = M.length ∧ wq.ownsRow w3.heap.size 34 1 (.slice ao mo co) M.length (M'.map (Value.int .u64)) from ⟨M, rfl, hownq⟩)
          have hmo := Lib.hid HMO.out
          have hbq3 := later_trans hb36 hbr
          go_loopw [131] (fun i wr => ∃ k : Nat, k ≤ mo ∧ i = .int .i64 k ∧ IncI w3 (.slice ao mo co) M.length wr) (fun i _ => mo - (intOf i).toNat)
          case atStart => exact ⟨0, Nat.zero_le _, rfl, HMQ.out, hbq3⟩
          case round =>
            obtain ⟨j, hj, rfl, hinc⟩ := hrel
            by_cases hjlt : j < mo
            · obtain ⟨⟨M', hM'l, hownj⟩, hbj⟩ := hinc
              obtain ⟨g9, rfl, hcell9, hfr9, hblk9⟩ := owns_read hownj (by have := hmo.out; omega) (show j < M'.length by have := hmo.out; omega)
              have hmo9 : (mo : Int) ≤ 9223372036854775807 := by have := hmo.out; omega
              go_wp2_with fail
              go_roundw
              case rel => exact ⟨j + 1, by omega, by go_num, inc_step hownj hbj hM'l (by have := hmo.out; omega) hblk9⟩
              case measure => simp [intOf]; omega
            · obtain ⟨_, hbj⟩ := hinc
              have hbF := later_trans hb3 hbj
              have hAF := hAq.later hbj
              have hBF := hBq.later hbj
              clear hmo HMQ
              go_wp2_with fail
              refine (few_any _ xs wr (hx.later hbF)).mono ?_
              rintro e y1 ⟨v7, rfl, hown7, hy1⟩
              obtain ⟨L', hL', _, HL', al', n', cl', rfl, _, _⟩ := few_read hx.2 hown7
              have hA7 := hAF.later hy1
              have hB7 := hBF.later hy1
              go_wp2_with fail
              refine (equal_any _ _ A L' y1 hA7 hL').mono ?_
              rintro e y2 ⟨rfl, m5, hy2⟩
              have hb5y : Below y1.heap.size y1 y2 := by rw [hy2]; exact later_drewN _ _
              have HE := Lib.hid (show decide (A = L') = true by rw [decide_eq_true_eq, HA.out, HL'.out])
              rw [HE.out]
              clear hy2
              have hB8 := hB7.later hb5y
              have hbG := later_trans hbF (later_trans hy1 hb5y)
              go_wp2_with fail
              refine (few_any _ ys y2 (hy.later hbG)).mono ?_
              rintro e y3 ⟨v8, rfl, hown8, hy3⟩
              obtain ⟨L2, hL2, _, HL2, al2, n2, cl2, rfl, _, _⟩ := few_read hy.2 hown8
              have hB9 := hB8.later hy3
              go_wp2_with fail
              refine (equal_any _ _ B L2 y3 hB9 hL2).mono ?_
              rintro e y4 ⟨rfl, m6, hy4⟩
              have hb6y : Below y3.heap.size y3 y4 := by rw [hy4]; exact later_drewN _ _
              have HE2 := Lib.hid (show decide (B = L2) = true by rw [decide_eq_true_eq, HB.out, HL2.out])
              rw [HE2.out]
              clear hy4
              go_wp2_with fail
              go_ret
              exact ⟨rfl, later_trans hbG (later_trans hy3 hb6y)⟩
  | true =>
    go_wp2_with fail
    refine (refrising_any _ B w3 hB).mono ?_
    rintro e w3' ⟨he, rfl⟩
    rw [HR'.out] at he
    subst he
    cases r' with
    | false =>
      go_wp2_with fail
      refine (meet_any _ _ A B w3 hA hB (by omega) (by omega)).mono ?_
      rintro e w4 ⟨v4, all, rfl, hown, hall, hb4⟩
      simp only [HR'.out, Bool.and_false, Bool.false_eq_true, if_false] at hown hall
      obtain ⟨ao, mo, co, rfl, HMO⟩ := owns_shape hown
      obtain rfl : all = 0 := by omega
      have hl := SlI.of_owns (xs := []) hown (by simp)
      go_wp2_with fail
      refine (equal_any _ _ [] [] w4 hl (SlI.nil _ _)).mono ?_
      rintro e w6 ⟨rfl, n6, hw6⟩
      have hb6 : Below w4.heap.size w4 w6 := by rw [hw6]; exact later_drewN _ _
      clear hw6
      obtain ⟨M, hM0⟩ : ∃ M : List Int, M = [] := ⟨_, rfl⟩
      rw [← hM0] at hown HMO
      have hM200 : M.length ≤ 200 := by rw [hM0]; simp
      clear hM0 hl
      rw [show decide (([] : List Int) = []) = true from by decide]
      go_wp2_with fail
      have hb36 : Below w3.heap.size w3 w6 := later_trans hb4 hb6
      have hA6 := hA.later hb36
      have hb06 := later_trans hb3 hb36
      have hown6 := owns_later hown hb6
      have hA3 := hA
      have hB3 := hB
      go_loopw [77] (fun i wr => ∃ k : Nat, k ≤ ks.length ∧ k ≤ 8 ∧ i = .int .i64 k ∧ Below w6.heap.size w6 wr) (fun i _ => ks.length - (intOf i).toNat)
      case atStart => exact ⟨0, Nat.zero_le _, Nat.zero_le _, rfl, later_refl w6⟩
      case round =>
        obtain ⟨k, hk2, hk8, rfl, hbr⟩ := hrel
        have hbr0 := later_trans hb06 hbr
        have hAr := hA6.later hbr
        by_cases hlt : k < ks.length ∧ k ≠ 8
        · obtain ⟨hlt, h8⟩ := hlt
          obtain ⟨b2, o2, rfl, hbw2, hc2⟩ := HK.out (by omega)
          have hck := ((bcell hbr0).1 b2 (o2 + k) hbw2).trans (hc2 k hlt)
          have h8' : ((k : Int) == 8) = false := by rw [beq_eq_false_iff_ne]; omega
          have hk9 : k < 8 := by omega
          obtain ⟨key, hkey⟩ : ∃ key, ks[k] = key := ⟨_, rfl⟩
          rw [hkey] at hck
          obtain ⟨high, hhigh⟩ : ∃ high, IntKind.u64.wrap (key + (k : Int) * 7) = high := ⟨_, rfl⟩
          clear hc2 h8 hkey
          go_wp2_with fail
          clear hhigh
          by_cases hkh : key ≤ high
          · have hsp := spanOf_yes HR.out hkh
            obtain ⟨p, hp⟩ : ∃ p, place A 0 (geB key) = p := ⟨_, rfl⟩
            obtain ⟨q, hq⟩ : ∃ q, place A 0 (gtB high) = q := ⟨_, rfl⟩
            rw [hp, hq] at hsp
            have HSP := Lib.hid hsp
            have HP := Lib.hid hp
            have HQ := Lib.hid hq
            have HH := Lib.hid (hasOf_mem (key := key) HR.out)
            obtain ⟨ans, hans⟩ : ∃ ans, decide (key ∈ A) = ans := ⟨_, rfl⟩
            have HAN := Lib.hid hans
            clear hsp hp hq hans
            refine (span_any _ A key high wr hAr (by omega)).mono ?_
            rintro e v1 ⟨he, hv1⟩
            rw [HSP.out] at he
            subst he
            have hA1 := hAr.later hv1
            have hbv1 := later_trans hbr hv1
            go_wp2_with fail
            refine (refseek_any _ A 0 key v1 hA1 (Nat.zero_le _)).mono ?_
            rintro e v1' ⟨he, rfl⟩
            rw [HP.out] at he
            subst he
            go_wp2_with fail
            refine (refbehind_any _ A 0 high v1 hA1 (Nat.zero_le _)).mono ?_
            rintro e v1' ⟨he, rfl⟩
            rw [HQ.out] at he
            subst he
            have hpp : ((p : Int) != p) = false := by simp
            have hqq : ((q : Int) != q) = false := by simp
            go_wp2_with fail
            refine (has_any _ A key v1 hA1 (by omega)).mono ?_
            rintro e v2 ⟨he, hv2⟩
            rw [HH.out, HAN.out] at he
            subst he
            have hA2 := hA1.later hv2
            have hbv2 := later_trans hbv1 hv2
            have haa : (ans != ans) = false := by simp
            go_wp2_with fail
            refine (refhas_any _ A key v2 hA2).mono ?_
            rintro e v2' ⟨he, rfl⟩
            rw [HAN.out] at he
            subst he
            go_wp2_with fail
            go_roundw
            case rel => exact ⟨k + 1, by omega, by omega, by go_num, hbv2⟩
            case measure => simp [intOf]; omega
          · have hsp := spanOf_no (A := A) (low := key) (high := high) (.inr (by omega))
            have HSP := Lib.hid hsp
            have HH := Lib.hid (hasOf_mem (key := key) HR.out)
            obtain ⟨ans, hans⟩ : ∃ ans, decide (key ∈ A) = ans := ⟨_, rfl⟩
            have HAN := Lib.hid hans
            have hkh' : high < key := by omega
            clear hsp hans hkh
            refine (span_any _ A key high wr hAr (by omega)).mono ?_
            rintro e v1 ⟨he, hv1⟩
            rw [HSP.out] at he
            subst he
            have hA1 := hAr.later hv1
            have hbv1 := later_trans hbr hv1
            go_wp2_with fail
            refine (has_any _ A key v1 hA1 (by omega)).mono ?_
            rintro e v2 ⟨he, hv2⟩
            rw [HH.out, HAN.out] at he
            subst he
            have hA2 := hA1.later hv2
            have hbv2 := later_trans hbv1 hv2
            have haa : (ans != ans) = false := by simp
            go_wp2_with fail
            refine (refhas_any _ A key v2 hA2).mono ?_
            rintro e v2' ⟨he, rfl⟩
            rw [HAN.out] at he
            subst he
            go_wp2_with fail
            go_roundw
            case rel => exact ⟨k + 1, by omega, by omega, by go_num, hbv2⟩
            case measure => simp [intOf]; omega
        · by_cases hm8 : k < ks.length
          · obtain rfl : k = 8 := by omega
            obtain ⟨b2, o2, rfl, hbw2, hc2⟩ := HK.out (by omega)
            have hck : wr.cell? ⟨b2, o2 + 8, none⟩ = some (.int .u64 ks[8]) := ((bcell hbr0).1 b2 (o2 + 8) hbw2).trans (hc2 8 hm8)
            clear hc2
            obtain ⟨wq, rfl⟩ : ∃ wq : World, wq = wr := ⟨_, rfl⟩
            go_wp2_with fail
            have hownq := owns_later hown6 hbr
            have hb0q := later_trans hb3 (later_trans hb36 hbr)
            have hAq := hA3
            have hBq := hB3
            have HMQ := Lib.hid (show ∃ M' : List Int, M'.length = M.length ∧ wq.ownsRow w3.heap.size 34 1 (.slice ao mo co) M.length (M'.map (Value.int .u64)) from ⟨M, rfl, hownq⟩)
            have hmo := Lib.hid HMO.out
            have hbq3 := later_trans hb36 hbr
            go_loopw [131] (fun i wr => ∃ k : Nat, k ≤ mo ∧ i = .int .i64 k ∧ IncI w3 (.slice ao mo co) M.length wr) (fun i _ => mo - (intOf i).toNat)
            case atStart => exact ⟨0, Nat.zero_le _, rfl, HMQ.out, hbq3⟩
            case round =>
              obtain ⟨j, hj, rfl, hinc⟩ := hrel
              by_cases hjlt : j < mo
              · obtain ⟨⟨M', hM'l, hownj⟩, hbj⟩ := hinc
                obtain ⟨g9, rfl, hcell9, hfr9, hblk9⟩ := owns_read hownj (by have := hmo.out; omega) (show j < M'.length by have := hmo.out; omega)
                have hmo9 : (mo : Int) ≤ 9223372036854775807 := by have := hmo.out; omega
                go_wp2_with fail
                go_roundw
                case rel => exact ⟨j + 1, by omega, by go_num, inc_step hownj hbj hM'l (by have := hmo.out; omega) hblk9⟩
                case measure => simp [intOf]; omega
              · obtain ⟨_, hbj⟩ := hinc
                have hbF := later_trans hb3 hbj
                have hAF := hAq.later hbj
                have hBF := hBq.later hbj
                clear hmo HMQ
                go_wp2_with fail
                refine (few_any _ xs wr (hx.later hbF)).mono ?_
                rintro e y1 ⟨v7, rfl, hown7, hy1⟩
                obtain ⟨L', hL', _, HL', al', n', cl', rfl, _, _⟩ := few_read hx.2 hown7
                have hA7 := hAF.later hy1
                have hB7 := hBF.later hy1
                go_wp2_with fail
                refine (equal_any _ _ A L' y1 hA7 hL').mono ?_
                rintro e y2 ⟨rfl, m5, hy2⟩
                have hb5y : Below y1.heap.size y1 y2 := by rw [hy2]; exact later_drewN _ _
                have HE := Lib.hid (show decide (A = L') = true by rw [decide_eq_true_eq, HA.out, HL'.out])
                rw [HE.out]
                clear hy2
                have hB8 := hB7.later hb5y
                have hbG := later_trans hbF (later_trans hy1 hb5y)
                go_wp2_with fail
                refine (few_any _ ys y2 (hy.later hbG)).mono ?_
                rintro e y3 ⟨v8, rfl, hown8, hy3⟩
                obtain ⟨L2, hL2, _, HL2, al2, n2, cl2, rfl, _, _⟩ := few_read hy.2 hown8
                have hB9 := hB8.later hy3
                go_wp2_with fail
                refine (equal_any _ _ B L2 y3 hB9 hL2).mono ?_
                rintro e y4 ⟨rfl, m6, hy4⟩
                have hb6y : Below y3.heap.size y3 y4 := by rw [hy4]; exact later_drewN _ _
                have HE2 := Lib.hid (show decide (B = L2) = true by rw [decide_eq_true_eq, HB.out, HL2.out])
                rw [HE2.out]
                clear hy4
                go_wp2_with fail
                go_ret
                exact ⟨rfl, later_trans hbG (later_trans hy3 hb6y)⟩
          · obtain ⟨wq, rfl⟩ : ∃ wq : World, wq = wr := ⟨_, rfl⟩
            go_wp2_with fail
            have hownq := owns_later hown6 hbr
            have hb0q := later_trans hb3 (later_trans hb36 hbr)
            have hAq := hA3
            have hBq := hB3
            have HMQ := Lib.hid (show ∃ M' : List Int, M'.length = M.length ∧ wq.ownsRow w3.heap.size 34 1 (.slice ao mo co) M.length (M'.map (Value.int .u64)) from ⟨M, rfl, hownq⟩)
            have hmo := Lib.hid HMO.out
            have hbq3 := later_trans hb36 hbr
            go_loopw [131] (fun i wr => ∃ k : Nat, k ≤ mo ∧ i = .int .i64 k ∧ IncI w3 (.slice ao mo co) M.length wr) (fun i _ => mo - (intOf i).toNat)
            case atStart => exact ⟨0, Nat.zero_le _, rfl, HMQ.out, hbq3⟩
            case round =>
              obtain ⟨j, hj, rfl, hinc⟩ := hrel
              by_cases hjlt : j < mo
              · obtain ⟨⟨M', hM'l, hownj⟩, hbj⟩ := hinc
                obtain ⟨g9, rfl, hcell9, hfr9, hblk9⟩ := owns_read hownj (by have := hmo.out; omega) (show j < M'.length by have := hmo.out; omega)
                have hmo9 : (mo : Int) ≤ 9223372036854775807 := by have := hmo.out; omega
                go_wp2_with fail
                go_roundw
                case rel => exact ⟨j + 1, by omega, by go_num, inc_step hownj hbj hM'l (by have := hmo.out; omega) hblk9⟩
                case measure => simp [intOf]; omega
              · obtain ⟨_, hbj⟩ := hinc
                have hbF := later_trans hb3 hbj
                have hAF := hAq.later hbj
                have hBF := hBq.later hbj
                clear hmo HMQ
                go_wp2_with fail
                refine (few_any _ xs wr (hx.later hbF)).mono ?_
                rintro e y1 ⟨v7, rfl, hown7, hy1⟩
                obtain ⟨L', hL', _, HL', al', n', cl', rfl, _, _⟩ := few_read hx.2 hown7
                have hA7 := hAF.later hy1
                have hB7 := hBF.later hy1
                go_wp2_with fail
                refine (equal_any _ _ A L' y1 hA7 hL').mono ?_
                rintro e y2 ⟨rfl, m5, hy2⟩
                have hb5y : Below y1.heap.size y1 y2 := by rw [hy2]; exact later_drewN _ _
                have HE := Lib.hid (show decide (A = L') = true by rw [decide_eq_true_eq, HA.out, HL'.out])
                rw [HE.out]
                clear hy2
                have hB8 := hB7.later hb5y
                have hbG := later_trans hbF (later_trans hy1 hb5y)
                go_wp2_with fail
                refine (few_any _ ys y2 (hy.later hbG)).mono ?_
                rintro e y3 ⟨v8, rfl, hown8, hy3⟩
                obtain ⟨L2, hL2, _, HL2, al2, n2, cl2, rfl, _, _⟩ := few_read hy.2 hown8
                have hB9 := hB8.later hy3
                go_wp2_with fail
                refine (equal_any _ _ B L2 y3 hB9 hL2).mono ?_
                rintro e y4 ⟨rfl, m6, hy4⟩
                have hb6y : Below y3.heap.size y3 y4 := by rw [hy4]; exact later_drewN _ _
                have HE2 := Lib.hid (show decide (B = L2) = true by rw [decide_eq_true_eq, HB.out, HL2.out])
                rw [HE2.out]
                clear hy4
                go_wp2_with fail
                go_ret
                exact ⟨rfl, later_trans hbG (later_trans hy3 hb6y)⟩
    | true =>
      go_wp2_with fail
      refine (meet_any _ _ A B w3 hA hB (by omega) (by omega)).mono ?_
      rintro e w4 ⟨v4, all, rfl, hown, hall, hb4⟩
      simp only [HR.out, HR'.out, Bool.and_self, if_true] at hown hall
      obtain ⟨ao, mo, co, rfl, HMO⟩ := owns_shape hown
      obtain ⟨M, hM⟩ : ∃ M, meetL A B = M := ⟨_, rfl⟩
      rw [hM] at hown HMO
      have HM := Lib.hid hM
      have hM200 : M.length ≤ 200 := by rw [← hM]; have := meet_le A B; omega
      clear hM
      have hMw : ∀ x ∈ M, (Lit.int .u64 x).wf = true := fun x hx => hA.2 x (meet_mem.1 (by rw [HM.out]; exact hx)).1
      have hl := SlI.of_owns hown hMw
      have hA4 := hA.later hb4
      have hB4 := hB.later hb4
      go_wp2_with fail
      refine (refmeet_any _ _ A B w4 hA4 hB4 (by omega)).mono ?_
      rintro e w5 ⟨v5, rfl, hown5, hb5⟩
      rw [HM.out] at hown5
      obtain ⟨ao5, mo5, co5, rfl, HMO5⟩ := owns_shape hown5
      have hl5 := SlI.of_owns hown5 hMw
      have hl := hl.later hb5
      obtain ⟨mn, mx, g, Q, hmin0, hmax0, hg, ⟨hmx2, hmn2, hg62⟩, hQw0, hQ10, hQ20⟩ := most_facts (n := n) (m := m) hall (by omega) (by omega) (by omega) (by omega) (by omega) (by omega)
      have hmin : Value.int .i64 (if m < n then (m : Int) else (n : Int)) = .int .i64 (mn : Int) := by rw [hmin0]
      have hmax : Value.int .i64 (if n < m then (m : Int) else (n : Int)) = .int .i64 (mx : Int) := by rw [hmax0]
      have hlogc := Lib.hid (fun W => reflog_any (1 + (mx : Int)) (by omega) (by omega) W)
      have HG := Lib.hid hg
      have HQ1 := Lib.hid hQ10
      have HQ2 := Lib.hid hQ20
      have hQw := hQw0
      clear hall hg hmin0 hmax0 hQw0 hQ10 hQ20
      go_wp2_with fail
      clear hmin hmax
      have hQ1 := HQ1.out
      have hQ2 := HQ2.out
      refine (hlogc.out _).mono ?_
      rintro e w5' ⟨rfl, rfl⟩
      rw [HG.out]
      go_wp2_with fail
      refine (equal_any _ _ M M w5 hl hl5).mono ?_
      rintro e w6 ⟨rfl, n6, hw6⟩
      have hb6 : Below w5.heap.size w5 w6 := by rw [hw6]; exact later_drewN _ _
      clear hw6
      rw [show decide (M = M) = true from by simp]
      go_wp2_with fail
      have hb36 : Below w3.heap.size w3 w6 := later_trans hb4 (later_trans hb5 hb6)
      have hA6 := hA.later hb36
      have hb06 := later_trans hb3 hb36
      have hown6 := owns_later hown (later_trans hb5 hb6)
      have hA3 := hA
      have hB3 := hB
      go_loopw [77] (fun i wr => ∃ k : Nat, k ≤ ks.length ∧ k ≤ 8 ∧ i = .int .i64 k ∧ Below w6.heap.size w6 wr) (fun i _ => ks.length - (intOf i).toNat)
      case atStart => exact ⟨0, Nat.zero_le _, Nat.zero_le _, rfl, later_refl w6⟩
      case round =>
        obtain ⟨k, hk2, hk8, rfl, hbr⟩ := hrel
        have hbr0 := later_trans hb06 hbr
        have hAr := hA6.later hbr
        by_cases hlt : k < ks.length ∧ k ≠ 8
        · obtain ⟨hlt, h8⟩ := hlt
          obtain ⟨b2, o2, rfl, hbw2, hc2⟩ := HK.out (by omega)
          have hck := ((bcell hbr0).1 b2 (o2 + k) hbw2).trans (hc2 k hlt)
          have h8' : ((k : Int) == 8) = false := by rw [beq_eq_false_iff_ne]; omega
          have hk9 : k < 8 := by omega
          obtain ⟨key, hkey⟩ : ∃ key, ks[k] = key := ⟨_, rfl⟩
          rw [hkey] at hck
          obtain ⟨high, hhigh⟩ : ∃ high, IntKind.u64.wrap (key + (k : Int) * 7) = high := ⟨_, rfl⟩
          clear hc2 h8 hkey
          go_wp2_with fail
          clear hhigh
          by_cases hkh : key ≤ high
          · have hsp := spanOf_yes HR.out hkh
            obtain ⟨p, hp⟩ : ∃ p, place A 0 (geB key) = p := ⟨_, rfl⟩
            obtain ⟨q, hq⟩ : ∃ q, place A 0 (gtB high) = q := ⟨_, rfl⟩
            rw [hp, hq] at hsp
            have HSP := Lib.hid hsp
            have HP := Lib.hid hp
            have HQ := Lib.hid hq
            have HH := Lib.hid (hasOf_mem (key := key) HR.out)
            obtain ⟨ans, hans⟩ : ∃ ans, decide (key ∈ A) = ans := ⟨_, rfl⟩
            have HAN := Lib.hid hans
            clear hsp hp hq hans
            refine (span_any _ A key high wr hAr (by omega)).mono ?_
            rintro e v1 ⟨he, hv1⟩
            rw [HSP.out] at he
            subst he
            have hA1 := hAr.later hv1
            have hbv1 := later_trans hbr hv1
            go_wp2_with fail
            refine (refseek_any _ A 0 key v1 hA1 (Nat.zero_le _)).mono ?_
            rintro e v1' ⟨he, rfl⟩
            rw [HP.out] at he
            subst he
            go_wp2_with fail
            refine (refbehind_any _ A 0 high v1 hA1 (Nat.zero_le _)).mono ?_
            rintro e v1' ⟨he, rfl⟩
            rw [HQ.out] at he
            subst he
            have hpp : ((p : Int) != p) = false := by simp
            have hqq : ((q : Int) != q) = false := by simp
            go_wp2_with fail
            refine (has_any _ A key v1 hA1 (by omega)).mono ?_
            rintro e v2 ⟨he, hv2⟩
            rw [HH.out, HAN.out] at he
            subst he
            have hA2 := hA1.later hv2
            have hbv2 := later_trans hbv1 hv2
            have haa : (ans != ans) = false := by simp
            go_wp2_with fail
            refine (refhas_any _ A key v2 hA2).mono ?_
            rintro e v2' ⟨he, rfl⟩
            rw [HAN.out] at he
            subst he
            go_wp2_with fail
            go_roundw
            case rel => exact ⟨k + 1, by omega, by omega, by go_num, hbv2⟩
            case measure => simp [intOf]; omega
          · have hsp := spanOf_no (A := A) (low := key) (high := high) (.inr (by omega))
            have HSP := Lib.hid hsp
            have HH := Lib.hid (hasOf_mem (key := key) HR.out)
            obtain ⟨ans, hans⟩ : ∃ ans, decide (key ∈ A) = ans := ⟨_, rfl⟩
            have HAN := Lib.hid hans
            have hkh' : high < key := by omega
            clear hsp hans hkh
            refine (span_any _ A key high wr hAr (by omega)).mono ?_
            rintro e v1 ⟨he, hv1⟩
            rw [HSP.out] at he
            subst he
            have hA1 := hAr.later hv1
            have hbv1 := later_trans hbr hv1
            go_wp2_with fail
            refine (has_any _ A key v1 hA1 (by omega)).mono ?_
            rintro e v2 ⟨he, hv2⟩
            rw [HH.out, HAN.out] at he
            subst he
            have hA2 := hA1.later hv2
            have hbv2 := later_trans hbv1 hv2
            have haa : (ans != ans) = false := by simp
            go_wp2_with fail
            refine (refhas_any _ A key v2 hA2).mono ?_
            rintro e v2' ⟨he, rfl⟩
            rw [HAN.out] at he
            subst he
            go_wp2_with fail
            go_roundw
            case rel => exact ⟨k + 1, by omega, by omega, by go_num, hbv2⟩
            case measure => simp [intOf]; omega
        · by_cases hm8 : k < ks.length
          · obtain rfl : k = 8 := by omega
            obtain ⟨b2, o2, rfl, hbw2, hc2⟩ := HK.out (by omega)
            have hck : wr.cell? ⟨b2, o2 + 8, none⟩ = some (.int .u64 ks[8]) := ((bcell hbr0).1 b2 (o2 + 8) hbw2).trans (hc2 8 hm8)
            clear hc2
            obtain ⟨wq, rfl⟩ : ∃ wq : World, wq = wr := ⟨_, rfl⟩
            go_wp2_with fail
            have hownq := owns_later hown6 hbr
            have hb0q := later_trans hb3 (later_trans hb36 hbr)
            have hAq := hA3
            have hBq := hB3
            have HMQ := Lib.hid (show ∃ M' : List Int, M'.length = M.length ∧ wq.ownsRow w3.heap.size 34 1 (.slice ao mo co) M.length (M'.map (Value.int .u64)) from ⟨M, rfl, hownq⟩)
            have hmo := Lib.hid HMO.out
            have hbq3 := later_trans hb36 hbr
            go_loopw [131] (fun i wr => ∃ k : Nat, k ≤ mo ∧ i = .int .i64 k ∧ IncI w3 (.slice ao mo co) M.length wr) (fun i _ => mo - (intOf i).toNat)
            case atStart => exact ⟨0, Nat.zero_le _, rfl, HMQ.out, hbq3⟩
            case round =>
              obtain ⟨j, hj, rfl, hinc⟩ := hrel
              by_cases hjlt : j < mo
              · obtain ⟨⟨M', hM'l, hownj⟩, hbj⟩ := hinc
                obtain ⟨g9, rfl, hcell9, hfr9, hblk9⟩ := owns_read hownj (by have := hmo.out; omega) (show j < M'.length by have := hmo.out; omega)
                have hmo9 : (mo : Int) ≤ 9223372036854775807 := by have := hmo.out; omega
                go_wp2_with fail
                go_roundw
                case rel => exact ⟨j + 1, by omega, by go_num, inc_step hownj hbj hM'l (by have := hmo.out; omega) hblk9⟩
                case measure => simp [intOf]; omega
              · obtain ⟨_, hbj⟩ := hinc
                have hbF := later_trans hb3 hbj
                have hAF := hAq.later hbj
                have hBF := hBq.later hbj
                clear hmo HMQ
                go_wp2_with fail
                refine (few_any _ xs wr (hx.later hbF)).mono ?_
                rintro e y1 ⟨v7, rfl, hown7, hy1⟩
                obtain ⟨L', hL', _, HL', al', n', cl', rfl, _, _⟩ := few_read hx.2 hown7
                have hA7 := hAF.later hy1
                have hB7 := hBF.later hy1
                go_wp2_with fail
                refine (equal_any _ _ A L' y1 hA7 hL').mono ?_
                rintro e y2 ⟨rfl, m5, hy2⟩
                have hb5y : Below y1.heap.size y1 y2 := by rw [hy2]; exact later_drewN _ _
                have HE := Lib.hid (show decide (A = L') = true by rw [decide_eq_true_eq, HA.out, HL'.out])
                rw [HE.out]
                clear hy2
                have hB8 := hB7.later hb5y
                have hbG := later_trans hbF (later_trans hy1 hb5y)
                go_wp2_with fail
                refine (few_any _ ys y2 (hy.later hbG)).mono ?_
                rintro e y3 ⟨v8, rfl, hown8, hy3⟩
                obtain ⟨L2, hL2, _, HL2, al2, n2, cl2, rfl, _, _⟩ := few_read hy.2 hown8
                have hB9 := hB8.later hy3
                go_wp2_with fail
                refine (equal_any _ _ B L2 y3 hB9 hL2).mono ?_
                rintro e y4 ⟨rfl, m6, hy4⟩
                have hb6y : Below y3.heap.size y3 y4 := by rw [hy4]; exact later_drewN _ _
                have HE2 := Lib.hid (show decide (B = L2) = true by rw [decide_eq_true_eq, HB.out, HL2.out])
                rw [HE2.out]
                clear hy4
                go_wp2_with fail
                go_ret
                exact ⟨rfl, later_trans hbG (later_trans hy3 hb6y)⟩
          · obtain ⟨wq, rfl⟩ : ∃ wq : World, wq = wr := ⟨_, rfl⟩
            go_wp2_with fail
            have hownq := owns_later hown6 hbr
            have hb0q := later_trans hb3 (later_trans hb36 hbr)
            have hAq := hA3
            have hBq := hB3
            have HMQ := Lib.hid (show ∃ M' : List Int, M'.length = M.length ∧ wq.ownsRow w3.heap.size 34 1 (.slice ao mo co) M.length (M'.map (Value.int .u64)) from ⟨M, rfl, hownq⟩)
            have hmo := Lib.hid HMO.out
            have hbq3 := later_trans hb36 hbr
            go_loopw [131] (fun i wr => ∃ k : Nat, k ≤ mo ∧ i = .int .i64 k ∧ IncI w3 (.slice ao mo co) M.length wr) (fun i _ => mo - (intOf i).toNat)
            case atStart => exact ⟨0, Nat.zero_le _, rfl, HMQ.out, hbq3⟩
            case round =>
              obtain ⟨j, hj, rfl, hinc⟩ := hrel
              by_cases hjlt : j < mo
              · obtain ⟨⟨M', hM'l, hownj⟩, hbj⟩ := hinc
                obtain ⟨g9, rfl, hcell9, hfr9, hblk9⟩ := owns_read hownj (by have := hmo.out; omega) (show j < M'.length by have := hmo.out; omega)
                have hmo9 : (mo : Int) ≤ 9223372036854775807 := by have := hmo.out; omega
                go_wp2_with fail
                go_roundw
                case rel => exact ⟨j + 1, by omega, by go_num, inc_step hownj hbj hM'l (by have := hmo.out; omega) hblk9⟩
                case measure => simp [intOf]; omega
              · obtain ⟨_, hbj⟩ := hinc
                have hbF := later_trans hb3 hbj
                have hAF := hAq.later hbj
                have hBF := hBq.later hbj
                clear hmo HMQ
                go_wp2_with fail
                refine (few_any _ xs wr (hx.later hbF)).mono ?_
                rintro e y1 ⟨v7, rfl, hown7, hy1⟩
                obtain ⟨L', hL', _, HL', al', n', cl', rfl, _, _⟩ := few_read hx.2 hown7
                have hA7 := hAF.later hy1
                have hB7 := hBF.later hy1
                go_wp2_with fail
                refine (equal_any _ _ A L' y1 hA7 hL').mono ?_
                rintro e y2 ⟨rfl, m5, hy2⟩
                have hb5y : Below y1.heap.size y1 y2 := by rw [hy2]; exact later_drewN _ _
                have HE := Lib.hid (show decide (A = L') = true by rw [decide_eq_true_eq, HA.out, HL'.out])
                rw [HE.out]
                clear hy2
                have hB8 := hB7.later hb5y
                have hbG := later_trans hbF (later_trans hy1 hb5y)
                go_wp2_with fail
                refine (few_any _ ys y2 (hy.later hbG)).mono ?_
                rintro e y3 ⟨v8, rfl, hown8, hy3⟩
                obtain ⟨L2, hL2, _, HL2, al2, n2, cl2, rfl, _, _⟩ := few_read hy.2 hown8
                have hB9 := hB8.later hy3
                go_wp2_with fail
                refine (equal_any _ _ B L2 y3 hB9 hL2).mono ?_
                rintro e y4 ⟨rfl, m6, hy4⟩
                have hb6y : Below y3.heap.size y3 y4 := by rw [hy4]; exact later_drewN _ _
                have HE2 := Lib.hid (show decide (B = L2) = true by rw [decide_eq_true_eq, HB.out, HL2.out])
                rw [HE2.out]
                clear hy4
                go_wp2_with fail
                go_ret
                exact ⟨rfl, later_trans hbG (later_trans hy3 hb6y)⟩
end Go.Proofs.Ytlndgjibefbddaa
