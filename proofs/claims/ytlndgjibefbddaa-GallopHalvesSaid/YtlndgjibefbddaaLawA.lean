/-
  The laws GallopLogs and GallopHalves, walked.
-/
import Derived.Test.YtlndgjibefbddaaRows
import Derived.WalkKit
import Derived.WalkSpells
import Derived.WalkLawsBesides
import Derived.Outline
import Derived.Test.YtlndgjibefbddaaPlain
import Derived.Test.YtlndgjibefbddaaBase
import Derived.Test.YtlndgjibefbddaaGal
import Derived.Test.YtlndgjibefbddaaWakes
namespace Go.Proofs.Ytlndgjibefbddaa
open Go.RowKit
set_option linter.unusedVariables false

set_option maxHeartbeats 1000000 in
theorem logs_walk (v : Value) (xs : List Int) (w : World) (h : SlI .i64 w v xs) :
    Calls Try.prog 3 #[v] w fun e w' => e = .returned (.bool true) ∧ Below w.heap.size w w' := by
  have hwf := h.2
  obtain ⟨a, c, rfl, h1, h2, h3, h4⟩ := h.open
  have hm : xs.length ≤ 9223372036854775807 := by omega
  have HX := Lib.hid h4
  have HW := Lib.hid hwf
  clear h h1 h2 h3 h4 hwf
  go_enter Try.func3, Try.ntmps3
  go_wp2_with fail
  refine (wakes_any w).mono ?_
  rintro e w1 ⟨rfl, hb1⟩
  go_wp2_with fail
  go_loop [9] (fun i => ∃ k : Nat, k ≤ xs.length ∧ i = .int .i64 k) (fun i => xs.length - (intOf i).toNat)
  case atStart => exact ⟨0, Nat.zero_le _, rfl⟩
  case round =>
    obtain ⟨k, hk, rfl⟩ := hrel
    by_cases hlt : k < xs.length
    · obtain ⟨b, o, rfl, hbw, hc⟩ := HX.out (by omega)
      have hck := ((bcell hb1).1 b (o + k) hbw).trans (hc k hlt)
      obtain ⟨w1a, w1b⟩ := wf_i64 (HW.out xs[k] (List.getElem_mem hlt))
      clear hc
      by_cases h20 : k < 20
      · have hl1 := Lib.hid (fun W => log_any xs[k] w1a w1b W)
        have hl2 := Lib.hid (fun W => reflog_any xs[k] w1a w1b W)
        go_wp2_with fail
        refine (hl1.out _).mono ?_
        rintro e w' ⟨rfl, rfl⟩
        go_wp2_with fail
        refine (hl2.out _).mono ?_
        rintro e w' ⟨rfl, rfl⟩
        have hne : (((lg xs[k] : Int)) != lg xs[k]) = false := by simp
        go_wp2_with fail
        go_round
        case rel => exact ⟨k + 1, by omega, by go_num⟩
        case measure => simp [intOf]; omega
      · have h20' : 20 ≤ k := by omega
        go_wp2_with fail
        go_round
        case rel => exact ⟨k + 1, by omega, by go_num⟩
        case measure => simp [intOf]; omega
    · go_wp2_with fail
      go_ret
      exact ⟨rfl, hb1⟩

/-- The log is the greatest power of two within. -/
theorem lg_spec {n : Int} (h : 1 ≤ n) : (2 : Int) ^ lg n ≤ n ∧ n < 2 ^ (lg n + 1) := by
  unfold lg
  have h0 : n.toNat ≠ 0 := by omega
  have h1 := Nat.log2_self_le h0
  have h2 := Nat.lt_log2_self (n := n.toNat)
  have e1 : ((2 ^ n.toNat.log2 : Nat) : Int) = (2 : Int) ^ n.toNat.log2 := by simp
  have e2 : ((2 ^ (n.toNat.log2 + 1) : Nat) : Int) = (2 : Int) ^ (n.toNat.log2 + 1) := by simp
  omega

theorem quo_one {n : Int} {k : Nat} (h1 : (2 : Int) ^ k ≤ n) (h2 : n < 2 ^ (k + 1)) : n / 2 ^ k = 1 := by
  have hp : (0 : Int) < 2 ^ k := Int.pow_pos (by omega)
  rw [Int.pow_succ] at h2
  generalize (2 : Int) ^ k = p at *
  have a : 1 ≤ n / p := (Int.le_ediv_iff_mul_le hp).2 (by omega)
  have b : n / p < 2 := (Int.ediv_lt_iff_lt_mul hp).2 (by omega)
  omega

set_option maxHeartbeats 1000000 in
theorem halves_walk (n : Int) (w : World) (hw : (Lit.int .i64 n).wf = true) :
    Calls Try.prog 4 #[.int .i64 n] w fun e w' => e = .returned (.bool true) ∧ Below w.heap.size w w' := by
  obtain ⟨hn1, hn2⟩ := wf_i64 hw
  clear hw
  by_cases h1 : n < 1
  · have hl := Lib.hid (fun W => log_any n hn1 hn2 W)
    have h0 := Lib.hid (lg_small n (by omega))
    go_enter Try.func4, Try.ntmps4
    go_wp2_with fail
    refine (wakes_any w).mono ?_
    rintro e w1 ⟨rfl, hb1⟩
    go_wp2_with fail
    refine (hl.out _).mono ?_
    rintro e w' ⟨rfl, rfl⟩
    rw [h0.out]
    go_wp2_with fail
    go_ret
    exact ⟨rfl, hb1⟩
  · have hl := Lib.hid (fun W => log_any n hn1 hn2 W)
    have hl2 := Lib.hid (fun W => log_any (n / 2) (by omega) (by omega) W)
    obtain ⟨hp1, hp2⟩ := lg_spec (n := n) (by omega)
    have hlb := lg_le n hn2
    have hmax : ((max (lg n - 1 : Int) 0)) = (lg (n / 2) : Int) := by
      by_cases h2 : 1 < n
      · rw [lg_half n h2]; omega
      · rw [lg_small n (by omega), lg_small (n / 2) (by omega)]; rfl
    obtain ⟨k, hk⟩ : ∃ k, lg n = k := ⟨_, rfl⟩
    rw [hk] at hp1 hp2 hlb hmax
    have hq : n / 2 ^ k = 1 := quo_one hp1 hp2
    have HK := Lib.hid hk
    have HM := Lib.hid hmax
    clear hk hmax
    go_enter Try.func4, Try.ntmps4
    go_wp2_with fail
    refine (wakes_any w).mono ?_
    rintro e w1 ⟨rfl, hb1⟩
    go_wp2_with fail
    refine (hl.out _).mono ?_
    rintro e w' ⟨rfl, rfl⟩
    rw [HK.out]
    go_wp2_with fail
    refine (hl2.out _).mono ?_
    rintro e w' ⟨rfl, rfl⟩
    rw [← HM.out]
    go_wp2_with fail
    all_goals go_ret
    all_goals exact ⟨ret_bool (by rw [beq_iff_eq]; omega), hb1⟩
end Go.Proofs.Ytlndgjibefbddaa
