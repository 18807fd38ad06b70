/-
  The package gallop, and the document's answer for it, walked: what each function gives.
-/
import Derived.Test.YtlndgjibefbddaaRows
import Derived.WalkKit
import Derived.WalkSpells
import Derived.WalkLawsBesides
import Derived.Deep.QuietTactic
import Derived.Deep.LoopGhost
import Derived.BigQuiet
import Derived.ScopeJumps
import Derived.WalkMore
import Derived.Outline
import Derived.Test.YtlndgjibefbddaaPlain
import Derived.Test.YtlndgjibefbddaaBase
namespace Go.Proofs.Ytlndgjibefbddaa
open Go.RowKit

set_option maxHeartbeats 400000 in
/-- gallop.Log. -/
theorem log_any (n : Int) (hn : -9223372036854775808 ≤ n) (hn' : n ≤ 9223372036854775807) (w : World) :
    Calls Try.prog 11 #[.int .i64 n] w fun e w' => e = .returned (.int .i64 (lg n)) ∧ w = w' := by
  go_enter Try.func11, Try.ntmps11
  go_wp2
  refine wp_scope_jumps 0 (fun a' w' => w = w' ∧ ∃ (m acc : Int) (u4 u5 u6 u7 u8 u9 : Value), a' = { tmps := #[.int .i64 m, undef, .int .i64 0, .int .i64 acc, u4, u5, u6, u7, u8, u9, undef], defers := [] } ∧ acc + lg m = lg n ∧ m ≤ 9223372036854775807 ∧ 0 ≤ m ∧ 0 ≤ acc) (fun a' _ => (intOf (a'.tmps.getD 0 undef)).toNat) rfl ?_ ?_
  · go_wp2
    go_step3
    go_wp2
    · have h1 : 1 < n := by assumption
      have e := lg_half n h1
      go_step3
      exact ⟨rfl, rfl, _, _, _, _, _, _, _, _, rfl, by omega, by omega, by omega, by omega⟩
    · have h1 : ¬ 1 < n := by omega
      simp only [Exit.jump]
      go_ret
      rw [lg_small n (by omega)]
      exact ⟨rfl, rfl⟩
  · rintro a' w' ⟨rfl, m, acc, u4, u5, u6, u7, u8, u9, rfl, hs, hm, hm0, ha⟩
    have hb := lg_le n hn'
    have hc : acc ≤ 62 := by omega
    have HS := Lib.hid hs
    clear hs
    go_wp2
    · have h1 : 1 < m := by assumption
      have e := lg_half m h1
      have hs := HS.out
      go_step3
      exact ⟨rfl, ⟨rfl, _, _, _, _, _, _, _, _, rfl, by omega, by omega, by omega, by omega⟩, by simp [intOf]; omega⟩
    · have h1 : ¬ 1 < m := by omega
      have e := lg_small m (by omega)
      have hs := HS.out
      simp only [Exit.jump]
      go_ret
      have e2 : acc = (lg n : Int) := by omega
      exact ⟨by rw [e2]; rfl, rfl⟩

set_option maxHeartbeats 400000 in
/-- colanderref04.Log. -/
theorem reflog_any (n : Int) (hn : -9223372036854775808 ≤ n) (hn' : n ≤ 9223372036854775807) (w : World) :
    Calls Try.prog 12 #[.int .i64 n] w fun e w' => e = .returned (.int .i64 (lg n)) ∧ w = w' := by
  go_enter Try.func12, Try.ntmps12
  go_wp2
  go_loop [0, 3] (fun m acc => ∃ (m' acc' : Int), m = .int .i64 m' ∧ acc = .int .i64 acc' ∧ acc' + lg m' = lg n ∧ -9223372036854775808 ≤ m' ∧ m' ≤ 9223372036854775807 ∧ 0 ≤ acc') (fun m _ => (intOf m).toNat)
  case atStart => exact ⟨_, _, rfl, rfl, by omega, by omega, by omega, by omega⟩
  case round =>
    obtain ⟨m, acc, rfl, rfl, hs, hm, hm0, ha⟩ := hrel
    have hb := lg_le n hn'
    have hc : acc ≤ 62 := by omega
    have HS := Lib.hid hs
    clear hs
    by_cases h1 : 1 < m
    · have e := lg_half m h1
      go_wp2
      go_round
      case rel => exact ⟨_, _, rfl, rfl, by have := HS.out; omega, by omega, by omega, by omega⟩
      case measure => simp [intOf]; omega
    · go_wp2
      go_ret
      exact ⟨ret_int (by have := HS.out; rw [lg_small m (by omega)] at this; omega), rfl⟩

set_option maxHeartbeats 400000 in
/-- gallop.rises at uint64. It only reads. -/
theorem rises_any (v : Value) (xs : List Int) (w : World) (h : SlI .u64 w v xs) :
    Calls Try.prog 32 #[v] w fun e w' => e = .returned (.bool (risesB xs)) ∧ ∃ n, w' = w.drewN n := by
  obtain ⟨a, c, rfl, h1, h2, h3, h4⟩ := h.open
  clear h h3
  have HX := Lib.hid h4
  clear h4
  go_enter Try.func32, Try.ntmps32
  go_wp2
  go_step3
  go_wp2
  go_step3
  go_wp2
  go_loopg [3, 4] xs.length (fun g ok i wr => ∃ k : Nat, 0 < k ∧ k ≤ xs.length + 1 ∧ i = .int .i64 k ∧ ok = .bool true ∧ RisesTo k xs ∧ g = xs.length + 1 - k ∧ ∃ n, wr = w.drewN n)
  case atStart => exact ⟨1, by omega, by omega, rfl, rfl, risesTo_one _, by omega, 0, rfl⟩
  case round =>
    obtain ⟨k, hk0, hk, rfl, rfl, hs, hg, n, rfl⟩ := hrel
    by_cases hlt : k < xs.length
    · obtain ⟨b, o, rfl, _, hc⟩ := HX.out (by omega)
      have hc1 := hc k hlt
      have hc2 := hc (k - 1) (by omega)
      have e1 : ((k : Int) - 1).toNat = k - 1 := by omega
      clear hc
      go_wp2
      go_quiet (fail)
      go_wp2
      · have ht : xs[k] ≤ xs[k - 1] := by assumption
        rw [Exit.noGoto_ret]
        go_ret
        exact ⟨ret_bool (not_rises hlt hk0 (by omega)).symm, _, by first | rfl | exact World.drewN_drewN _ _ _⟩
      · have ht : xs[k - 1] < xs[k] := by assumption
        go_roundg (xs.length - k)
        case rel => exact ⟨k + 1, by omega, by omega, by go_num, rfl, risesTo_step hs hlt hk0 ht, by omega, _, by first | rfl | exact World.drewN_drewN _ _ _⟩
        case measure => omega
    · go_wp2
      try rw [Exit.noGoto_ret]
      go_ret
      exact ⟨ret_bool (risesTo_all hs (by omega)).symm, _, rfl⟩

set_option maxHeartbeats 400000 in
/-- gallop.Rising. -/
theorem rising_any (v : Value) (xs : List Int) (w : World) (h : SlI .u64 w v xs) :
    Calls Try.prog 23 #[v] w fun e w' => e = .returned (.bool (risesB xs)) ∧ ∃ n, w' = w.drewN n := by
  obtain ⟨a, c, rfl, h1, h2, h3, h4⟩ := h.open
  go_enter Try.func23, Try.ntmps23
  go_wp2_with (go_at_call 32; refine (rises_any _ xs _ h).mono ?_; rintro e w' ⟨rfl, n, rfl⟩)
  go_ret
  exact ⟨rfl, _, rfl⟩

set_option maxHeartbeats 400000 in
/-- gallop.may. -/
theorem may_any (v : Value) (xs : List Int) (i : Int) (w : World) (h : SlI .u64 w v xs) :
    Calls Try.prog 37 #[v, .int .i64 i] w fun e w' => e = .returned (.bool (mayB xs i)) ∧ ∃ n, w' = w.drewN n := by
  obtain ⟨a, c, rfl, h1, h2, h3, h4⟩ := h.open
  unfold mayB
  have H := rises_any _ xs w h
  generalize risesB xs = r at *
  clear h h3 h4
  cases r with
  | false =>
    go_enter Try.func37, Try.ntmps37
    go_wp2_with (go_at_call 32; refine H.mono ?_; rintro e w' ⟨rfl, n, rfl⟩)
    go_ret
    exact ⟨by simp, _, rfl⟩
  | true =>
    by_cases hi : 0 ≤ i
    · by_cases hj : i ≤ xs.length
      · go_enter Try.func37, Try.ntmps37
        go_wp2_with (go_at_call 32; refine H.mono ?_; rintro e w' ⟨rfl, n, rfl⟩)
        go_ret
        exact ⟨ret_bool (by simp <;> omega), _, rfl⟩
      · have hj' : (xs.length : Int) < i := by omega
        go_enter Try.func37, Try.ntmps37
        go_wp2_with (go_at_call 32; refine H.mono ?_; rintro e w' ⟨rfl, n, rfl⟩)
        go_ret
        exact ⟨ret_bool (by simp <;> omega), _, rfl⟩
    · have hi' : i < 0 := by omega
      go_enter Try.func37, Try.ntmps37
      go_wp2_with (go_at_call 32; refine H.mono ?_; rintro e w' ⟨rfl, n, rfl⟩)
      go_ret
      exact ⟨ret_bool (by simp <;> omega), _, rfl⟩

set_option maxHeartbeats 400000 in
/-- The closure gallop.Seek$1: is what it is handed far enough? -/
theorem seek1_any (x key : Int) (B : Nat) (w : World) (hk : w.cell? ⟨B, 0, none⟩ = some (.int .u64 key)) :
    Calls Try.prog 38 #[.int .u64 x, .pointer (some ⟨B, 0, none⟩)] w fun e w' => e = .returned (.bool (decide (key ≤ x))) ∧ w = w' := by
  go_enter Try.func38, Try.ntmps38
  go_wp2
  go_ret
  exact ⟨rfl, rfl⟩

set_option maxHeartbeats 400000 in
/-- The closure gallop.Behind$1: is what it is handed far enough? -/
theorem behind1_any (x key : Int) (B : Nat) (w : World) (hk : w.cell? ⟨B, 0, none⟩ = some (.int .u64 key)) :
    Calls Try.prog 39 #[.int .u64 x, .pointer (some ⟨B, 0, none⟩)] w fun e w' => e = .returned (.bool (decide (key < x))) ∧ w = w' := by
  go_enter Try.func39, Try.ntmps39
  go_wp2
  go_ret
  exact ⟨rfl, rfl⟩

set_option maxHeartbeats 400000 in
/-- The closure gallop.Meet$1: is what it is handed far enough? -/
theorem meet1_any (x key : Int) (B : Nat) (w : World) (hk : w.cell? ⟨B, 0, none⟩ = some (.int .u64 key)) :
    Calls Try.prog 34 #[.int .u64 x, .pointer (some ⟨B, 0, none⟩)] w fun e w' => e = .returned (.bool (decide (key ≤ x))) ∧ w = w' := by
  go_enter Try.func34, Try.ntmps34
  go_wp2
  go_ret
  exact ⟨rfl, rfl⟩

set_option maxHeartbeats 400000 in
/-- The closure gallop.Span$1: is what it is handed far enough? -/
theorem span1_any (x key : Int) (B : Nat) (w : World) (hk : w.cell? ⟨B, 0, none⟩ = some (.int .u64 key)) :
    Calls Try.prog 35 #[.int .u64 x, .pointer (some ⟨B, 0, none⟩)] w fun e w' => e = .returned (.bool (decide (key ≤ x))) ∧ w = w' := by
  go_enter Try.func35, Try.ntmps35
  go_wp2
  go_ret
  exact ⟨rfl, rfl⟩

set_option maxHeartbeats 400000 in
/-- The closure gallop.Span$2: is what it is handed far enough? -/
theorem span2_any (x key : Int) (B : Nat) (w : World) (hk : w.cell? ⟨B, 0, none⟩ = some (.int .u64 key)) :
    Calls Try.prog 36 #[.int .u64 x, .pointer (some ⟨B, 0, none⟩)] w fun e w' => e = .returned (.bool (decide (key < x))) ∧ w = w' := by
  go_enter Try.func36, Try.ntmps36
  go_wp2
  go_ret
  exact ⟨rfl, rfl⟩

end Go.Proofs.Ytlndgjibefbddaa
