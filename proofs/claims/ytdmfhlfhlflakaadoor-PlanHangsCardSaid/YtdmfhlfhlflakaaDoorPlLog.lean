/-
  The package gallop, and the document's answer for it, walked: what each function gives.
-/
import Derived.Test.YtdmfhlfhlflakaaDoorRows
import Derived.WalkKit
import Derived.WalkSpells
import Derived.WalkLawsBesides
import Derived.Deep.QuietTactic
import Derived.Deep.LoopGhost
import Derived.BigQuiet
import Derived.ScopeJumps
import Derived.WalkMore
import Derived.Outline
import Derived.Test.YtdmfhlfhlflakaaDoorPlain
import Derived.Test.YtdmfhlfhlflakaaDoorBase
namespace Go.Proofs.YtdmfhlfhlflakaaDoor
open Go.RowKit

set_option maxHeartbeats 400000 in
/-- gallop.Log. -/
theorem log_any (n : Int) (hn : -9223372036854775808 ≤ n) (hn' : n ≤ 9223372036854775807) (w : World) :
    Calls Tryd.prog 65 #[.int .i64 n] w fun e w' => e = .returned (.int .i64 (lg n)) ∧ w = w' := by
  go_enter Tryd.func65, Tryd.ntmps65
  go_wp2
  refine wp_scope_jumps 0 (fun a' w' => w = w' ∧ ∃ (m acc : Int) (u4 u5 u6 u7 u8 u9 : Value), a' = { tmps := #[.int .i64 m, undef, .int .i64 0, .int .i64 acc, u4, u5, u6, u7, u8, u9, undef], defers := [] } ∧ acc + lg m = lg n ∧ m ≤ 9223372036854775807 ∧ 0 ≤ m ∧ 0 ≤ acc) (fun a' _ => (intOf (a'.tmps.getD 0 undef)).toNat) rfl ?_ ?_
  · go_wp2
    go_step3
    go_wp2
    · have h1 : 1 < n := by assumption
      have e := lg_half n h1
      go_step3
      exact ⟨rfl, rfl, _, _, _, _, _, _, _, _, rfl, by omega, by omega, by omega, by omega⟩
    · have h1 : ¬ 1 < n := by omega
      simp only [Exit.jump]
      go_ret
      rw [lg_small n (by omega)]
      exact ⟨rfl, rfl⟩
  · rintro a' w' ⟨rfl, m, acc, u4, u5, u6, u7, u8, u9, rfl, hs, hm, hm0, ha⟩
    have hb := lg_le n hn'
    have hc : acc ≤ 62 := by omega
    have HS := Lib.hid hs
    clear hs
    go_wp2
    · have h1 : 1 < m := by assumption
      have e := lg_half m h1
      have hs := HS.out
      go_step3
      exact ⟨rfl, ⟨rfl, _, _, _, _, _, _, _, _, rfl, by omega, by omega, by omega, by omega⟩, by simp [intOf]; omega⟩
    · have h1 : ¬ 1 < m := by omega
      have e := lg_small m (by omega)
      have hs := HS.out
      simp only [Exit.jump]
      go_ret
      have e2 : acc = (lg n : Int) := by omega
      exact ⟨by rw [e2]; rfl, rfl⟩

set_option maxHeartbeats 400000 in
/-- colanderref04.Log. -/
theorem reflog_any (n : Int) (hn : -9223372036854775808 ≤ n) (hn' : n ≤ 9223372036854775807) (w : World) :
    Calls Tryd.prog 71 #[.int .i64 n] w fun e w' => e = .returned (.int .i64 (lg n)) ∧ w = w' := by
  go_enter Tryd.func71, Tryd.ntmps71
  go_wp2
  go_loop [0, 3] (fun m acc => ∃ (m' acc' : Int), m = .int .i64 m' ∧ acc = .int .i64 acc' ∧ acc' + lg m' = lg n ∧ -9223372036854775808 ≤ m' ∧ m' ≤ 9223372036854775807 ∧ 0 ≤ acc') (fun m _ => (intOf m).toNat)
  case atStart => exact ⟨_, _, rfl, rfl, by omega, by omega, by omega, by omega⟩
  case round =>
    obtain ⟨m, acc, rfl, rfl, hs, hm, hm0, ha⟩ := hrel
    have hb := lg_le n hn'
    have hc : acc ≤ 62 := by omega
    have HS := Lib.hid hs
    clear hs
    by_cases h1 : 1 < m
    · have e := lg_half m h1
      go_wp2
      go_round
      case rel => exact ⟨_, _, rfl, rfl, by have := HS.out; omega, by omega, by omega, by omega⟩
      case measure => simp [intOf]; omega
    · go_wp2
      go_ret
      exact ⟨ret_int (by have := HS.out; rw [lg_small m (by omega)] at this; omega), rfl⟩

end Go.Proofs.YtdmfhlfhlflakaaDoor
