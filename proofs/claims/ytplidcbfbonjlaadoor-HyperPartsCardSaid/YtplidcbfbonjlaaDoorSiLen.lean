/-
  math/bits.Len of a number below 256, walked.
-/
import Derived.Lib.Strings
import Derived.Lib.Slices
import Derived.Lib.Small
import Derived.Lib.Walk
import Derived.Lib.BitFns
import Derived.Sort.WalkA14
import Derived.Test.YtplidcbfbonjlaaDoorSiIns
namespace Go.Proofs.YtplidcbfbonjlaaDoor
open Go.RowKit Go.Sort
set_option linter.unusedVariables false

theorem len8_size : Lib.len8tab.size = 256 := by decide +kernel
set_option maxHeartbeats 4000000 in
set_option maxRecDepth 100000 in
theorem bitsU_Len64 (x : Int) (w : World) (h0 : 0 ≤ x) (h1 : x ≤ 255) :
    Calls Tryd.prog 75 #[.int .u64 x] w fun e w' => e = .returned (.int .i64 (Lib.bitLen x.toNat)) ∧ w' = w := by
  have a1 : x < 4294967296 := by omega
  have a2 : x < 65536 := by omega
  have a3 : x < 256 := by omega
  have a4 : x < (Lib.len8tab.size : Int) := by rw [len8_size]; exact a3
  go_enter Tryd.func75, Tryd.ntmps75
  go_wp2
  go_ret
  refine ⟨congrArg Ending.returned (congrArg (Value.int IntKind.i64) ?_), rfl⟩
  rw [Lib.len8_of x h0 h1]
  have l := Lib.bitLen_le8' x h0 h1
  generalize Lib.bitLen x.toNat = k at l
  first | omega | (simp [wrap64] <;> omega) | (rw [show wrap64 (k : Int) = (k : Int) from by unfold wrap64; omega, show wrap64 (k : Int) = (k : Int) from by unfold wrap64; omega])
theorem bitsU_Len (x : Int) (w : World) (h0 : 0 ≤ x) (h1 : x ≤ 255) :
    Calls Tryd.prog 55 #[.int .u64 x] w fun e w' => e = .returned (.int .i64 (Lib.bitLen x.toNat)) ∧ w' = w := by
  go_enter Tryd.func55, Tryd.ntmps55
  go_wp2_with (go_at_call 75; refine (bitsU_Len64 x _ h0 h1).mono ?_; rintro e w' ⟨rfl, rfl⟩)
  go_ret
  exact ⟨rfl, rfl⟩
end Go.Proofs.YtplidcbfbonjlaaDoor
