/-
  The cursor: need, and the closure that recovers.
-/
import Derived.WalkKit
import Derived.Defers
import Derived.Recover
import Derived.WalkLawsBesides
import Derived.Laws.Pointers
import Derived.Test.YtdfnfdgkhflonaaRows
import Derived.Test.YtdfnfdgkhflonaaBase
namespace Go.Proofs.Ytdfnfdgkhflonaa
open Go.RowKit
set_option linter.unusedVariables false

/-- The panic of an error of the chapter. -/
def thrown (q : Int) : List PanicEntry := [{ v := .iface 30 (.int .i64 q), recovered := false }]

theorem need_ok (q : Int) (w : World) : Calls Try.prog 106 #[.bool true, .int .i64 q] w fun e w' => e = .returned (.tuple #[]) ∧ w' = w := by
  go_enter Try.func106, Try.ntmps106
  go_wp2
  go_end0
  exact ⟨rfl, rfl⟩

theorem need_no (q : Int) (w : World) : Calls Try.prog 106 #[.bool false, .int .i64 q] w fun e w' => e = .panicked (thrown q) ∧ w' = w := by
  go_enter Try.func106, Try.ntmps106
  go_wp2
  simp [bodyPost, thrown]

theorem assert_errno (q : Int) (w : World) : Sem.run Try.prog (Instr.typeAssert (.iface 30 (.int .i64 q)) 20 30 true) w = .ok (.tuple #[.int .i64 q, .bool true]) w := by kernel_rfl

set_option maxRecDepth 100000 in
set_option maxHeartbeats 4000000 in
theorem catch_thrown (p : Addr) (x q : Int) (older : List PanicEntry) (w : World) (hc : w.cell? p = some (.int .i64 x)) (hz : w.frozen? p = false) :
    CallsD Try.prog 105 #[.pointer (some p)] (.panicking ({ v := .iface 30 (.int .i64 q), recovered := false } :: older)) w fun e u' w' =>
      e = .returned (.tuple #[]) ∧ u' = .panicking ({ v := .iface 30 (.int .i64 q), recovered := true } :: older) ∧ w' = w.setCell p (.int .i64 q) := by
  refine callsD_of_wpS Try.func105 rfl fun c₀ cs hu => ?_
  apply wpS_seq
  apply wpS_region
  simp [wpOpsS, go_sem, recoverD, hu, Try.ntmps105, Exit.thenS]
  rw [show (#[.pointer (some p)] ++ ((Array.replicate 15 undef).setIfInBounds 3 (.iface 30 (.int .i64 q))).setIfInBounds 0 (.iface 30 (.int .i64 q)) : Array Value) = #[.pointer (some p), .iface 30 (.int .i64 q), undef, undef, .iface 30 (.int .i64 q), undef, undef, undef, undef, undef, undef, undef, undef, undef, undef, undef] from rfl]
  refine wpS_of_wp ?_
  have hta := assert_errno q
  go_wp2
  trace_state
  cases c₀
  simp_all [bodyPostS, results, Try.results105]

theorem catch_idle (p : Addr) (w : World) :
    CallsD Try.prog 105 #[.pointer (some p)] .returning w fun e u' w' => e = .returned (.tuple #[]) ∧ u' = .returning ∧ w' = w := by
  refine callsD_of_wpS Try.func105 rfl fun c₀ cs hu => ?_
  apply wpS_seq
  apply wpS_region
  simp [wpOpsS, go_sem, recoverD, hu, Try.ntmps105, Exit.thenS]
  rw [show (#[.pointer (some p)] ++ ((Array.replicate 15 undef).setIfInBounds 3 .nilIface).setIfInBounds 0 .nilIface : Array Value) = #[.pointer (some p), .nilIface, undef, undef, .nilIface, undef, undef, undef, undef, undef, undef, undef, undef, undef, undef, undef] from rfl]
  refine wpS_of_wp ?_
  go_wp2
  cases c₀
  simp_all [bodyPostS, results, Try.results105]
end Go.Proofs.Ytdfnfdgkhflonaa
