/-
  wide.checked: what something comes to; an overflow is its error.
-/
import Derived.Test.YtdmfhlfhlflakaaDoorWiMulF
namespace Go.Proofs.YtdmfhlfhlflakaaDoor
open Go.RowKit Go.Lib Go.Shelf
set_option linter.unusedVariables false

theorem assert_errno (q : Int) (w : World) : Sem.run Tryd.prog (Instr.typeAssert (.iface 36 (.int .i64 q)) 20 36 true) w = .ok (.tuple #[.int .i64 q, .bool true]) w := by kernel_rfl

set_option maxRecDepth 100000 in
set_option maxHeartbeats 4000000 in
theorem catch_idle (p q : Addr) (w : World) :
    CallsD Tryd.prog 111 #[.pointer (some p), .pointer (some q)] .returning w fun e u' w' => e = .returned (.tuple #[]) ∧ u' = .returning ∧ w' = w := by
  refine callsD_of_wpS Tryd.func111 rfl fun c₀ cs hu => ?_
  apply wpS_seq
  apply wpS_region
  simp [wpOpsS, go_sem, recoverD, hu, Tryd.ntmps111, Exit.thenS]
  rw [show (#[.pointer (some p), .pointer (some q)] ++ ((Array.replicate 16 undef).setIfInBounds 3 .nilIface).setIfInBounds 0 .nilIface : Array Value) = #[.pointer (some p), .pointer (some q), .nilIface, undef, undef, .nilIface, undef, undef, undef, undef, undef, undef, undef, undef, undef, undef, undef, undef] from rfl]
  refine wpS_of_wp ?_
  go_wp2
  cases c₀
  simp_all [bodyPostS, results, Tryd.results111]
set_option maxRecDepth 100000 in
set_option maxHeartbeats 4000000 in
theorem catch_thrown (b b' : Nat) (x y z q : Int) (older : List PanicEntry) (w : World) (hne : b ≠ b') (h0 : w.heap[b]? = some (.cells #[.int .u64 x, .int .u64 y] 35 (0, 0))) (h1 : w.heap[b']? = some (.cells #[.int .i64 z] 36 (0, 0))) :
    CallsD Tryd.prog 111 #[.pointer (some ⟨b, 0, none⟩), .pointer (some ⟨b', 0, none⟩)] (.panicking ({ v := .iface 36 (.int .i64 q), recovered := false } :: older)) w fun e u' w' =>
      e = .returned (.tuple #[]) ∧ u' = .panicking ({ v := .iface 36 (.int .i64 q), recovered := true } :: older) ∧ w' = ((w.setCell ⟨b, 0, none⟩ (.int .u64 0)).setCell ⟨b, 1, none⟩ (.int .u64 0)).setCell ⟨b', 0, none⟩ (.int .i64 q) := by
  refine callsD_of_wpS Tryd.func111 rfl fun c₀ cs hu => ?_
  apply wpS_seq
  apply wpS_region
  simp [wpOpsS, go_sem, recoverD, hu, Tryd.ntmps111, Exit.thenS]
  have c0 := box_cell (i := 0) h0
  have c1 := box_cell (i := 1) h0
  have d0 := box_cell (i := 0) h1
  have f0 := box_frozen (i := 0) h0
  have f1 := box_frozen (i := 1) h0
  have g0 := box_frozen (i := 0) h1
  simp at c0 c1 d0
  rw [show (#[.pointer (some ⟨b, 0, none⟩), .pointer (some ⟨b', 0, none⟩)] ++ ((Array.replicate 16 undef).setIfInBounds 3 (.iface 36 (.int .i64 q))).setIfInBounds 0 (.iface 36 (.int .i64 q)) : Array Value) = #[.pointer (some ⟨b, 0, none⟩), .pointer (some ⟨b', 0, none⟩), (.iface 36 (.int .i64 q)), undef, undef, (.iface 36 (.int .i64 q)), undef, undef, undef, undef, undef, undef, undef, undef, undef, undef, undef, undef] from rfl]
  refine wpS_of_wp ?_
  have hta := assert_errno q
  go_wp2
  cases c₀
  simp_all [bodyPostS, results, Tryd.results111]
end Go.Proofs.YtdmfhlfhlflakaaDoor
