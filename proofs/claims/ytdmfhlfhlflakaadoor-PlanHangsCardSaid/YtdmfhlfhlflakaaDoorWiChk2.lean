/-
  wide.checked: what something comes to; an overflow is its error.
-/
import Derived.Test.YtdmfhlfhlflakaaDoorWiChk
namespace Go.Proofs.YtdmfhlfhlflakaaDoor
open Go.RowKit Go.Lib Go.Shelf
set_option linter.unusedVariables false

/-- A function that is entered. -/
def Enters (F : Nat) : Prop := ∀ args W, (callFunc F args).run Tryd.prog W = .ok (.enter F args) W

/-- The world in which checked calls its function. -/
abbrev chkW (w : World) : World := (w.alloc (.cells #[.int .u64 0, .int .u64 0] 35)).alloc (.cells #[.int .i64 0] 36)
theorem chkW_below (w : World) : Below w.heap.size w (chkW w) := by unfold chkW; go_grown

/-- The boxes of checked's results stand as they were. -/
def ChkKept (w w2 : World) : Prop := w2.heap[w.heap.size]? = some (.cells #[.int .u64 0, .int .u64 0] 35 (0, 0)) ∧ w2.heap[w.heap.size + 1]? = some (.cells #[.int .i64 0] 36 (0, 0))

theorem ChkKept.of {w w2 : World} (hb : Below (chkW w).heap.size (chkW w) w2) : ChkKept w w2 := by
  refine ⟨(hb.block _ (by simp [chkW]; omega)).trans ?_, (hb.block _ (by simp [chkW])).trans ?_⟩
  · show ((w.heap.push _).push _)[w.heap.size]? = _
    rw [Array.getElem?_push, if_neg (by simp), Array.getElem?_push, if_pos (by simp)]
  · show ((w.heap.push _).push _)[w.heap.size + 1]? = _
    rw [Array.getElem?_push, if_pos (by simp)]

theorem chk_set (w w2 : World) (u v x : Value) : Below w.heap.size w2 (((w2.setCell ⟨w.heap.size, 0, none⟩ u).setCell ⟨w.heap.size, 1, none⟩ v).setCell ⟨w.heap.size + 1, 0, none⟩ x) :=
  (((Below.refl w.heap.size w2).setCell (p := ⟨w.heap.size, 0, none⟩) (Nat.le_refl _) u).setCell (p := ⟨w.heap.size, 1, none⟩) (Nat.le_refl _) v).setCell (p := ⟨w.heap.size + 1, 0, none⟩) (Nat.le_succ _) x

set_option maxRecDepth 100000 in
set_option maxHeartbeats 1000000 in
theorem checked_ok {F : Nat} {caps : Array Value} {w : World} {h l : Int} {P : World → Prop} (hF : Enters F)
    (hM : Calls Tryd.prog F caps (chkW w) fun e w2 => e = .returned (.agg #[.int .u64 h, .int .u64 l]) ∧ P w2 ∧ ChkKept w w2) :
    Calls Tryd.prog 75 #[.func (.func F) #[] caps] w fun e w' => e = .returned (.tuple #[.agg #[.int .u64 h, .int .u64 l], .int .i64 0]) ∧ ∃ w2, P w2 ∧ Below w.heap.size w2 w' := by
  have hmf : ∀ (fn : Fn) (first cap : Array Value) (w : World), (Instr.makeFunc fn first cap).run Tryd.prog w = .ok (.func fn first cap) w := fun _ _ _ _ => rfl
  have hE := hF
  unfold Enters at hE
  unfold chkW at hM
  have HM := Lib.hid hM
  clear hM
  go_enter_defers Tryd.func75, Tryd.ntmps75
  go_wp2_with fail
  refine HM.out.mono ?_
  rintro e w2 ⟨rfl, hP, hK0, hK1⟩
  have hx := Lib.hid hP
  clear hP
  have c0 := box_cell (i := 0) hK0
  have c1 := box_cell (i := 1) hK0
  have d0 := box_cell (i := 0) hK1
  have f0 := box_frozen (i := 0) hK0
  have f1 := box_frozen (i := 1) hK0
  have g0 := box_frozen (i := 0) hK1
  simp at c0 c1 d0
  go_wp2_with fail
  refine leaves_cons (f := 111) (args := #[.pointer (some ⟨w.heap.size, 0, none⟩), .pointer (some ⟨w.heap.size + 1, 0, none⟩)]) (by simp) (by simp [go_sem]) ?_
  refine (catch_idle _ _ _).mono ?_
  rintro e u' w'' ⟨rfl, rfl, rfl⟩
  simp [Leaves, settle, results, Tryd.results75, go_sem, c0, c1, d0]
  refine ⟨w2, hx.out, ?_⟩
  exact chk_set _ _ _ _ _

set_option maxRecDepth 100000 in
set_option maxHeartbeats 2000000 in
theorem checked_no {F : Nat} {caps : Array Value} {w : World} {P : World → Prop} (hF : Enters F)
    (hM : Calls Tryd.prog F caps (chkW w) fun e w2 => e = .panicked ovf ∧ P w2 ∧ ChkKept w w2) :
    Calls Tryd.prog 75 #[.func (.func F) #[] caps] w fun e w' => e = .returned (.tuple #[.agg #[.int .u64 0, .int .u64 0], .int .i64 110]) ∧ ∃ w2, P w2 ∧ Below w.heap.size w2 w' := by
  have hmf : ∀ (fn : Fn) (first cap : Array Value) (w : World), (Instr.makeFunc fn first cap).run Tryd.prog w = .ok (.func fn first cap) w := fun _ _ _ _ => rfl
  have hE := hF
  unfold Enters at hE
  unfold chkW at hM
  have HM := Lib.hid hM
  clear hM
  go_enter_defers Tryd.func75, Tryd.ntmps75
  go_wp2_with fail
  refine HM.out.mono ?_
  rintro e w2 ⟨rfl, hP, hK0, hK1⟩
  have hx := Lib.hid hP
  clear hP
  have c0 := box_cell (i := 0) hK0
  have c1 := box_cell (i := 1) hK0
  have d0 := box_cell (i := 0) hK1
  have f0 := box_frozen (i := 0) hK0
  have f1 := box_frozen (i := 1) hK0
  have g0 := box_frozen (i := 0) hK1
  simp at c0 c1 d0
  unfold ovf
  refine leaves_cons (f := 111) (args := #[.pointer (some ⟨w.heap.size, 0, none⟩), .pointer (some ⟨w.heap.size + 1, 0, none⟩)]) (by simp) (by simp [go_sem]) ?_
  refine (catch_thrown _ _ _ _ _ _ _ _ (by omega) hK0 hK1).mono ?_
  rintro e u' w'' ⟨rfl, rfl, rfl⟩
  simp [Leaves, settle, results, Tryd.results75, go_sem, c0, c1, d0]
  refine ⟨w2, hx.out, ?_⟩
  exact chk_set _ _ _ _ _
end Go.Proofs.YtdmfhlfhlflakaaDoor
