/-
  The cursor's tries: a move, and why it can't be made.
-/
import Derived.Test.YtdfnfdgkhflonaaCuD
import Derived.Laws.EntriesVeiled
import Derived.Shelf.Abstract
namespace Go.Proofs.Ytdfnfdgkhflonaa
open Go.RowKit Go.Shelf
set_option linter.unusedVariables false

/-- A function that is entered. -/
def Enters (F : Nat) : Prop := ∀ args W, (callFunc F args).run Try.prog W = .ok (.enter F args) W
theorem enters_open : Enters 73 := enters_of Try.func73 (by kernel_rfl) rfl
theorem enters_up : Enters 72 := enters_of Try.func72 (by kernel_rfl) rfl
theorem enters_next : Enters 74 := enters_of Try.func74 (by kernel_rfl) rfl
theorem enters_seek : Enters 75 := enters_of Try.func75 (by kernel_rfl) rfl

theorem turn_new {w w2 : World} {cs : Array Value} {e : TypeId} {c : Nat} {rv rv' : Value} (hT : Turn (w.alloc (.cells cs e)) w2 c rv rv') (hc : c < w.heap.size) (hrv : ∀ b, rv.ownBlock = some b → b < w.heap.size) : w2.heap[w.heap.size]? = some (.cells cs e (0, 0)) := by
  refine (hT.block w.heap.size (by simp) (by omega) (fun h => ?_)).trans (box_new w cs e)
  have := hrv _ h.symm
  omega

set_option maxRecDepth 100000 in
set_option maxHeartbeats 2000000 in
theorem tries_ok {F : Nat} {w : World} {c : Nat} {key : Int} {rv : Value} {Q : Value → World → Prop} (hF : Enters F) (hc : c < w.heap.size) (hrv : ∀ b, rv.ownBlock = some b → b < w.heap.size)
    (hM : ∀ W, Below w.heap.size w W → Calls Try.prog F #[.pointer (some ⟨c, 0, none⟩), .int .u64 key] W fun e w' => e = .returned (.tuple #[]) ∧ ∃ rv', Turn W w' c rv rv' ∧ Q rv' w') :
    Calls Try.prog 69 #[.pointer (some ⟨c, 0, none⟩), .func (.func F) #[] #[], .int .u64 key] w fun e w' => e = .returned (.int .i64 0) ∧
      ∃ rv' w2, Q rv' w2 ∧ w' = w2.setCell ⟨w.heap.size, 0, none⟩ (.int .i64 0) ∧ Turn w w2 c rv rv' ∧ some w.heap.size ≠ rv'.ownBlock := by
  have hmf : ∀ (fn : Fn) (first cap : Array Value) (w : World), (Instr.makeFunc fn first cap).run Try.prog w = .ok (.func fn first cap) w := fun _ _ _ _ => rfl
  have HM := Lib.hid hM
  clear hM
  have hE := hF
  unfold Enters at hE
  go_enter_defers Try.func69, Try.ntmps69
  go_wp2_with (refine (HM.out _ (later_alloc w _)).mono ?_; rintro e w2 ⟨rfl, rv', hT, hQ⟩; have hb := turn_new hT hc hrv; have x0 := box_cell (i := 0) hb; have f0 := box_frozen (i := 0) hb; simp at x0)
  refine leaves_cons (f := 105) (args := #[.pointer (some ⟨w.heap.size, 0, none⟩)]) (by simp) (by simp [go_sem]) ?_
  refine (catch_idle _ _).mono ?_
  rintro e u' w'' ⟨rfl, rfl, rfl⟩
  have e1 : (w2.setCell ⟨w.heap.size, 0, none⟩ (.int .i64 0)).cell? ⟨w.heap.size, 0, none⟩ = some (.int .i64 0) := by simpa using box_cell (i := 0) (box_set (i := 0) hb (.int .i64 0))
  simp [Leaves, settle, results, Try.results69, go_sem]
  simp only [e1]
  refine ⟨_, rfl, rfl, rv', w2, hQ, rfl, (Turn.of_below (later_alloc w _) c rv).trans hT, fun h => ?_⟩
  rcases hT.rows with h1 | h1
  · have := hrv _ (h1 ▸ h.symm); omega
  · have := h1 _ h.symm; simp at this; omega

set_option maxRecDepth 100000 in
set_option maxHeartbeats 2000000 in
theorem tries_no {F : Nat} {w : World} {c : Nat} {key q : Int} (hF : Enters F)
    (hM : ∀ W, Below w.heap.size w W → Calls Try.prog F #[.pointer (some ⟨c, 0, none⟩), .int .u64 key] W fun e w' => e = .panicked (thrown q) ∧ Below W.heap.size W w') :
    Calls Try.prog 69 #[.pointer (some ⟨c, 0, none⟩), .func (.func F) #[] #[], .int .u64 key] w fun e w' => e = .returned (.int .i64 q) ∧ Below w.heap.size w w' := by
  have hmf : ∀ (fn : Fn) (first cap : Array Value) (w : World), (Instr.makeFunc fn first cap).run Try.prog w = .ok (.func fn first cap) w := fun _ _ _ _ => rfl
  have HM := Lib.hid hM
  clear hM
  have hE := hF
  unfold Enters at hE
  go_enter_defers Try.func69, Try.ntmps69
  go_wp2_with (refine (HM.out _ (later_alloc w _)).mono ?_; rintro e w2 ⟨rfl, hT⟩)
  have hb : w2.heap[w.heap.size]? = some (.cells #[.int .i64 0] 30 (0, 0)) := (hT.block w.heap.size (by simp)).trans (box_new w _ _)
  have x0 : w2.cell? ⟨w.heap.size, 0, none⟩ = some (.int .i64 0) := by simpa using box_cell (i := 0) hb
  refine leaves_cons (f := 105) (args := #[.pointer (some ⟨w.heap.size, 0, none⟩)]) (by simp) (by simp [go_sem]) ?_
  refine (catch_thrown ⟨w.heap.size, 0, none⟩ 0 q _ _ x0 (box_frozen hb)).mono ?_
  rintro e u' w'' ⟨rfl, rfl, rfl⟩
  have e1 : (w2.setCell ⟨w.heap.size, 0, none⟩ (.int .i64 q)).cell? ⟨w.heap.size, 0, none⟩ = some (.int .i64 q) := by simpa using box_cell (i := 0) (box_set (i := 0) hb (.int .i64 q))
  simp [Leaves, settle, results, Try.results69, go_sem]
  simp only [e1]
  exact ⟨_, rfl, rfl, (later_trans (later_alloc w _) hT).setCell (Nat.le_refl _) _⟩

set_option maxRecDepth 100000 in
set_option maxHeartbeats 2000000 in
theorem tries_nil {F : Nat} {w : World} {key : Int} :
    Calls Try.prog 69 #[.pointer none, .func (.func F) #[] #[], .int .u64 key] w fun e w' => e = .returned (.int .i64 1) ∧ Below w.heap.size w w' := by
  have hmf : ∀ (fn : Fn) (first cap : Array Value) (w : World), (Instr.makeFunc fn first cap).run Try.prog w = .ok (.func fn first cap) w := fun _ _ _ _ => rfl
  go_enter_defers Try.func69, Try.ntmps69
  go_wp2
  have e1 : (w.alloc (.cells #[.int .i64 1] 30)).cell? ⟨w.heap.size, 0, none⟩ = some (.int .i64 1) := by simp
  simp [bodyPostD, Leaves, results, Try.results69, go_sem]
  exact later_alloc w _
end Go.Proofs.Ytdfnfdgkhflonaa
