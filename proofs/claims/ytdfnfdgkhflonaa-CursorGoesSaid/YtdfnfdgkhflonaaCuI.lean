/-
  The cursor's moves of nothing, and by no kind; Depth, Left, Key, Steps.
-/
import Derived.Test.YtdfnfdgkhflonaaCuH
namespace Go.Proofs.Ytdfnfdgkhflonaa
open Go.RowKit
set_option linter.unusedVariables false

set_option maxHeartbeats 1000000 in
theorem Move_bad {w : World} {kind key : Int} (c : Nat) (hk : kind < 1 ∨ 4 < kind) :
    Calls Try.prog 20 #[.pointer (some ⟨c, 0, none⟩), .agg #[.int .i64 kind, .int .u64 key]] w fun e w' => e = .returned (.int .i64 180) ∧ Below w.heap.size w w' := by
  by_cases h1 : kind < 1
  · clear hk
    go_enter Try.func20, Try.ntmps20
    go_wp2
    go_ret
    exact ⟨rfl, later_alloc w _⟩
  · have h4 : 4 < kind := by omega
    clear hk
    go_enter Try.func20, Try.ntmps20
    go_wp2
    go_ret
    exact ⟨rfl, later_alloc w _⟩
set_option maxHeartbeats 1000000 in
theorem Move_nil {w : World} {kind key : Int} :
    Calls Try.prog 20 #[.pointer none, .agg #[.int .i64 kind, .int .u64 key]] w fun e w' => e = .returned (.int .i64 1) ∧ Below w.heap.size w w' := by
  go_enter Try.func20, Try.ntmps20
  go_wp2
  go_ret
  exact ⟨rfl, later_alloc w _⟩
set_option maxHeartbeats 1000000 in
theorem Open_nil {w : World} : Calls Try.prog 26 #[.pointer none] w fun e w' => e = .returned (.int .i64 1) ∧ Below w.heap.size w w' := by
  go_enter Try.func26, Try.ntmps26
  go_wp2_with (refine tries_nil.mono ?_; rintro e w' ⟨rfl, hW⟩)
  go_ret
  exact ⟨rfl, hW⟩
set_option maxHeartbeats 1000000 in
theorem Up_nil {w : World} : Calls Try.prog 25 #[.pointer none] w fun e w' => e = .returned (.int .i64 1) ∧ Below w.heap.size w w' := by
  go_enter Try.func25, Try.ntmps25
  go_wp2_with (refine tries_nil.mono ?_; rintro e w' ⟨rfl, hW⟩)
  go_ret
  exact ⟨rfl, hW⟩
set_option maxHeartbeats 1000000 in
theorem Next_nil {w : World} : Calls Try.prog 27 #[.pointer none] w fun e w' => e = .returned (.int .i64 1) ∧ Below w.heap.size w w' := by
  go_enter Try.func27, Try.ntmps27
  go_wp2_with (refine tries_nil.mono ?_; rintro e w' ⟨rfl, hW⟩)
  go_ret
  exact ⟨rfl, hW⟩
set_option maxHeartbeats 1000000 in
theorem Seek_nil {w : World} {key : Int} : Calls Try.prog 28 #[.pointer none, .int .u64 key] w fun e w' => e = .returned (.int .i64 1) ∧ Below w.heap.size w w' := by
  go_enter Try.func28, Try.ntmps28
  go_wp2_with (refine tries_nil.mono ?_; rintro e w' ⟨rfl, hW⟩)
  go_ret
  exact ⟨rfl, hW⟩

theorem Depth_nil {w : World} : Calls Try.prog 22 #[.pointer none] w fun e w' => e = .returned (.int .i64 0) ∧ w = w' := by
  go_enter Try.func22, Try.ntmps22
  go_wp2
  go_ret
  exact ⟨rfl, rfl⟩
theorem Steps_nil {w : World} : Calls Try.prog 19 #[.pointer none] w fun e w' => e = .returned (.int .i64 0) ∧ w = w' := by
  go_enter Try.func19, Try.ntmps19
  go_wp2
  go_ret
  exact ⟨rfl, rfl⟩
theorem Left_nil {w : World} : Calls Try.prog 23 #[.pointer none] w fun e w' => e = .returned (.int .i64 0) ∧ w = w' := by
  have hD := fun W => @Depth_nil W
  go_enter Try.func23, Try.ntmps23
  go_wp2_with (refine (hD _).mono ?_; rintro e w' ⟨rfl, rfl⟩)
  go_ret
  exact ⟨rfl, rfl⟩
theorem Key_nil {w : World} : Calls Try.prog 29 #[.pointer none] w fun e w' => e = .returned (.tuple #[.int .u64 0, .bool false]) ∧ w = w' := by
  have hD := fun W => @Left_nil W
  go_enter Try.func29, Try.ntmps29
  go_wp2_with (refine (hD _).mono ?_; rintro e w' ⟨rfl, rfl⟩)
  go_ret2
  exact ⟨rfl, rfl⟩
theorem Path_nil {w : World} : Calls Try.prog 21 #[.pointer none] w fun e w' => e = .returned (.slice none 0 0) ∧ w = w' := by
  go_enter Try.func21, Try.ntmps21
  go_wp2
  go_ret
  exact ⟨rfl, rfl⟩

theorem depth_at (c n cap : Nat) (a : Option Addr) (w : World) (h : w.cell? ⟨c, 0, none⟩ = some (.slice a n cap)) :
    Calls Try.prog 22 #[.pointer (some ⟨c, 0, none⟩)] w fun e w' => e = .returned (.int .i64 n) ∧ w = w' := by
  go_enter Try.func22, Try.ntmps22
  go_wp2
  go_ret
  exact ⟨rfl, rfl⟩
theorem steps_at (c : Nat) (st : Int) (w : World) (h : w.cell? ⟨c, 1, none⟩ = some (.int .i64 st)) :
    Calls Try.prog 19 #[.pointer (some ⟨c, 0, none⟩)] w fun e w' => e = .returned (.int .i64 st) ∧ w = w' := by
  go_enter Try.func19, Try.ntmps19
  go_wp2
  go_ret
  exact ⟨rfl, rfl⟩
theorem left_none (c cap : Nat) (a : Option Addr) (w : World) (h : w.cell? ⟨c, 0, none⟩ = some (.slice a 0 cap)) :
    Calls Try.prog 23 #[.pointer (some ⟨c, 0, none⟩)] w fun e w' => e = .returned (.int .i64 0) ∧ ∃ n, w' = w.drewN n := by
  have hD := fun W h => depth_at c 0 cap a W h
  go_enter Try.func23, Try.ntmps23
  go_wp2_with (refine (hD _ h).mono ?_; rintro e w' ⟨rfl, rfl⟩)
  go_ret
  exact ⟨rfl, 0, rfl⟩
set_option maxHeartbeats 1000000 in
theorem left_at (c g k cap len kc i : Nat) (ka : Option Addr) (w : World) (hk : k < 2) (h : w.cell? ⟨c, 0, none⟩ = some (.slice (some ⟨g, 0, none⟩) (k + 1) cap))
    (hv : w.cell? ⟨g, k * 2, none⟩ = some (.slice ka len kc)) (ha : w.cell? ⟨g, k * 2 + 1, none⟩ = some (.int .i64 i)) (hlt : i ≤ len) (hl : len ≤ maxLen) :
    Calls Try.prog 23 #[.pointer (some ⟨c, 0, none⟩)] w fun e w' => e = .returned (.int .i64 ((len - i : Nat) : Int)) ∧ ∃ n, w' = w.drewN n := by
  have hD := fun W h => depth_at c (k + 1) cap (some ⟨g, 0, none⟩) W h
  have hT := fun w h => top_ok c g k cap w hk h
  have hm : len ≤ 9223372036854775807 := hl
  have e1 : ((k : Int) + 1 == 0) = false := by rw [beq_eq_false_iff_ne]; omega
  have e2 : ((len - i : Nat) : Int) = (len : Int) - i := by omega
  rw [e2]
  go_enter Try.func23, Try.ntmps23
  go_wp2_with (first
    | (go_at_call 22; refine (hD _ h).mono ?_; rintro e w' ⟨rfl, rfl⟩)
    | (go_at_call 71; refine (hT _ h).mono ?_; rintro e w' ⟨rfl, n, rfl⟩))
  go_quiet (fail)
  go_wp2
  go_ret
  exact ⟨rfl, _, World.drewN_drewN _ _ _⟩
theorem key_none (c : Nat) (w : World) (hL : Calls Try.prog 23 #[.pointer (some ⟨c, 0, none⟩)] w fun e w' => e = .returned (.int .i64 0) ∧ ∃ n, w' = w.drewN n) :
    Calls Try.prog 29 #[.pointer (some ⟨c, 0, none⟩)] w fun e w' => e = .returned (.tuple #[.int .u64 0, .bool false]) ∧ ∃ n, w' = w.drewN n := by
  have HL := Lib.hid hL
  clear hL
  go_enter Try.func29, Try.ntmps29
  go_wp2_with (refine HL.out.mono ?_; rintro e w' ⟨rfl, n, rfl⟩)
  go_ret2
  exact ⟨rfl, n, rfl⟩
set_option maxHeartbeats 1000000 in
theorem key_at (c g k cap len kc i b o : Nat) (x : Int) (w : World) (hk : k < 2) (h : w.cell? ⟨c, 0, none⟩ = some (.slice (some ⟨g, 0, none⟩) (k + 1) cap))
    (hv : w.cell? ⟨g, k * 2, none⟩ = some (.slice (some ⟨b, o, none⟩) len kc)) (ha : w.cell? ⟨g, k * 2 + 1, none⟩ = some (.int .i64 i)) (hlt : i < len) (hl : len ≤ maxLen) (hx : w.cell? ⟨b, o + i, none⟩ = some (.int .u64 x)) :
    Calls Try.prog 29 #[.pointer (some ⟨c, 0, none⟩)] w fun e w' => e = .returned (.tuple #[.int .u64 x, .bool true]) ∧ ∃ n, w' = w.drewN n := by
  have hL := fun W h h1 h2 => left_at c g k cap len kc i (some ⟨b, o, none⟩) W hk h h1 h2 (by omega) hl
  have hT := fun w h => top_ok c g k cap w hk h
  have e1 : (((len - i : Nat) : Int) == 0) = false := by rw [beq_eq_false_iff_ne]; omega
  have hlt' : (i : Int) < len := by omega
  obtain ⟨d, hd⟩ : ∃ d : Int, ((len - i : Nat) : Int) = d := ⟨_, rfl⟩
  simp only [hd] at hL e1
  clear hd
  go_enter Try.func29, Try.ntmps29
  go_wp2_with (first
    | (go_at_call 23; refine (hL _ h hv ha).mono ?_; rintro e w' ⟨rfl, n, rfl⟩)
    | (go_at_call 71; refine (hT (w.drewN n) h).mono ?_; rintro e w' ⟨rfl, n2, rfl⟩))
  go_quiet (fail)
  go_wp2
  go_ret2
  exact ⟨rfl, _, by simp [World.drewN_drewN]; rfl⟩
end Go.Proofs.Ytdfnfdgkhflonaa
