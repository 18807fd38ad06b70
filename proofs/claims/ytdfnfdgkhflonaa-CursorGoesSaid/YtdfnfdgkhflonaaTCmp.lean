/-
  How pairs stand, and which rows of pairs are runs: cmp.Compare, cmp.Or of two, run.Compare, run.Check, walked.
-/
import Derived.Test.YtdfnfdgkhflonaaRows
import Derived.WalkKit
import Derived.WalkSpells
import Derived.WalkLawsBesides
import Derived.Deep.QuietTactic
import Derived.BigQuiet
import Derived.Outline
import Derived.WalkMore
import Derived.Deep.RegionHeld3
import Derived.Test.YtdfnfdgkhflonaaBase
import Derived.Test.YtdfnfdgkhflonaaBase2
namespace Go.Proofs.Ytdfnfdgkhflonaa
open Go.RowKit
set_option linter.unusedVariables false

def cmpI (x y : Int) : Int := if x < y then -1 else if y < x then 1 else 0
theorem isNaN_any (x : Int) (w : World) : Calls Try.prog 117 #[.int .u64 x] w fun e w' => e = .returned (.bool false) ∧ w' = w := by
  have h : (x != x) = false := by simp
  go_enter Try.func117, Try.ntmps117
  go_wp2
  go_ret
  exact ⟨rfl, rfl⟩
theorem cmpI_any (x y : Int) (w : World) : Calls Try.prog 88 #[.int .u64 x, .int .u64 y] w fun e w' => e = .returned (.int .i64 (cmpI x y)) ∧ w' = w := by
  go_enter Try.func88, Try.ntmps88
  go_wp2_with (go_at_call 117; refine (isNaN_any _ _).mono ?_; rintro e w' ⟨rfl, rfl⟩)
  · go_ret
    have h : x < y := by assumption
    exact ⟨by simp only [cmpI, if_pos h]; rfl, rfl⟩
  · go_ret
    have h : ¬ x < y := by omega
    have h' : y < x := by assumption
    exact ⟨by simp only [cmpI, if_neg h, if_pos h']; rfl, rfl⟩
  · go_ret
    have h : ¬ x < y := by omega
    have h' : ¬ y < x := by omega
    exact ⟨by simp only [cmpI, if_neg h, if_neg h']; rfl, rfl⟩

def or2 (x y : Int) : Int := if x = 0 then y else x
theorem or2_any (x y : Int) (n : Nat) (W : World) (h0 : W.cell? ⟨n, 0, none⟩ = some (.int .i64 x)) (h1 : W.cell? ⟨n, 1, none⟩ = some (.int .i64 y)) : Calls Try.prog 133 #[.slice (some ⟨n, 0, none⟩) 2 2] W fun e w' => e = .returned (.int .i64 (or2 x y)) ∧ w' = W := by
  go_enter Try.func133, Try.ntmps133
  go_wp2
  go_loopw [8] (fun i wr => (i = .int .i64 0 ∨ (i = .int .i64 1 ∧ x = 0) ∨ (i = .int .i64 2 ∧ x = 0 ∧ y = 0)) ∧ wr = W) (fun i _ => 2 - (intOf i).toNat)
  case atStart => exact ⟨Or.inl rfl, rfl⟩
  case round =>
    obtain ⟨hk, rfl⟩ := hrel
    rcases hk with rfl | ⟨rfl, rfl⟩ | ⟨rfl, rfl, rfl⟩
    · by_cases hx : x = 0
      · have hx' : (x != 0) = false := by simp [hx]
        go_wp2
        go_roundw
        case rel => exact ⟨Or.inr (Or.inl ⟨by go_num, hx⟩), trivial⟩
        case measure => simp [intOf]
      · have hx' : (x != 0) = true := by simp [hx]
        go_wp2
        go_ret
        exact ⟨by simp only [or2, if_neg hx]; rfl, rfl⟩
    · by_cases hx : y = 0
      · have hx' : (y != 0) = false := by simp [hx]
        go_wp2
        go_roundw
        case rel => exact ⟨Or.inr (Or.inr ⟨by go_num, trivial, hx⟩), trivial⟩
        case measure => simp [intOf]
      · have hx' : (y != 0) = true := by simp [hx]
        go_wp2
        go_ret
        exact ⟨by simp only [or2, if_pos]; rfl, rfl⟩
    · go_wp2
      go_ret
      exact ⟨by simp only [or2, if_pos]; rfl, rfl⟩

def cmpP (p q : Pr) : Int := or2 (cmpI p.a q.a) (cmpI p.b q.b)
/-- A pair stands ahead of another one. -/
def Ahd (p q : Pr) : Prop := p.a < q.a ∨ (p.a = q.a ∧ p.b < q.b)
theorem cmpP_lt (p q : Pr) : cmpP p q < 0 ↔ Ahd p q := by
  unfold cmpP or2 cmpI Ahd
  split <;> (repeat' split at *) <;> omega

set_option maxRecDepth 100000 in
set_option maxHeartbeats 2000000 in
theorem cmpP_any (p q : Pr) (w : World) : Calls Try.prog 111 #[.agg #[.int .u64 p.a, .int .u64 p.b], .agg #[.int .u64 q.a, .int .u64 q.b]] w fun e w' => e = .returned (.int .i64 (cmpP p q)) ∧ Below w.heap.size w w' := by
  go_enter Try.func111, Try.ntmps111
  go_wp2
  obtain ⟨W, hW⟩ : ∃ W, (w.alloc (.cells #[.int .u64 p.a, .int .u64 p.b] 59)).alloc (.cells #[.int .u64 q.a, .int .u64 q.b] 59) = W := ⟨_, rfl⟩
  have hb : Below w.heap.size w W := by rw [← hW]; exact later_trans (later_alloc w _) (later_alloc _ _)
  have hsz : W.heap.size = w.heap.size + 2 := by rw [← hW]; simp
  have h0 : W.cell? ⟨w.heap.size, 0, none⟩ = some (.int .u64 p.a) := by rw [← hW]; simp
  have h1 : W.cell? ⟨w.heap.size, 1, none⟩ = some (.int .u64 p.b) := by rw [← hW]; simp
  have h2 : W.cell? ⟨w.heap.size + 1, 0, none⟩ = some (.int .u64 q.a) := by rw [← hW]; simp
  have h3 : W.cell? ⟨w.heap.size + 1, 1, none⟩ = some (.int .u64 q.b) := by rw [← hW]; simp
  rw [hW]
  have hn0 : w.heap.size < W.heap.size := by omega
  have hn1 : w.heap.size + 1 < W.heap.size := by omega
  clear hW hsz
  go_region_held3 (fun W' => W'.cell? ⟨w.heap.size, 0, none⟩ = some (.int .u64 p.a) ∧ W'.cell? ⟨w.heap.size, 1, none⟩ = some (.int .u64 p.b) ∧ W'.cell? ⟨w.heap.size + 1, 0, none⟩ = some (.int .u64 q.a) ∧ W'.cell? ⟨w.heap.size + 1, 1, none⟩ = some (.int .u64 q.b))
    (first | exact ⟨h0, h1, h2, h3⟩ | assumption | (go_keep; done))
    (first
      | (go_at_call 88; refine (cmpI_any _ _ _).mono ?_; rintro e wB ⟨rfl, rfl⟩)
      | (go_at_call 133; refine (or2_any (cmpI p.a q.a) (cmpI p.b q.b) _ _ (by simp) (by simp)).mono ?_; rintro e wB ⟨rfl, rfl⟩))
  all_goals go_wp2
  all_goals go_ret
  all_goals exact ⟨rfl, later_trans hb (later_trans (later_alloc W _) (later_drew _))⟩
end Go.Proofs.Ytdfnfdgkhflonaa
