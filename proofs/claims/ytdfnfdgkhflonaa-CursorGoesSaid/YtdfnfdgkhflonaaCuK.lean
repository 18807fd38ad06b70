/-
  What a cursor answers, by its plain state.
-/
import Derived.Test.YtdfnfdgkhflonaaCuJ
namespace Go.Proofs.Ytdfnfdgkhflonaa
open Go.RowKit
set_option linter.unusedVariables false

/-- The rows of a cursor, and its places. -/
def rowsR (bs : List Br) (ls : List Int) : List Nat → List (List Int × Nat)
  | [i] => [(keysOf bs, i)]
  | [i, j] => [(keysOf bs, i), (leavesOf ls (bs.getD i Br.no), j)]
  | _ => []
/-- Its path. -/
def pathOf (bs : List Br) (ls : List Int) (ats : List Nat) : List Int := pathR (rowsR bs ls ats)
/-- How many places are left. -/
def leftOf (bs : List Br) (ls : List Int) (ats : List Nat) : Nat := (rowAt bs ls ats).length - lastAt ats
/-- The number where it stands, and whether there is one. -/
def keyOf (bs : List Br) (ls : List Int) (ats : List Nat) : Int := if lastAt ats < (rowAt bs ls ats).length then (rowAt bs ls ats).getD (lastAt ats) 0 else 0
def isKey (bs : List Br) (ls : List Int) (ats : List Nat) : Bool := decide (lastAt ats < (rowAt bs ls ats).length)

section
variable {w : World} {C : Nat → Prop} {c N : Nat} {rv : Value} {bs : List Br} {ls : List Int} {ats : List Nat} {st : Int}
theorem CuM.len (h : CuM w C c N rv bs ls ats st) : ats.length ≤ 2 := by
  obtain ⟨kv, bv, lv, rs, hS, hC, h1, h2, h3, l1, l2, l3, hR⟩ := h
  match ats, hR with
  | [], _ => simp
  | [i], _ => simp
  | [i, j], _ => simp
theorem CuM.bound (h : CuM w C c N rv bs ls ats st) (hT : TrieS bs ls) : lastAt ats ≤ (rowAt bs ls ats).length ∧ (rowAt bs ls ats).length ≤ 1048576 := by
  obtain ⟨kv, bv, lv, rs, hS, hC, h1, h2, h3, l1, l2, l3, hR⟩ := h
  rcases rows_last hT h1 hR with ⟨rfl, rfl⟩ | ⟨rs0, v, rfl, r0, ra, r1, r2, r3, r4, r5, r6⟩
  · exact ⟨Nat.zero_le _, by simp [rowAt]⟩
  · exact ⟨r2, r4⟩
theorem Depth_any (h : CuM w C c N rv bs ls ats st) :
    Calls Try.prog 22 #[.pointer (some ⟨c, 0, none⟩)] w fun e w' => e = .returned (.int .i64 ats.length) ∧ w = w' := by
  obtain ⟨kv, bv, lv, rs, hS, hC, h1, h2, h3, l1, l2, l3, hR⟩ := h
  have e : rs.length = ats.length := by
    match ats, hR with
    | [], hR => rw [show rs = [] from hR]; rfl
    | [i], hR => rw [hR.1]; rfl
    | [i, j], ⟨_, _, hr, _⟩ => rw [hr]; rfl
  obtain ⟨a, cap, rfl⟩ := owns_shape2 hS.own
  rw [← e]
  exact depth_at c _ cap a w hS.cells.1
theorem Steps_any (h : CuM w C c N rv bs ls ats st) :
    Calls Try.prog 19 #[.pointer (some ⟨c, 0, none⟩)] w fun e w' => e = .returned (.int .i64 st) ∧ w = w' := by
  obtain ⟨kv, bv, lv, rs, hS, hC, h1, h2, h3, l1, l2, l3, hR⟩ := h
  exact steps_at c st w hS.cells.2.1
theorem Left_any (h : CuM w C c N rv bs ls ats st) (hT : TrieS bs ls) :
    Calls Try.prog 23 #[.pointer (some ⟨c, 0, none⟩)] w fun e w' => e = .returned (.int .i64 (leftOf bs ls ats : Nat)) ∧ ∃ n, w' = w.drewN n := by
  obtain ⟨kv, bv, lv, rs, hS, hC, h1, h2, h3, l1, l2, l3, hR⟩ := h
  rcases rows_last hT h1 hR with ⟨rfl, rfl⟩ | ⟨rs0, v, rfl, r0, ra, r1, r2, r3, r4, r5, r6⟩
  · obtain ⟨a, cap, rfl⟩ := hS.bare
    exact left_none c cap a w hS.cells.1
  · obtain ⟨ka, kc, rfl, k1, k2, k3⟩ := r1.open'
    obtain ⟨g, cap, rfl, hN, hg, hc0, hc1, hf, hcap, hcm⟩ := hS.last rfl
    exact left_at c g _ cap _ kc _ ka w r0 hS.cells.1 hc0 hc1 r2 (by unfold maxLen; omega)
theorem Key_any (h : CuM w C c N rv bs ls ats st) (hT : TrieS bs ls) :
    Calls Try.prog 29 #[.pointer (some ⟨c, 0, none⟩)] w fun e w' => e = .returned (.tuple #[.int .u64 (keyOf bs ls ats), .bool (isKey bs ls ats)]) ∧ ∃ n, w' = w.drewN n := by
  have hL := Left_any h hT
  have hb := h.bound hT
  by_cases hlt : lastAt ats < (rowAt bs ls ats).length
  · rw [keyOf, isKey, if_pos hlt, decide_eq_true hlt]
    obtain ⟨kv, bv, lv, rs, hS, hC, h1, h2, h3, l1, l2, l3, hR⟩ := h
    rcases rows_last hT h1 hR with ⟨rfl, rfl⟩ | ⟨rs0, v, rfl, r0, ra, r1, r2, r3, r4, r5, r6⟩
    · simp [rowAt] at hlt
    · obtain ⟨ka, kc, rfl, k1, k2, k3⟩ := r1.open'
      obtain ⟨b, o, rfl, hbb, hbc⟩ := k3 (by omega)
      obtain ⟨g, cap, rfl, hN, hg, hc0, hc1, hf, hcap, hcm⟩ := hS.last rfl
      have := key_at c g _ cap _ kc _ b o _ w r0 hS.cells.1 hc0 hc1 hlt (by unfold maxLen; omega) (hbc _ hlt)
      simpa [List.getD, List.getElem?_eq_getElem hlt] using this
  · rw [keyOf, isKey, if_neg hlt, decide_eq_false hlt]
    refine key_none c w ?_
    have e : leftOf bs ls ats = 0 := by unfold leftOf; omega
    rw [e] at hL
    exact hL
theorem Path_any (h : CuM w C c N rv bs ls ats st) :
    Calls Try.prog 21 #[.pointer (some ⟨c, 0, none⟩)] w fun e w' => ∃ v', e = .returned v' ∧ w'.ownsRow w.heap.size 38 1 v' (pathOf bs ls ats).length ((pathOf bs ls ats).map (.int .u64)) ∧ Below w.heap.size w w' := by
  obtain ⟨kv, bv, lv, rs, hS, hC, h1, h2, h3, l1, l2, l3, hR⟩ := h
  match ats, hR with
  | [], hR =>
    have hR : rs = [] := hR
    subst hR
    exact path_at (xs := rowsR bs ls []) hS ⟨rfl, fun i h => by simp at h⟩ (by simp)
  | [i], ⟨hR, _⟩ =>
    subst hR
    refine path_at (xs := rowsR bs ls [i]) hS ⟨rfl, fun j h h' => ?_⟩ (by simp)
    obtain rfl : j = 0 := by simp at h; exact h
    exact ⟨rfl, h1⟩
  | [i, j], ⟨_, v2, hR, r1, _⟩ =>
    subst hR
    refine path_at (xs := rowsR bs ls [i, j]) hS ⟨rfl, fun k h h' => ?_⟩ (by simp)
    have hk : k = 0 ∨ k = 1 := by simp at h; omega
    rcases hk with rfl | rfl
    · exact ⟨rfl, h1⟩
    · exact ⟨rfl, r1⟩
end
end Go.Proofs.Ytdfnfdgkhflonaa
