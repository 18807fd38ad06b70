/-
  The law's small relations, and whether the layer does anything.
-/
import Derived.Test.YtdeiinfljfgmeaaHaOwn
namespace Go.Proofs.Ytdeiinfljfgmeaa
open Go.RowKit
set_option linter.unusedVariables false
set_option linter.unusedSimpArgs false

def smallA : Rl := ⟨[0, 1], [[1, 2], [1, 3], [4, 2]]⟩
def smallB : Rl := ⟨[1, 2], [[2, 7], [3, 8], [3, 9]]⟩
theorem lit_at {w : World} {base g n : Nat} {cs : Array Value} {e : TypeId} (hg : w.heap.size = g) (hb : base ≤ g) (hn : cs.size = n) (hm : n ≤ maxLen) : (w.alloc (.cells cs e)).ownsRow base e 1 (.slice (some ⟨g, 0, none⟩) n n) n cs.toList := by
  subst hg
  exact World.ownsRow_lit w cs n hb hm (by rw [hn, Nat.mul_one])
theorem wf2 {a b x : Int} (h : x ∈ [a, b]) (ha : (Lit.int .u64 a).wf = true := by decide) (hb : (Lit.int .u64 b).wf = true := by decide) : (Lit.int .u64 x).wf = true := by
  simp only [List.mem_cons, List.not_mem_nil, or_false] at h
  rcases h with rfl | rfl
  · exact ha
  · exact hb
set_option maxRecDepth 100000 in
set_option maxHeartbeats 4000000 in
theorem small_any (w : World) :
    Calls Try.prog 32 #[] w fun e w' => ∃ v1 v2 u1 u2, e = .returned (.tuple #[relV v1 v2, relV u1 u2]) ∧ OwnRl w.heap.size w' v1 v2 smallA ∧ OwnRl w.heap.size w' u1 u2 smallB ∧ Below w.heap.size w w' := by
  go_enter Try.func32, Try.ntmps32
  go_wp2_with fail
  refine bodyPost_ret (v := .tuple #[relV (.slice (some ⟨w.heap.size + 1 + 1, 0, none⟩) 2 2) (.slice (some ⟨w.heap.size + 1 + 1 + 1 + 1 + 1 + 1, 0, none⟩) 3 3), relV (.slice (some ⟨w.heap.size + 1 + 1 + 1 + 1 + 1 + 1 + 1, 0, none⟩) 2 2) (.slice (some ⟨w.heap.size + 1 + 1 + 1 + 1 + 1 + 1 + 1 + 1 + 1 + 1 + 1, 0, none⟩) 3 3)]) (by simp [results, Try.results32, go_sem]) rfl ?_
  refine ⟨_, _, _, _, rfl, ⟨?_, fun x hx => ?_, [((.slice (some ⟨w.heap.size + 1 + 1 + 1, 0, none⟩) 2 2), [1, 2]), ((.slice (some ⟨w.heap.size + 1 + 1 + 1 + 1, 0, none⟩) 2 2), [1, 3]), ((.slice (some ⟨w.heap.size + 1 + 1 + 1 + 1 + 1, 0, none⟩) 2 2), [4, 2])], ⟨?_, fun p hp => ?_⟩, rfl⟩, ⟨?_, fun x hx => ?_, [((.slice (some ⟨w.heap.size + 1 + 1 + 1 + 1 + 1 + 1 + 1 + 1, 0, none⟩) 2 2), [2, 7]), ((.slice (some ⟨w.heap.size + 1 + 1 + 1 + 1 + 1 + 1 + 1 + 1 + 1, 0, none⟩) 2 2), [3, 8]), ((.slice (some ⟨w.heap.size + 1 + 1 + 1 + 1 + 1 + 1 + 1 + 1 + 1 + 1, 0, none⟩) 2 2), [3, 9])], ⟨?_, fun p hp => ?_⟩, rfl⟩, ?_⟩
  · exact ((((((((((lit_at (by simp) (by omega) rfl (Nat.le_of_ble_eq_true rfl)).alloc _).alloc _).alloc _).alloc _).alloc _).alloc _).alloc _).alloc _).alloc _)
  · revert x; decide
  · exact ((((((lit_at (by simp) (by omega) rfl (Nat.le_of_ble_eq_true rfl)).alloc _).alloc _).alloc _).alloc _).alloc _)
  · simp only [List.mem_cons, List.not_mem_nil, or_false] at hp
    rcases hp with rfl | rfl | rfl
    · exact ⟨(((((((((lit_at (by simp) (by omega) rfl (Nat.le_of_ble_eq_true rfl)).alloc _).alloc _).alloc _).alloc _).alloc _).alloc _).alloc _).alloc _), fun x hx => wf2 hx⟩
    · exact ⟨((((((((lit_at (by simp) (by omega) rfl (Nat.le_of_ble_eq_true rfl)).alloc _).alloc _).alloc _).alloc _).alloc _).alloc _).alloc _), fun x hx => wf2 hx⟩
    · exact ⟨(((((((lit_at (by simp) (by omega) rfl (Nat.le_of_ble_eq_true rfl)).alloc _).alloc _).alloc _).alloc _).alloc _).alloc _), fun x hx => wf2 hx⟩
  · exact (((((lit_at (by simp) (by omega) rfl (Nat.le_of_ble_eq_true rfl)).alloc _).alloc _).alloc _).alloc _)
  · revert x; decide
  · exact (lit_at (by simp) (by omega) rfl (Nat.le_of_ble_eq_true rfl))
  · simp only [List.mem_cons, List.not_mem_nil, or_false] at hp
    rcases hp with rfl | rfl | rfl
    · exact ⟨((((lit_at (by simp) (by omega) rfl (Nat.le_of_ble_eq_true rfl)).alloc _).alloc _).alloc _), fun x hx => wf2 hx⟩
    · exact ⟨(((lit_at (by simp) (by omega) rfl (Nat.le_of_ble_eq_true rfl)).alloc _).alloc _), fun x hx => wf2 hx⟩
    · exact ⟨((lit_at (by simp) (by omega) rfl (Nat.le_of_ble_eq_true rfl)).alloc _), fun x hx => wf2 hx⟩
  · repeat (first | exact Below.refl _ _ | refine Below.alloc ?_ (by simp; try omega) _)
def joinA : Rl := ⟨[0, 1, 2], [[1, 2, 7], [1, 3, 8], [1, 3, 9], [4, 2, 7]]⟩
def pickA : Rl := ⟨[0, 1], [[4, 2]]⟩
def semiA : Rl := ⟨[1, 2], [[2, 7]]⟩
set_option maxRecDepth 100000 in
theorem join_small : joinL smallA smallB = joinA := by kernel_rfl
set_option maxRecDepth 100000 in
theorem pick_small : pickL smallA 0 4 = pickA := by kernel_rfl
set_option maxRecDepth 100000 in
theorem semi_small : semiL smallB pickA = semiA := by kernel_rfl
set_option maxRecDepth 100000 in
theorem right_small : rightB smallA = true ∧ rightB smallB = true ∧ rightB pickA = true := ⟨by kernel_rfl, by kernel_rfl, by kernel_rfl⟩
theorem OwnRl.shape {base : Nat} {W : World} {v1 v2 : Value} {R : Rl} (h : OwnRl base W v1 v2 R) : ∃ a c b d, v1 = .slice a R.vars.length c ∧ v2 = .slice b R.rows.length d := by
  obtain ⟨ps, h1, h2⟩ := h.rows
  obtain ⟨a, c, e⟩ := owns_shape2 h.vars
  obtain ⟨b, d, e'⟩ := owns_shape2 h1.own
  exact ⟨a, c, b, d, e, by rw [e', ← h2, List.length_map]⟩
end Go.Proofs.Ytdeiinfljfgmeaa
