/-
  Rows of moves; what the laws' walks share.
-/
import Derived.Test.YtdfnfdgkhflonaaCuP
import Derived.Test.YtdfnfdgkhflonaaCuOwn
namespace Go.Proofs.Ytdfnfdgkhflonaa
open Go.RowKit
set_option linter.unusedVariables false

/-- A move. -/
structure Mv where
  kind : Int
  key : Int
def Mv.cells (m : Mv) : List Value := [.int .i64 m.kind, .int .u64 m.key]
theorem Mv.len (m : Mv) : m.cells.length = 2 := rfl
/-- A slice of moves, read. -/
def SlM (w : World) (v : Value) (ms : List Mv) : Prop := SlT Mv.cells 2 w v ms
theorem SlM.open {w : World} {v : Value} {ms : List Mv} (h : SlM w v ms) :
    ∃ (a : Option Addr) (c : Nat), v = .slice a ms.length c ∧ ms.length ≤ c ∧ c ≤ 9223372036854775807 ∧ (a = none → c = 0) ∧
      (0 < ms.length → ∃ b o, a = some ⟨b, o, none⟩ ∧ b < w.heap.size ∧ ∀ i, (hi : i < ms.length) → w.cell? ⟨b, o + i * 2, none⟩ = some (.int .i64 ms[i].kind) ∧ w.cell? ⟨b, o + i * 2 + 1, none⟩ = some (.int .u64 ms[i].key)) := by
  obtain ⟨a, c, e, h1, h2, h3, h4⟩ := SlT.open Mv.len h
  refine ⟨a, c, e, h1, h2, h3, fun h0 => ?_⟩
  obtain ⟨b, o, e1, hlt, hc⟩ := h4 h0
  exact ⟨b, o, e1, hlt, fun i hi => ⟨hc i hi 0 _ rfl, hc i hi 1 _ rfl⟩⟩

theorem steps_bound {bs : List Br} {ls : List Int} {kind key n : Int} {ats : List Nat} (h : Steps bs ls kind key ats n) (hb : lastAt ats ≤ (rowAt bs ls ats).length ∧ (rowAt bs ls ats).length ≤ 1048576) : 0 ≤ n ∧ n ≤ 2000 := by
  unfold Steps at h
  split at h
  · omega
  · split at h
    · obtain ⟨looks, ⟨h1, -⟩, rfl⟩ := h
      have hp : place (rowAt bs ls ats) (lastAt ats) (geB key) ≤ (rowAt bs ls ats).length := place_le hb.1
      have hg : lastAt ats ≤ place (rowAt bs ls ats) (lastAt ats) (geB key) := place_ge
      by_cases hi : lastAt ats = (rowAt bs ls ats).length
      · have := h1.1 hi; omega
      · have := few_bound h1 (by omega) (by omega) hp hg; omega
    · omega
theorem Cur1.bound {B : Nat} {w : World} {c : Nat} {bs : List Br} {ls : List Int} {ats : List Nat} {st : Int} (h : Cur1 B w c bs ls ats st) (hT : TrieS bs ls) : lastAt ats ≤ (rowAt bs ls ats).length ∧ (rowAt bs ls ats).length ≤ 1048576 := by
  obtain ⟨N, rv, h1, _⟩ := h; exact h1.bound hT
theorem Cur1.len {B : Nat} {w : World} {c : Nat} {bs : List Br} {ls : List Int} {ats : List Nat} {st : Int} (h : Cur1 B w c bs ls ats st) : ats.length ≤ 2 := by
  obtain ⟨N, rv, h1, _⟩ := h; exact h1.len
/-- The numbers of a path may be. -/
theorem path_wf {B : Nat} {w : World} {c : Nat} {bs : List Br} {ls : List Int} {ats : List Nat} {st : Int} (h : Cur1 B w c bs ls ats st) : ∀ x ∈ pathOf bs ls ats, (Lit.int .u64 x).wf = true := by
  obtain ⟨N, rv, ⟨kv, bv, lv, rs, hS, hC, h1, h2, h3, l1, l2, l3, hR⟩, _⟩ := h
  have hk := h1.2
  have hl := h3.2
  have hkx : ∀ (i : Nat), ∀ x ∈ ((keysOf bs).drop i).take 1, (Lit.int .u64 x).wf = true := fun i x hx => hk x (List.mem_of_mem_drop (List.mem_of_mem_take hx))
  have hlx : ∀ (b : Br) (j : Nat), ∀ x ∈ ((leavesOf ls b).drop j).take 1, (Lit.int .u64 x).wf = true := fun b j x hx => hl x (List.mem_of_mem_drop (List.mem_of_mem_take (List.mem_of_mem_drop (List.mem_of_mem_take hx))))
  match ats, hR with
  | [], _ => intro x hx; simp [pathOf, rowsR, pathR] at hx
  | [i], _ => intro x hx; exact hkx i x (by simpa [pathOf, rowsR, pathR] using hx)
  | [i, j], _ =>
    intro x hx
    have : x ∈ ((keysOf bs).drop i).take 1 ∨ x ∈ ((leavesOf ls (bs.getD i Br.no)).drop j).take 1 := by simpa [pathOf, rowsR, pathR] using hx
    rcases this with h | h
    · exact hkx i x h
    · exact hlx _ j x h
theorem sli_keeps {w w' : World} {base : Nat} {v : Value} {n : Nat} {xs : List Int} (h : w.ownsRow base 38 1 v n (xs.map (.int .u64))) (hk : Keeps w w') : w'.ownsRow base 38 1 v n (xs.map (.int .u64)) := owns_keeps h hk (by decide) (by decide)
/-- A path that a call has handed back is a row; so is it while cursors move. -/
theorem sli_path {w : World} {base : Nat} {v : Value} {xs : List Int} (h : w.ownsRow base 38 1 v xs.length (xs.map (.int .u64))) (hw : ∀ x ∈ xs, (Lit.int .u64 x).wf = true) : SlI .u64 w v xs := SlI.of_owns h hw
end Go.Proofs.Ytdfnfdgkhflonaa
