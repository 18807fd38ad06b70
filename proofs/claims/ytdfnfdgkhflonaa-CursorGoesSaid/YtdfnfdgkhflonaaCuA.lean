/-
  The cursor's state in memory; top and on, walked.
-/
import Derived.Test.YtdfnfdgkhflonaaCu1
import Derived.Test.YtdfnfdgkhflonaaTOfP
import Derived.Deep.QuietTactic
import Derived.Deep.RegionHeld3
import Derived.BigQuiet
import Derived.Outline
import Derived.Lib.SmallJoins
namespace Go.Proofs.Ytdfnfdgkhflonaa
open Go.RowKit
set_option linter.unusedVariables false

/-- The cells of a cursor's rows. -/
def rowCells (rs : List (Value × Int)) : List Value := rs.flatMap fun r => [r.1, .int .i64 r.2]
theorem rowCells_len (rs : List (Value × Int)) : (rowCells rs).length = rs.length * 2 := by
  induction rs with
  | nil => rfl
  | cons r rs ih => simp [rowCells] at *; omega
theorem rowCells_snoc (rs : List (Value × Int)) (r : Value × Int) : rowCells (rs ++ [r]) = rowCells rs ++ [r.1, .int .i64 r.2] := by simp [rowCells]

/-- A cursor in memory: its variable at block c, its rows in a row of the call's own, from block N on. -/
structure CuS (w : World) (c N : Nat) (rv : Value) (st : Int) (kv bv lv : Value) (rs : List (Value × Int)) : Prop where
  box : w.heap[c]? = some (.cells #[rv, .int .i64 st, kv, bv, lv] 100 (0, 0))
  low : c < N
  size : N ≤ w.heap.size
  own : w.ownsRow N 112 2 rv rs.length (rowCells rs)
theorem CuS.drewN {w : World} {c N : Nat} {rv : Value} {st : Int} {kv bv lv : Value} {rs : List (Value × Int)} (h : CuS w c N rv st kv bv lv rs) (n : Nat) : CuS (w.drewN n) c N rv st kv bv lv rs := ⟨h.box, h.low, h.size, h.own⟩
theorem CuS.cells {w : World} {c N : Nat} {rv : Value} {st : Int} {kv bv lv : Value} {rs : List (Value × Int)} (h : CuS w c N rv st kv bv lv rs) :
    w.cell? ⟨c, 0, none⟩ = some rv ∧ w.cell? ⟨c, 1, none⟩ = some (.int .i64 st) ∧ w.cell? ⟨c, 2, none⟩ = some kv ∧ w.cell? ⟨c, 3, none⟩ = some bv ∧ w.cell? ⟨c, 4, none⟩ = some lv ∧ (∀ i, w.frozen? ⟨c, i, none⟩ = false) :=
  ⟨by simpa using box_cell (i := 0) h.box, by simpa using box_cell (i := 1) h.box, by simpa using box_cell (i := 2) h.box, by simpa using box_cell (i := 3) h.box, by simpa using box_cell (i := 4) h.box, fun i => box_frozen h.box⟩
/-- No rows. -/
theorem CuS.bare {w : World} {c N : Nat} {rv : Value} {st : Int} {kv bv lv : Value} (h : CuS w c N rv st kv bv lv []) : ∃ a cap, rv = .slice a 0 cap := owns_shape2 h.own
/-- The last row, and its cells. -/
theorem CuS.last {w : World} {c N : Nat} {rv : Value} {st : Int} {kv bv lv : Value} {rs : List (Value × Int)} {v : Value} {a : Int} {k : Nat} (h : CuS w c N rv st kv bv lv (rs ++ [(v, a)])) (hk : rs.length = k) :
    ∃ g cap, rv = .slice (some ⟨g, 0, none⟩) (k + 1) cap ∧ N ≤ g ∧ g < w.heap.size ∧ w.cell? ⟨g, k * 2, none⟩ = some v ∧ w.cell? ⟨g, k * 2 + 1, none⟩ = some (.int .i64 a) ∧ (∀ i, w.frozen? ⟨g, i, none⟩ = false) ∧ k + 1 ≤ cap ∧ cap ≤ maxLen := by
  have ho := h.own
  have hl : (rs ++ [(v, a)]).length = k + 1 := by simp [hk]
  rw [hl] at ho
  obtain ⟨g, cap, rfl⟩ := Go.Joins.ownsRow_form ho (by omega)
  have h1 := rowCells_len rs
  have hlt := ho.lt g rfl
  have hc := ho.2
  rcases hc with ⟨hc, _⟩ | ⟨g', cap', cur, hv, hg, hh, h2, h3, h4, h5⟩
  · cases hc
  · cases hv
    refine ⟨g, cap, rfl, hlt.1, hlt.2, (owns_cell ho (j := k * 2) ?_).1, (owns_cell ho (j := k * 2 + 1) ?_).1, fun i => by simp [World.frozen?, hh], h2, h3⟩
    · rw [rowCells_snoc, List.getElem?_append_right (by omega)]; simp [h1, hk]
    · rw [rowCells_snoc, List.getElem?_append_right (by omega)]; simp [h1, hk]

set_option maxHeartbeats 400000 in
theorem top_ok (c g k cap : Nat) (w : World) (hk : k < 2) (h : w.cell? ⟨c, 0, none⟩ = some (.slice (some ⟨g, 0, none⟩) (k + 1) cap)) :
    Calls Try.prog 71 #[.pointer (some ⟨c, 0, none⟩)] w fun e w' => e = .returned (.pointer (some ⟨g, k * 2, none⟩)) ∧ ∃ n, w' = w.drewN n := by
  have hlt : (k : Int) < (k : Int) + 1 := by omega
  have hgt : decide ((0 : Int) < (k : Int) + 1) = true := by rw [decide_eq_true_eq]; omega
  have e1 : (k : Int) + 1 - 1 = k := by omega
  have hn := need_ok 2
  go_enter Try.func71, Try.ntmps71
  go_wp2_with (go_at_call 106; refine (hn _).mono ?_; rintro e w' ⟨rfl, rfl⟩)
  go_quiet (fail)
  go_wp2
  go_ret
  exact ⟨rfl, _, rfl⟩

set_option maxHeartbeats 400000 in
theorem top_no (c cap : Nat) (a : Option Addr) (w : World) (h : w.cell? ⟨c, 0, none⟩ = some (.slice a 0 cap)) :
    Calls Try.prog 71 #[.pointer (some ⟨c, 0, none⟩)] w fun e w' => e = .panicked (thrown 2) ∧ w' = w := by
  have hn := need_no 2
  go_enter Try.func71, Try.ntmps71
  go_wp2_with (go_at_call 106; refine (hn _).mono ?_; rintro e w' ⟨rfl, rfl⟩)
  simp [bodyPost, thrown]

set_option maxHeartbeats 1000000 in
theorem on_ok (c g k cap len kc : Nat) (ka : Option Addr) (at_ : Int) (w : World) (hk : k < 2) (h : w.cell? ⟨c, 0, none⟩ = some (.slice (some ⟨g, 0, none⟩) (k + 1) cap))
    (hv : w.cell? ⟨g, k * 2, none⟩ = some (.slice ka len kc)) (ha : w.cell? ⟨g, k * 2 + 1, none⟩ = some (.int .i64 at_)) (hlt : at_ < len) :
    Calls Try.prog 107 #[.pointer (some ⟨c, 0, none⟩)] w fun e w' => e = .returned (.pointer (some ⟨g, k * 2, none⟩)) ∧ ∃ n, w' = w.drewN n := by
  have hT := fun w h => top_ok c g k cap w hk h
  have hn := need_ok 4
  have hd : decide (at_ < (len : Int)) = true := by rw [decide_eq_true_eq]; exact hlt
  go_enter Try.func107, Try.ntmps107
  go_wp2_with (go_at_call 71; refine (hT _ h).mono ?_; rintro e w' ⟨rfl, n, rfl⟩)
  go_region_held3 (fun W => W.cell? ⟨g, k * 2, none⟩ = some (.slice ka len kc) ∧ W.cell? ⟨g, k * 2 + 1, none⟩ = some (.int .i64 at_)) (first | exact ⟨hv, ha⟩ | assumption) (first | (go_at_call 106; refine (hn _).mono ?_; rintro e w' ⟨rfl, rfl⟩))
  go_wp2
  go_ret
  exact ⟨rfl, _, rfl⟩

set_option maxHeartbeats 1000000 in
theorem on_none (c cap : Nat) (a : Option Addr) (w : World) (h : w.cell? ⟨c, 0, none⟩ = some (.slice a 0 cap)) :
    Calls Try.prog 107 #[.pointer (some ⟨c, 0, none⟩)] w fun e w' => e = .panicked (thrown 2) ∧ w' = w := by
  have hT := fun w h => top_no c cap a w h
  go_enter Try.func107, Try.ntmps107
  go_wp2_with (go_at_call 71; refine (hT _ h).mono ?_; rintro e w' ⟨rfl, rfl⟩)
  simp [bodyPost, thrown]

set_option maxHeartbeats 1000000 in
theorem on_end (c g k cap len kc : Nat) (ka : Option Addr) (at_ : Int) (w : World) (hk : k < 2) (h : w.cell? ⟨c, 0, none⟩ = some (.slice (some ⟨g, 0, none⟩) (k + 1) cap))
    (hv : w.cell? ⟨g, k * 2, none⟩ = some (.slice ka len kc)) (ha : w.cell? ⟨g, k * 2 + 1, none⟩ = some (.int .i64 at_)) (hlt : ¬ at_ < len) :
    Calls Try.prog 107 #[.pointer (some ⟨c, 0, none⟩)] w fun e w' => e = .panicked (thrown 4) ∧ ∃ n, w' = w.drewN n := by
  have hT := fun w h => top_ok c g k cap w hk h
  have hn := need_no 4
  have hd : decide (at_ < (len : Int)) = false := by rw [decide_eq_false_iff_not]; exact hlt
  go_enter Try.func107, Try.ntmps107
  go_wp2_with (go_at_call 71; refine (hT _ h).mono ?_; rintro e w' ⟨rfl, n, rfl⟩)
  refine wp_region_held_drew (S := fun W => W.cell? ⟨g, k * 2, none⟩ = some (.slice ka len kc) ∧ W.cell? ⟨g, k * 2 + 1, none⟩ = some (.int .i64 at_)) (by kernel_rfl) ?_ (fun hHeld => ?_)
  · exact ⟨hv, ha⟩
  refine wpAnyH_take (i := 0) (v := ?v0) rfl (by kernel_rfl) (by kernel_rfl) (by kernel_rfl) (fun _ _ _ h => h) (Or.inl ⟨by rfl, ?hy0⟩) (by assumption) ?rest0
  case hy0 => (intro w hSw; (try dsimp only at hSw); go_simp; try (with_reducible rfl))
  try simp only [Act.put, List.setIfInBounds_toArray, List.set_cons_zero, List.set_cons_succ, List.getElem_toArray, List.getElem_cons_zero]
  refine wpAnyH_take (i := 1) (v := ?v1) rfl (by kernel_rfl) (by kernel_rfl) (by kernel_rfl) (fun _ _ _ h => h) (Or.inl ⟨by rfl, ?hy1⟩) (by assumption) ?rest1
  case hy1 => (intro w hSw; (try dsimp only at hSw); go_simp; try (with_reducible rfl))
  try simp only [Act.put, List.setIfInBounds_toArray, List.set_cons_zero, List.set_cons_succ, List.getElem_toArray, List.getElem_cons_zero, List.getElem_cons_succ]
  refine wpAnyH_take (i := 2) (v := ?v2) rfl (by kernel_rfl) (by kernel_rfl) (by kernel_rfl) (fun _ _ _ h => h) (Or.inl ⟨by rfl, ?hy2⟩) (by assumption) ?rest2
  case hy2 => (intro w hSw; (try dsimp only at hSw); go_simp; try (with_reducible rfl))
  try simp only [Act.put, List.setIfInBounds_toArray, List.set_cons_zero, List.set_cons_succ, List.getElem_toArray, List.getElem_cons_zero, List.getElem_cons_succ]
  refine wpAnyH_take (i := 3) (v := ?v3) rfl (by kernel_rfl) (by kernel_rfl) (by kernel_rfl) (fun _ _ _ h => h) (Or.inl ⟨by rfl, ?hy3⟩) (by assumption) ?rest3
  case hy3 => (intro w hSw; (try dsimp only at hSw); go_simp; try (with_reducible rfl))
  try simp only [Act.put, List.setIfInBounds_toArray, List.set_cons_zero, List.set_cons_succ, List.getElem_toArray, List.getElem_cons_zero, List.getElem_cons_succ]
  refine wpAnyH_take (i := 4) (v := ?v4) rfl (by kernel_rfl) (by kernel_rfl) (by kernel_rfl) (fun _ _ _ h => h) (Or.inl ⟨by rfl, ?hy4⟩) (by assumption) ?rest4
  case hy4 => (intro w hSw; (try dsimp only at hSw); go_simp; try (with_reducible rfl))
  try simp only [Act.put, List.setIfInBounds_toArray, List.set_cons_zero, List.set_cons_succ, List.getElem_toArray, List.getElem_cons_zero, List.getElem_cons_succ]
  refine wpAnyH_take (i := 5) (v := ?v5) rfl (by kernel_rfl) (by kernel_rfl) (by kernel_rfl) (fun _ _ _ h => h) (Or.inl ⟨by rfl, ?hy5⟩) (by assumption) ?rest5
  case hy5 => (intro w hSw; (try dsimp only at hSw); go_simp; try (with_reducible rfl))
  try simp only [Act.put, List.setIfInBounds_toArray, List.set_cons_zero, List.set_cons_succ, List.getElem_toArray, List.getElem_cons_zero, List.getElem_cons_succ]
  refine wpAnyH_take (i := 6) (v := ?v6) rfl (by kernel_rfl) (by kernel_rfl) (by kernel_rfl) (fun _ _ _ h => h) (Or.inl ⟨by rfl, ?hy6⟩) (by assumption) ?rest6
  case hy6 => (intro w hSw; (try dsimp only at hSw); go_simp; try (with_reducible rfl))
  try simp only [Act.put, List.setIfInBounds_toArray, List.set_cons_zero, List.set_cons_succ, List.getElem_toArray, List.getElem_cons_zero, List.getElem_cons_succ]
  refine wpAnyH_take (i := 7) (v := ?v7) rfl (by kernel_rfl) (by kernel_rfl) (by kernel_rfl) (fun _ _ _ h => h) (Or.inl ⟨by rfl, ?hy7⟩) (by assumption) ?rest7
  case hy7 => (intro w hSw; (try dsimp only at hSw); go_simp; try (with_reducible rfl))
  try simp only [Act.put, List.setIfInBounds_toArray, List.set_cons_zero, List.set_cons_succ, List.getElem_toArray, List.getElem_cons_zero, List.getElem_cons_succ]
  refine wpAnyH_take (i := 8) (v := ?v8) rfl (by kernel_rfl) (by kernel_rfl) (by kernel_rfl) (fun _ _ _ h => h) (Or.inl ⟨by rfl, ?hy8⟩) (by assumption) ?rest8
  case hy8 => (intro w hSw; (try dsimp only at hSw); go_simp; try (with_reducible rfl))
  try simp only [Act.put, List.setIfInBounds_toArray, List.set_cons_zero, List.set_cons_succ, List.getElem_toArray, List.getElem_cons_zero, List.getElem_cons_succ]
  refine wpAnyH_take (i := 9) (v := ?v9) rfl (by kernel_rfl) (by kernel_rfl) (by kernel_rfl) (fun _ _ _ h => h) (Or.inl ⟨by rfl, ?hy9⟩) (by assumption) ?rest9
  case hy9 => (intro w hSw; (try dsimp only at hSw); go_simp; try (with_reducible rfl))
  try simp only [Act.put, List.setIfInBounds_toArray, List.set_cons_zero, List.set_cons_succ, List.getElem_toArray, List.getElem_cons_zero, List.getElem_cons_succ]
  refine wpAnyH_ready (rs := [10]) (by kernel_rfl) (by simp) ?_
  refine AllReadyH.cons rfl (fun K hK => ?_) AllReadyH.nil
  go_simp
  refine (hn _).mono ?_
  rintro e w' ⟨rfl, rfl⟩
  show _ ∧ _
  exact ⟨rfl, rfl, n + 1, rfl⟩
end Go.Proofs.Ytdfnfdgkhflonaa
