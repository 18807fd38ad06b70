/-
  The document's answer for the cursor (colanderref08), walked: End, Key, Left. (Printed by mkcur2.py.)
-/
import Derived.Test.YtdfnfdgkhflonaaCuR1
namespace Go.Proofs.Ytdfnfdgkhflonaa
open Go.RowKit
set_option linter.unusedVariables false

/-- A place in a box: its eight cells. -/
theorem box8 {W : World} {X : Nat} {a b c d e f g h : Value} {T : TypeId} (hn : W.heap[X]? = some (.cells #[a, b, c, d, e, f, g, h] T (0, 0))) :
    W.cell? ⟨X, 0, none⟩ = some a ∧ W.cell? ⟨X, 1, none⟩ = some b ∧ W.cell? ⟨X, 2, none⟩ = some c ∧ W.cell? ⟨X, 3, none⟩ = some d ∧ W.cell? ⟨X, 4, none⟩ = some e ∧ W.cell? ⟨X, 5, none⟩ = some f ∧ W.cell? ⟨X, 6, none⟩ = some g ∧ W.cell? ⟨X, 7, none⟩ = some h :=
  ⟨by simpa using box_cell (i := 0) hn, by simpa using box_cell (i := 1) hn, by simpa using box_cell (i := 2) hn, by simpa using box_cell (i := 3) hn, by simpa using box_cell (i := 4) hn, by simpa using box_cell (i := 5) hn, by simpa using box_cell (i := 6) hn, by simpa using box_cell (i := 7) hn⟩

/-- What Row hands back at a place: the row xs. -/
def RowIs (p : Array Value) (d : Int) (xs : List Int) (w : World) : Prop := ∀ W, Below w.heap.size w W → Calls Try.prog 67 #[.agg p, .int .i64 d] W fun e w' => ∃ a c, e = .returned (.slice a xs.length c) ∧ SlI .u64 w' (.slice a xs.length c) xs ∧ Below W.heap.size W w'
theorem RowIs.later {p : Array Value} {d : Int} {xs : List Int} {w w' : World} (h : RowIs p d xs w) (hb : Below w.heap.size w w') : RowIs p d xs w' := fun W hW => h W (later_trans hb hW)

section
variable {ab al : Option Addr} {nb cb nl cl : Nat} {w : World} {z1 z2 le mo : Int} {xs : List Int} {r : Nat}

set_option maxRecDepth 100000 in
set_option maxHeartbeats 4000000 in
theorem end0_any : Calls Try.prog 104 #[.agg #[.slice ab nb cb, .slice al nl cl, .int .i64 0, .int .i64 0, .int .i64 z1, .int .i64 z2, .int .i64 le, .int .i64 mo]] w fun e w' => e = .returned (.bool false) ∧ Below w.heap.size w w' := by
  go_enter Try.func104, Try.ntmps104
  go_wp2_with fail
  have hX := box_new w #[.slice ab nb cb, .slice al nl cl, .int .i64 0, .int .i64 0, .int .i64 z1, .int .i64 z2, .int .i64 le, .int .i64 mo] 36
  refine wp_region_noPanic ?_
  refine wp_region_held_drew (S := fun W => W.cell? ⟨w.heap.size, 2, none⟩ = some (.int .i64 0)) (by kernel_rfl) ?_ (fun hHeld => ?_)
  · exact (box8 hX).2.2.1
  refine wpAnyH_take (i := 0) (v := ?v0) rfl (by kernel_rfl) (by kernel_rfl) (by kernel_rfl) (fun _ _ _ h => h) (Or.inl ⟨by rfl, ?hy0⟩) (by assumption) ?rest0
  case hy0 => (intro w hSw; (try dsimp only at hSw); go_simp; try (with_reducible rfl))
  try simp only [Act.put, List.setIfInBounds_toArray, List.set_cons_zero, List.set_cons_succ, List.getElem_toArray, List.getElem_cons_zero]
  refine wpAnyH_take (i := 1) (v := ?v1) rfl (by kernel_rfl) (by kernel_rfl) (by kernel_rfl) (fun _ _ _ h => h) (Or.inl ⟨by rfl, ?hy1⟩) (by assumption) ?rest1
  case hy1 => (intro w hSw; (try dsimp only at hSw); go_simp; try (with_reducible rfl))
  try simp only [Act.put, List.setIfInBounds_toArray, List.set_cons_zero, List.set_cons_succ, List.getElem_toArray, List.getElem_cons_zero, List.getElem_cons_succ]
  refine wpAnyH_take (i := 2) (v := ?v2) rfl (by kernel_rfl) (by kernel_rfl) (by kernel_rfl) (fun _ _ _ h => h) (Or.inl ⟨by rfl, ?hy2⟩) (by assumption) ?rest2
  case hy2 => (intro w hSw; (try dsimp only at hSw); go_simp; try (with_reducible rfl))
  try simp only [Act.put, List.setIfInBounds_toArray, List.set_cons_zero, List.set_cons_succ, List.getElem_toArray, List.getElem_cons_zero, List.getElem_cons_succ]
  refine wpAnyH_take (i := 3) (v := ?v3) rfl (by kernel_rfl) (by kernel_rfl) (by kernel_rfl) (fun _ _ _ h => h) (Or.inl ⟨by rfl, ?hy3⟩) (by assumption) ?rest3
  case hy3 => (intro w hSw; (try dsimp only at hSw); go_simp; try (with_reducible rfl))
  try simp only [Act.put, List.setIfInBounds_toArray, List.set_cons_zero, List.set_cons_succ, List.getElem_toArray, List.getElem_cons_zero, List.getElem_cons_succ]
  refine wpAnyH_take (i := 4) (v := undef) rfl (by kernel_rfl) (by kernel_rfl) (by kernel_rfl) (fun _ _ _ h => h) (Or.inr ⟨by rfl, rfl⟩) (by assumption) ?_
  try simp only [Act.put, List.setIfInBounds_toArray, List.set_cons_zero, List.set_cons_succ, List.getElem_toArray, List.getElem_cons_zero, List.getElem_cons_succ]
  refine wpAnyH_take (i := 5) (v := undef) rfl (by kernel_rfl) (by kernel_rfl) (by kernel_rfl) (fun _ _ _ h => h) (Or.inr ⟨by rfl, rfl⟩) (by assumption) ?_
  try simp only [Act.put, List.setIfInBounds_toArray, List.set_cons_zero, List.set_cons_succ, List.getElem_toArray, List.getElem_cons_zero, List.getElem_cons_succ]
  refine wpAnyH_take (i := 6) (v := undef) rfl (by kernel_rfl) (by kernel_rfl) (by kernel_rfl) (fun _ _ _ h => h) (Or.inr ⟨by rfl, rfl⟩) (by assumption) ?_
  try simp only [Act.put, List.setIfInBounds_toArray, List.set_cons_zero, List.set_cons_succ, List.getElem_toArray, List.getElem_cons_zero, List.getElem_cons_succ]
  refine wpAnyH_take (i := 7) (v := undef) rfl (by kernel_rfl) (by kernel_rfl) (by kernel_rfl) (fun _ _ _ h => h) (Or.inr ⟨by rfl, rfl⟩) (by assumption) ?_
  try simp only [Act.put, List.setIfInBounds_toArray, List.set_cons_zero, List.set_cons_succ, List.getElem_toArray, List.getElem_cons_zero, List.getElem_cons_succ]
  refine wpAnyH_take (i := 8) (v := undef) rfl (by kernel_rfl) (by kernel_rfl) (by kernel_rfl) (fun _ _ _ h => h) (Or.inr ⟨by rfl, rfl⟩) (by assumption) ?_
  try simp only [Act.put, List.setIfInBounds_toArray, List.set_cons_zero, List.set_cons_succ, List.getElem_toArray, List.getElem_cons_zero, List.getElem_cons_succ]
  refine wpAnyH_take (i := 9) (v := undef) rfl (by kernel_rfl) (by kernel_rfl) (by kernel_rfl) (fun _ _ _ h => h) (Or.inr ⟨by rfl, rfl⟩) (by assumption) ?_
  try simp only [Act.put, List.setIfInBounds_toArray, List.set_cons_zero, List.set_cons_succ, List.getElem_toArray, List.getElem_cons_zero, List.getElem_cons_succ]
  refine wpAnyH_take (i := 10) (v := undef) rfl (by kernel_rfl) (by kernel_rfl) (by kernel_rfl) (fun _ _ _ h => h) (Or.inr ⟨by rfl, rfl⟩) (by assumption) ?_
  try simp only [Act.put, List.setIfInBounds_toArray, List.set_cons_zero, List.set_cons_succ, List.getElem_toArray, List.getElem_cons_zero, List.getElem_cons_succ]
  refine wpAnyH_take (i := 11) (v := undef) rfl (by kernel_rfl) (by kernel_rfl) (by kernel_rfl) (fun _ _ _ h => h) (Or.inr ⟨by rfl, rfl⟩) (by assumption) ?_
  try simp only [Act.put, List.setIfInBounds_toArray, List.set_cons_zero, List.set_cons_succ, List.getElem_toArray, List.getElem_cons_zero, List.getElem_cons_succ]
  refine wpAnyH_take (i := 12) (v := undef) rfl (by kernel_rfl) (by kernel_rfl) (by kernel_rfl) (fun _ _ _ h => h) (Or.inr ⟨by rfl, rfl⟩) (by assumption) ?_
  try simp only [Act.put, List.setIfInBounds_toArray, List.set_cons_zero, List.set_cons_succ, List.getElem_toArray, List.getElem_cons_zero, List.getElem_cons_succ]
  refine wpAnyH_take (i := 13) (v := undef) rfl (by kernel_rfl) (by kernel_rfl) (by kernel_rfl) (fun _ _ _ h => h) (Or.inr ⟨by rfl, rfl⟩) (by assumption) ?_
  try simp only [Act.put, List.setIfInBounds_toArray, List.set_cons_zero, List.set_cons_succ, List.getElem_toArray, List.getElem_cons_zero, List.getElem_cons_succ]
  refine wpAnyH_take (i := 14) (v := undef) rfl (by kernel_rfl) (by kernel_rfl) (by kernel_rfl) (fun _ _ _ h => h) (Or.inr ⟨by rfl, rfl⟩) (by assumption) ?_
  try simp only [Act.put, List.setIfInBounds_toArray, List.set_cons_zero, List.set_cons_succ, List.getElem_toArray, List.getElem_cons_zero, List.getElem_cons_succ]
  refine wpAnyH_take (i := 15) (v := ?v15) rfl (by kernel_rfl) (by kernel_rfl) (by kernel_rfl) (fun _ _ _ h => h) (Or.inl ⟨by rfl, ?hy15⟩) (by assumption) ?rest15
  case hy15 => (intro w hSw; (try dsimp only at hSw); go_simp; try (with_reducible rfl))
  try simp only [Act.put, List.setIfInBounds_toArray, List.set_cons_zero, List.set_cons_succ, List.getElem_toArray, List.getElem_cons_zero, List.getElem_cons_succ]
  refine wpAnyH_take (i := 16) (v := ?v16) rfl (by kernel_rfl) (by kernel_rfl) (by kernel_rfl) (fun _ _ _ h => h) (Or.inl ⟨by rfl, ?hy16⟩) (by assumption) ?rest16
  case hy16 => (intro w hSw; (try dsimp only at hSw); go_simp; try (with_reducible rfl))
  try simp only [Act.put, List.setIfInBounds_toArray, List.set_cons_zero, List.set_cons_succ, List.getElem_toArray, List.getElem_cons_zero, List.getElem_cons_succ]
  refine wpAnyH_done (by kernel_rfl) ?_ _
  refine NoPanic.normal ?_
  go_wp2
  go_ret
  exact ⟨rfl, later_trans (later_alloc w _) (later_drew _)⟩

set_option maxRecDepth 100000 in
set_option maxHeartbeats 4000000 in
theorem end1_any (hR : RowIs #[.slice ab nb cb, .slice al nl cl, .int .i64 1, .int .i64 0, .int .i64 z1, .int .i64 z2, .int .i64 le, .int .i64 mo] 1 xs w) (hz : z1 = r) (hxl : xs.length ≤ 1048576) :
    Calls Try.prog 104 #[.agg #[.slice ab nb cb, .slice al nl cl, .int .i64 1, .int .i64 0, .int .i64 z1, .int .i64 z2, .int .i64 le, .int .i64 mo]] w fun e w' => e = .returned (.bool (decide (r = xs.length))) ∧ Below w.heap.size w w' := by
  have HR := Lib.hid hR
  have hdec : ((r : Int) == (xs.length : Int)) = decide (r = xs.length) := by by_cases h : r = xs.length <;> simp [h]; omega
  have HD := Lib.hid hdec
  obtain ⟨n, hn⟩ : ∃ n, xs.length = n := ⟨_, rfl⟩
  have HN := Lib.hid hn
  subst hz
  clear hR hdec hn
  go_enter Try.func104, Try.ntmps104
  go_wp2_with fail
  have hX := box_new w #[.slice ab nb cb, .slice al nl cl, .int .i64 1, .int .i64 0, .int .i64 r, .int .i64 z2, .int .i64 le, .int .i64 mo] 36
  have hb1 := later_alloc w (.cells #[.slice ab nb cb, .slice al nl cl, .int .i64 1, .int .i64 0, .int .i64 r, .int .i64 z2, .int .i64 le, .int .i64 mo] 36)
  go_region_held3 (fun W => W.cell? ⟨w.heap.size, 0, none⟩ = some (.slice ab nb cb) ∧ W.cell? ⟨w.heap.size, 1, none⟩ = some (.slice al nl cl) ∧ W.cell? ⟨w.heap.size, 2, none⟩ = some (.int .i64 1) ∧ W.cell? ⟨w.heap.size, 3, none⟩ = some (.int .i64 0) ∧ W.cell? ⟨w.heap.size, 4, none⟩ = some (.int .i64 r) ∧ W.cell? ⟨w.heap.size, 5, none⟩ = some (.int .i64 z2) ∧ W.cell? ⟨w.heap.size, 6, none⟩ = some (.int .i64 le) ∧ W.cell? ⟨w.heap.size, 7, none⟩ = some (.int .i64 mo))
    (first | exact box8 hX | exact box8 hXE | assumption)
    (first
      | (go_at_call 67; refine (HR.out _ (later_trans hb1 (later_drew _))).mono ?_; rintro e wE ⟨ar, cr, rfl, sr, hE⟩; have hbE := later_trans (later_trans hb1 (later_drew _)) hE; have hXE := (hE.block w.heap.size (by simp)).trans hX))
  all_goals go_wp2
  all_goals go_ret
  all_goals exact ⟨ret_bool HD.out, hbE⟩

set_option maxRecDepth 100000 in
set_option maxHeartbeats 4000000 in
theorem end2_any (hR : RowIs #[.slice ab nb cb, .slice al nl cl, .int .i64 2, .int .i64 0, .int .i64 z1, .int .i64 z2, .int .i64 le, .int .i64 mo] 2 xs w) (hz : z2 = r) (hxl : xs.length ≤ 1048576) :
    Calls Try.prog 104 #[.agg #[.slice ab nb cb, .slice al nl cl, .int .i64 2, .int .i64 0, .int .i64 z1, .int .i64 z2, .int .i64 le, .int .i64 mo]] w fun e w' => e = .returned (.bool (decide (r = xs.length))) ∧ Below w.heap.size w w' := by
  have HR := Lib.hid hR
  have hdec : ((r : Int) == (xs.length : Int)) = decide (r = xs.length) := by by_cases h : r = xs.length <;> simp [h]; omega
  have HD := Lib.hid hdec
  obtain ⟨n, hn⟩ : ∃ n, xs.length = n := ⟨_, rfl⟩
  have HN := Lib.hid hn
  subst hz
  clear hR hdec hn
  go_enter Try.func104, Try.ntmps104
  go_wp2_with fail
  have hX := box_new w #[.slice ab nb cb, .slice al nl cl, .int .i64 2, .int .i64 0, .int .i64 z1, .int .i64 r, .int .i64 le, .int .i64 mo] 36
  have hb1 := later_alloc w (.cells #[.slice ab nb cb, .slice al nl cl, .int .i64 2, .int .i64 0, .int .i64 z1, .int .i64 r, .int .i64 le, .int .i64 mo] 36)
  go_region_held3 (fun W => W.cell? ⟨w.heap.size, 0, none⟩ = some (.slice ab nb cb) ∧ W.cell? ⟨w.heap.size, 1, none⟩ = some (.slice al nl cl) ∧ W.cell? ⟨w.heap.size, 2, none⟩ = some (.int .i64 2) ∧ W.cell? ⟨w.heap.size, 3, none⟩ = some (.int .i64 0) ∧ W.cell? ⟨w.heap.size, 4, none⟩ = some (.int .i64 z1) ∧ W.cell? ⟨w.heap.size, 5, none⟩ = some (.int .i64 r) ∧ W.cell? ⟨w.heap.size, 6, none⟩ = some (.int .i64 le) ∧ W.cell? ⟨w.heap.size, 7, none⟩ = some (.int .i64 mo))
    (first | exact box8 hX | exact box8 hXE | assumption)
    (first
      | (go_at_call 67; refine (HR.out _ (later_trans hb1 (later_drew _))).mono ?_; rintro e wE ⟨ar, cr, rfl, sr, hE⟩; have hbE := later_trans (later_trans hb1 (later_drew _)) hE; have hXE := (hE.block w.heap.size (by simp)).trans hX))
  all_goals go_wp2
  all_goals go_ret
  all_goals exact ⟨ret_bool HD.out, hbE⟩

set_option maxHeartbeats 1000000 in
theorem key0_any : Calls Try.prog 62 #[.agg #[.slice ab nb cb, .slice al nl cl, .int .i64 0, .int .i64 0, .int .i64 z1, .int .i64 z2, .int .i64 le, .int .i64 mo]] w fun e w' => e = .returned (.tuple #[.int .u64 0, .bool false]) ∧ Below w.heap.size w w' := by
  go_enter Try.func62, Try.ntmps62
  go_wp2_with fail
  go_ret2
  exact ⟨rfl, later_alloc w _⟩
set_option maxHeartbeats 1000000 in
theorem left0_any : Calls Try.prog 64 #[.agg #[.slice ab nb cb, .slice al nl cl, .int .i64 0, .int .i64 0, .int .i64 z1, .int .i64 z2, .int .i64 le, .int .i64 mo]] w fun e w' => e = .returned (.int .i64 0) ∧ Below w.heap.size w w' := by
  go_enter Try.func64, Try.ntmps64
  go_wp2_with fail
  go_ret
  exact ⟨rfl, later_alloc w _⟩

set_option maxRecDepth 100000 in
set_option maxHeartbeats 4000000 in
theorem left1_any (hR : RowIs #[.slice ab nb cb, .slice al nl cl, .int .i64 1, .int .i64 0, .int .i64 z1, .int .i64 z2, .int .i64 le, .int .i64 mo] 1 xs w) (hz : z1 = r) (hxl : xs.length ≤ 1048576) (hr : r ≤ xs.length) :
    Calls Try.prog 64 #[.agg #[.slice ab nb cb, .slice al nl cl, .int .i64 1, .int .i64 0, .int .i64 z1, .int .i64 z2, .int .i64 le, .int .i64 mo]] w fun e w' => e = .returned (.int .i64 ((xs.length - r : Nat) : Int)) ∧ Below w.heap.size w w' := by
  have HR := Lib.hid hR
  have e2 : ((xs.length - r : Nat) : Int) = (xs.length : Int) - r := by omega
  have hwr : IntKind.i64.wrap ((xs.length : Int) - r) = (xs.length : Int) - r := wrap_i64 (by omega) (by omega)
  rw [e2]
  subst hz
  clear hR e2
  go_enter Try.func64, Try.ntmps64
  go_wp2_with fail
  have hX := box_new w #[.slice ab nb cb, .slice al nl cl, .int .i64 1, .int .i64 0, .int .i64 r, .int .i64 z2, .int .i64 le, .int .i64 mo] 36
  have hb1 := later_alloc w (.cells #[.slice ab nb cb, .slice al nl cl, .int .i64 1, .int .i64 0, .int .i64 r, .int .i64 z2, .int .i64 le, .int .i64 mo] 36)
  go_region_held3 (fun W => W.cell? ⟨w.heap.size, 0, none⟩ = some (.slice ab nb cb) ∧ W.cell? ⟨w.heap.size, 1, none⟩ = some (.slice al nl cl) ∧ W.cell? ⟨w.heap.size, 2, none⟩ = some (.int .i64 1) ∧ W.cell? ⟨w.heap.size, 3, none⟩ = some (.int .i64 0) ∧ W.cell? ⟨w.heap.size, 4, none⟩ = some (.int .i64 r) ∧ W.cell? ⟨w.heap.size, 5, none⟩ = some (.int .i64 z2) ∧ W.cell? ⟨w.heap.size, 6, none⟩ = some (.int .i64 le) ∧ W.cell? ⟨w.heap.size, 7, none⟩ = some (.int .i64 mo))
    (first | exact box8 hX | exact box8 hXE | assumption)
    (first
      | (go_at_call 67; refine (HR.out _ (later_trans hb1 (later_drew _))).mono ?_; rintro e wE ⟨ar, cr, rfl, sr, hE⟩; have hbE := later_trans (later_trans hb1 (later_drew _)) hE; have hXE := (hE.block w.heap.size (by simp)).trans hX))
  all_goals go_wp2
  all_goals go_ret
  all_goals exact ⟨rfl, hbE⟩

set_option maxRecDepth 100000 in
set_option maxHeartbeats 4000000 in
theorem left2_any (hR : RowIs #[.slice ab nb cb, .slice al nl cl, .int .i64 2, .int .i64 0, .int .i64 z1, .int .i64 z2, .int .i64 le, .int .i64 mo] 2 xs w) (hz : z2 = r) (hxl : xs.length ≤ 1048576) (hr : r ≤ xs.length) :
    Calls Try.prog 64 #[.agg #[.slice ab nb cb, .slice al nl cl, .int .i64 2, .int .i64 0, .int .i64 z1, .int .i64 z2, .int .i64 le, .int .i64 mo]] w fun e w' => e = .returned (.int .i64 ((xs.length - r : Nat) : Int)) ∧ Below w.heap.size w w' := by
  have HR := Lib.hid hR
  have e2 : ((xs.length - r : Nat) : Int) = (xs.length : Int) - r := by omega
  have hwr : IntKind.i64.wrap ((xs.length : Int) - r) = (xs.length : Int) - r := wrap_i64 (by omega) (by omega)
  rw [e2]
  subst hz
  clear hR e2
  go_enter Try.func64, Try.ntmps64
  go_wp2_with fail
  have hX := box_new w #[.slice ab nb cb, .slice al nl cl, .int .i64 2, .int .i64 0, .int .i64 z1, .int .i64 r, .int .i64 le, .int .i64 mo] 36
  have hb1 := later_alloc w (.cells #[.slice ab nb cb, .slice al nl cl, .int .i64 2, .int .i64 0, .int .i64 z1, .int .i64 r, .int .i64 le, .int .i64 mo] 36)
  go_region_held3 (fun W => W.cell? ⟨w.heap.size, 0, none⟩ = some (.slice ab nb cb) ∧ W.cell? ⟨w.heap.size, 1, none⟩ = some (.slice al nl cl) ∧ W.cell? ⟨w.heap.size, 2, none⟩ = some (.int .i64 2) ∧ W.cell? ⟨w.heap.size, 3, none⟩ = some (.int .i64 0) ∧ W.cell? ⟨w.heap.size, 4, none⟩ = some (.int .i64 z1) ∧ W.cell? ⟨w.heap.size, 5, none⟩ = some (.int .i64 r) ∧ W.cell? ⟨w.heap.size, 6, none⟩ = some (.int .i64 le) ∧ W.cell? ⟨w.heap.size, 7, none⟩ = some (.int .i64 mo))
    (first | exact box8 hX | exact box8 hXE | assumption)
    (first
      | (go_at_call 67; refine (HR.out _ (later_trans hb1 (later_drew _))).mono ?_; rintro e wE ⟨ar, cr, rfl, sr, hE⟩; have hbE := later_trans (later_trans hb1 (later_drew _)) hE; have hXE := (hE.block w.heap.size (by simp)).trans hX))
  all_goals go_wp2
  all_goals go_ret
  all_goals exact ⟨rfl, hbE⟩

set_option maxRecDepth 100000 in
set_option maxHeartbeats 4000000 in
theorem key1_any (hR : RowIs #[.slice ab nb cb, .slice al nl cl, .int .i64 1, .int .i64 0, .int .i64 z1, .int .i64 z2, .int .i64 le, .int .i64 mo] 1 xs w) (hz : z1 = r) (hxl : xs.length ≤ 1048576) (hr : r ≤ xs.length) :
    Calls Try.prog 62 #[.agg #[.slice ab nb cb, .slice al nl cl, .int .i64 1, .int .i64 0, .int .i64 z1, .int .i64 z2, .int .i64 le, .int .i64 mo]] w fun e w' => e = .returned (.tuple #[.int .u64 (if r < xs.length then xs.getD r 0 else 0), .bool (decide (r < xs.length))]) ∧ Below w.heap.size w w' := by
  have HE := Lib.hid (fun W (hb : Below w.heap.size w W) => end1_any (hR.later hb) hz hxl)
  have HR := Lib.hid hR
  subst hz
  by_cases hlt : r < xs.length
  · have hd : decide (r = xs.length) = false := by rw [decide_eq_false_iff_not]; omega
    rw [hd] at HE
    rw [if_pos hlt, decide_eq_true hlt]
    have hg : xs.getD r 0 = xs[r] := by simp [List.getD, List.getElem?_eq_getElem hlt]
    rw [hg]
    obtain ⟨x, hx⟩ : ∃ x, xs[r] = x := ⟨_, rfl⟩
    rw [hx]
    have HXX := Lib.hid (show ∀ W a c, SlI .u64 W (.slice a xs.length c) xs → ∃ b o, a = some ⟨b, o, none⟩ ∧ W.cell? ⟨b, o + r, none⟩ = some (.int .u64 x) from fun W a c hs => by
      obtain ⟨a', c', e1, _, _, h4⟩ := hs.open'
      cases e1
      obtain ⟨b, o, e2, _, h5⟩ := h4 (by omega)
      exact ⟨b, o, e2, by rw [h5 r hlt, hx]⟩)
    have hlI : (r : Int) < xs.length := by omega
    clear hR hd hg hx
    go_enter Try.func62, Try.ntmps62
    go_wp2_with fail
    have hX := box_new w #[.slice ab nb cb, .slice al nl cl, .int .i64 1, .int .i64 0, .int .i64 r, .int .i64 z2, .int .i64 le, .int .i64 mo] 36
    have hb1 := later_alloc w (.cells #[.slice ab nb cb, .slice al nl cl, .int .i64 1, .int .i64 0, .int .i64 r, .int .i64 z2, .int .i64 le, .int .i64 mo] 36)
    refine (HE.out _ hb1).mono ?_
    rintro e w2 ⟨rfl, hb2⟩
    have hX2 := (hb2.block w.heap.size (by simp)).trans hX
    have hbw2 := later_trans hb1 hb2
    clear hX hb1 hb2
    obtain ⟨y0, y1, y2, y3, y4, y5, y6, y7⟩ := box8 hX2
    go_wp2_with fail
    refine wp_region_noPanic ?_
    refine wp_region_held_drew (S := fun W => W.cell? ⟨w.heap.size, 0, none⟩ = some (.slice ab nb cb) ∧ W.cell? ⟨w.heap.size, 1, none⟩ = some (.slice al nl cl) ∧ W.cell? ⟨w.heap.size, 2, none⟩ = some (.int .i64 1) ∧ W.cell? ⟨w.heap.size, 3, none⟩ = some (.int .i64 0) ∧ W.cell? ⟨w.heap.size, 4, none⟩ = some (.int .i64 r) ∧ W.cell? ⟨w.heap.size, 5, none⟩ = some (.int .i64 z2) ∧ W.cell? ⟨w.heap.size, 6, none⟩ = some (.int .i64 le) ∧ W.cell? ⟨w.heap.size, 7, none⟩ = some (.int .i64 mo)) (by kernel_rfl) ?_ (fun hHeld => ?_)
    · exact ⟨y0, y1, y2, y3, y4, y5, y6, y7⟩
    refine wpAnyH_take (i := 0) (v := ?v0) rfl (by kernel_rfl) (by kernel_rfl) (by kernel_rfl) (fun _ _ _ h => h) (Or.inl ⟨by rfl, ?hy0⟩) (by assumption) ?rest0
    case hy0 => (intro w hSw; (try dsimp only at hSw); go_simp; try (with_reducible rfl))
    try simp only [Act.put, List.setIfInBounds_toArray, List.set_cons_zero, List.set_cons_succ, List.getElem_toArray, List.getElem_cons_zero]
    refine wpAnyH_take (i := 1) (v := ?v1) rfl (by kernel_rfl) (by kernel_rfl) (by kernel_rfl) (fun _ _ _ h => h) (Or.inl ⟨by rfl, ?hy1⟩) (by assumption) ?rest1
    case hy1 => (intro w hSw; (try dsimp only at hSw); go_simp; try (with_reducible rfl))
    try simp only [Act.put, List.setIfInBounds_toArray, List.set_cons_zero, List.set_cons_succ, List.getElem_toArray, List.getElem_cons_zero, List.getElem_cons_succ]
    refine wpAnyH_take (i := 2) (v := ?v2) rfl (by kernel_rfl) (by kernel_rfl) (by kernel_rfl) (fun _ _ _ h => h) (Or.inl ⟨by rfl, ?hy2⟩) (by assumption) ?rest2
    case hy2 => (intro w hSw; (try dsimp only at hSw); go_simp; try (with_reducible rfl))
    try simp only [Act.put, List.setIfInBounds_toArray, List.set_cons_zero, List.set_cons_succ, List.getElem_toArray, List.getElem_cons_zero, List.getElem_cons_succ]
    refine wpAnyH_take (i := 4) (v := ?v4) rfl (by kernel_rfl) (by kernel_rfl) (by kernel_rfl) (fun _ _ _ h => h) (Or.inl ⟨by rfl, ?hy4⟩) (by assumption) ?rest4
    case hy4 => (intro w hSw; (try dsimp only at hSw); go_simp; try (with_reducible rfl))
    try simp only [Act.put, List.setIfInBounds_toArray, List.set_cons_zero, List.set_cons_succ, List.getElem_toArray, List.getElem_cons_zero, List.getElem_cons_succ]
    refine wpAnyH_take (i := 5) (v := ?v5) rfl (by kernel_rfl) (by kernel_rfl) (by kernel_rfl) (fun _ _ _ h => h) (Or.inl ⟨by rfl, ?hy5⟩) (by assumption) ?rest5
    case hy5 => (intro w hSw; (try dsimp only at hSw); go_simp; try (with_reducible rfl))
    try simp only [Act.put, List.setIfInBounds_toArray, List.set_cons_zero, List.set_cons_succ, List.getElem_toArray, List.getElem_cons_zero, List.getElem_cons_succ]
    refine wpAnyH_take (i := 6) (v := ?v6) rfl (by kernel_rfl) (by kernel_rfl) (by kernel_rfl) (fun _ _ _ h => h) (Or.inl ⟨by rfl, ?hy6⟩) (by assumption) ?rest6
    case hy6 => (intro w hSw; (try dsimp only at hSw); go_simp; try (with_reducible rfl))
    try simp only [Act.put, List.setIfInBounds_toArray, List.set_cons_zero, List.set_cons_succ, List.getElem_toArray, List.getElem_cons_zero, List.getElem_cons_succ]
    refine wpAnyH_take (i := 7) (v := ?v7) rfl (by kernel_rfl) (by kernel_rfl) (by kernel_rfl) (fun _ _ _ h => h) (Or.inl ⟨by rfl, ?hy7⟩) (by assumption) ?rest7
    case hy7 => (intro w hSw; (try dsimp only at hSw); go_simp; try (with_reducible rfl))
    try simp only [Act.put, List.setIfInBounds_toArray, List.set_cons_zero, List.set_cons_succ, List.getElem_toArray, List.getElem_cons_zero, List.getElem_cons_succ]
    refine wpAnyH_take (i := 8) (v := ?v8) rfl (by kernel_rfl) (by kernel_rfl) (by kernel_rfl) (fun _ _ _ h => h) (Or.inl ⟨by rfl, ?hy8⟩) (by assumption) ?rest8
    case hy8 => (intro w hSw; (try dsimp only at hSw); go_simp; try (with_reducible rfl))
    try simp only [Act.put, List.setIfInBounds_toArray, List.set_cons_zero, List.set_cons_succ, List.getElem_toArray, List.getElem_cons_zero, List.getElem_cons_succ]
    refine wpAnyH_ready (rs := [3]) (by kernel_rfl) (by simp) ?_
    refine AllReadyH.cons rfl (fun K hK => ?_) AllReadyH.nil
    go_simp
    refine (HR.out _ (later_trans hbw2 (later_drew _))).mono ?_
    rintro e wE ⟨ar, cr, rfl, sr, hE⟩
    have hbE := later_trans (later_trans hbw2 (later_drew _)) hE
    have hXE := (hE.block w.heap.size (lt_of_block hX2)).trans hX2
    obtain ⟨br, or_, rfl, hcx⟩ := HXX.out _ _ _ sr
    try go_wp2_with fail
    refine hK.out _ _ (box8 hXE) (fun hH3 => ?_)
    clear hK K hHeld
    try simp only [Act.put, List.setIfInBounds_toArray, List.set_cons_zero, List.set_cons_succ, List.getElem_toArray, List.getElem_cons_zero, List.getElem_cons_succ]
    refine wpAnyH_take (i := 9) (v := ?v9) rfl (by kernel_rfl) (by kernel_rfl) (by kernel_rfl) (fun _ _ _ h => h) (Or.inl ⟨by rfl, ?hy9⟩) (by assumption) ?rest9
    case hy9 => (intro w hSw; (try dsimp only at hSw); go_simp; try (with_reducible rfl))
    try simp only [Act.put, List.setIfInBounds_toArray, List.set_cons_zero, List.set_cons_succ, List.getElem_toArray, List.getElem_cons_zero, List.getElem_cons_succ]
    refine wpAnyH_ready (rs := [10]) (by kernel_rfl) (by simp) ?_
    refine AllReadyH.cons rfl (fun K hK => ?_) AllReadyH.nil
    go_simp
    refine hK.out _ _ hH3 (fun hH10 => ?_)
    clear hK K hH3
    try simp only [Act.put, List.setIfInBounds_toArray, List.set_cons_zero, List.set_cons_succ, List.getElem_toArray, List.getElem_cons_zero, List.getElem_cons_succ]
    refine wpAnyH_take (i := 11) (v := ?v11) rfl (by kernel_rfl) (by kernel_rfl) (by kernel_rfl) (fun _ _ _ h => h) (Or.inl ⟨by rfl, ?hy11⟩) (by assumption) ?rest11
    case hy11 => (intro w hSw; (try dsimp only at hSw); go_simp; try (with_reducible rfl))
    try simp only [Act.put, List.setIfInBounds_toArray, List.set_cons_zero, List.set_cons_succ, List.getElem_toArray, List.getElem_cons_zero, List.getElem_cons_succ]
    refine wpAnyH_take (i := 12) (v := ?v12) rfl (by kernel_rfl) (by kernel_rfl) (by kernel_rfl) (fun _ _ _ h => h) (Or.inl ⟨by rfl, ?hy12⟩) (by assumption) ?rest12
    case hy12 => (intro w hSw; (try dsimp only at hSw); go_simp; try (with_reducible rfl))
    try simp only [Act.put, List.setIfInBounds_toArray, List.set_cons_zero, List.set_cons_succ, List.getElem_toArray, List.getElem_cons_zero, List.getElem_cons_succ]
    refine wpAnyH_done (by kernel_rfl) ?_ _
    refine NoPanic.normal ?_
    all_goals go_wp2
    all_goals go_ret2
    all_goals exact ⟨rfl, hbE⟩
  · have hd : decide (r = xs.length) = true := by rw [decide_eq_true_eq]; omega
    rw [hd] at HE
    rw [if_neg hlt, decide_eq_false hlt]
    clear hR hd
    go_enter Try.func62, Try.ntmps62
    go_wp2_with fail
    have hb1 := later_alloc w (.cells #[.slice ab nb cb, .slice al nl cl, .int .i64 1, .int .i64 0, .int .i64 r, .int .i64 z2, .int .i64 le, .int .i64 mo] 36)
    refine (HE.out _ hb1).mono ?_
    rintro e w2 ⟨rfl, hb2⟩
    have hbw2 := later_trans hb1 hb2
    go_wp2_with fail
    go_ret2
    exact ⟨rfl, hbw2⟩

set_option maxRecDepth 100000 in
set_option maxHeartbeats 4000000 in
theorem key2_any (hR : RowIs #[.slice ab nb cb, .slice al nl cl, .int .i64 2, .int .i64 0, .int .i64 z1, .int .i64 z2, .int .i64 le, .int .i64 mo] 2 xs w) (hz : z2 = r) (hxl : xs.length ≤ 1048576) (hr : r ≤ xs.length) :
    Calls Try.prog 62 #[.agg #[.slice ab nb cb, .slice al nl cl, .int .i64 2, .int .i64 0, .int .i64 z1, .int .i64 z2, .int .i64 le, .int .i64 mo]] w fun e w' => e = .returned (.tuple #[.int .u64 (if r < xs.length then xs.getD r 0 else 0), .bool (decide (r < xs.length))]) ∧ Below w.heap.size w w' := by
  have HE := Lib.hid (fun W (hb : Below w.heap.size w W) => end2_any (hR.later hb) hz hxl)
  have HR := Lib.hid hR
  subst hz
  by_cases hlt : r < xs.length
  · have hd : decide (r = xs.length) = false := by rw [decide_eq_false_iff_not]; omega
    rw [hd] at HE
    rw [if_pos hlt, decide_eq_true hlt]
    have hg : xs.getD r 0 = xs[r] := by simp [List.getD, List.getElem?_eq_getElem hlt]
    rw [hg]
    obtain ⟨x, hx⟩ : ∃ x, xs[r] = x := ⟨_, rfl⟩
    rw [hx]
    have HXX := Lib.hid (show ∀ W a c, SlI .u64 W (.slice a xs.length c) xs → ∃ b o, a = some ⟨b, o, none⟩ ∧ W.cell? ⟨b, o + r, none⟩ = some (.int .u64 x) from fun W a c hs => by
      obtain ⟨a', c', e1, _, _, h4⟩ := hs.open'
      cases e1
      obtain ⟨b, o, e2, _, h5⟩ := h4 (by omega)
      exact ⟨b, o, e2, by rw [h5 r hlt, hx]⟩)
    have hlI : (r : Int) < xs.length := by omega
    clear hR hd hg hx
    go_enter Try.func62, Try.ntmps62
    go_wp2_with fail
    have hX := box_new w #[.slice ab nb cb, .slice al nl cl, .int .i64 2, .int .i64 0, .int .i64 z1, .int .i64 r, .int .i64 le, .int .i64 mo] 36
    have hb1 := later_alloc w (.cells #[.slice ab nb cb, .slice al nl cl, .int .i64 2, .int .i64 0, .int .i64 z1, .int .i64 r, .int .i64 le, .int .i64 mo] 36)
    refine (HE.out _ hb1).mono ?_
    rintro e w2 ⟨rfl, hb2⟩
    have hX2 := (hb2.block w.heap.size (by simp)).trans hX
    have hbw2 := later_trans hb1 hb2
    clear hX hb1 hb2
    obtain ⟨y0, y1, y2, y3, y4, y5, y6, y7⟩ := box8 hX2
    go_wp2_with fail
    refine wp_region_noPanic ?_
    refine wp_region_held_drew (S := fun W => W.cell? ⟨w.heap.size, 0, none⟩ = some (.slice ab nb cb) ∧ W.cell? ⟨w.heap.size, 1, none⟩ = some (.slice al nl cl) ∧ W.cell? ⟨w.heap.size, 2, none⟩ = some (.int .i64 2) ∧ W.cell? ⟨w.heap.size, 3, none⟩ = some (.int .i64 0) ∧ W.cell? ⟨w.heap.size, 4, none⟩ = some (.int .i64 z1) ∧ W.cell? ⟨w.heap.size, 5, none⟩ = some (.int .i64 r) ∧ W.cell? ⟨w.heap.size, 6, none⟩ = some (.int .i64 le) ∧ W.cell? ⟨w.heap.size, 7, none⟩ = some (.int .i64 mo)) (by kernel_rfl) ?_ (fun hHeld => ?_)
    · exact ⟨y0, y1, y2, y3, y4, y5, y6, y7⟩
    refine wpAnyH_take (i := 0) (v := ?v0) rfl (by kernel_rfl) (by kernel_rfl) (by kernel_rfl) (fun _ _ _ h => h) (Or.inl ⟨by rfl, ?hy0⟩) (by assumption) ?rest0
    case hy0 => (intro w hSw; (try dsimp only at hSw); go_simp; try (with_reducible rfl))
    try simp only [Act.put, List.setIfInBounds_toArray, List.set_cons_zero, List.set_cons_succ, List.getElem_toArray, List.getElem_cons_zero]
    refine wpAnyH_take (i := 1) (v := ?v1) rfl (by kernel_rfl) (by kernel_rfl) (by kernel_rfl) (fun _ _ _ h => h) (Or.inl ⟨by rfl, ?hy1⟩) (by assumption) ?rest1
    case hy1 => (intro w hSw; (try dsimp only at hSw); go_simp; try (with_reducible rfl))
    try simp only [Act.put, List.setIfInBounds_toArray, List.set_cons_zero, List.set_cons_succ, List.getElem_toArray, List.getElem_cons_zero, List.getElem_cons_succ]
    refine wpAnyH_take (i := 2) (v := ?v2) rfl (by kernel_rfl) (by kernel_rfl) (by kernel_rfl) (fun _ _ _ h => h) (Or.inl ⟨by rfl, ?hy2⟩) (by assumption) ?rest2
    case hy2 => (intro w hSw; (try dsimp only at hSw); go_simp; try (with_reducible rfl))
    try simp only [Act.put, List.setIfInBounds_toArray, List.set_cons_zero, List.set_cons_succ, List.getElem_toArray, List.getElem_cons_zero, List.getElem_cons_succ]
    refine wpAnyH_take (i := 4) (v := ?v4) rfl (by kernel_rfl) (by kernel_rfl) (by kernel_rfl) (fun _ _ _ h => h) (Or.inl ⟨by rfl, ?hy4⟩) (by assumption) ?rest4
    case hy4 => (intro w hSw; (try dsimp only at hSw); go_simp; try (with_reducible rfl))
    try simp only [Act.put, List.setIfInBounds_toArray, List.set_cons_zero, List.set_cons_succ, List.getElem_toArray, List.getElem_cons_zero, List.getElem_cons_succ]
    refine wpAnyH_take (i := 5) (v := ?v5) rfl (by kernel_rfl) (by kernel_rfl) (by kernel_rfl) (fun _ _ _ h => h) (Or.inl ⟨by rfl, ?hy5⟩) (by assumption) ?rest5
    case hy5 => (intro w hSw; (try dsimp only at hSw); go_simp; try (with_reducible rfl))
    try simp only [Act.put, List.setIfInBounds_toArray, List.set_cons_zero, List.set_cons_succ, List.getElem_toArray, List.getElem_cons_zero, List.getElem_cons_succ]
    refine wpAnyH_take (i := 6) (v := ?v6) rfl (by kernel_rfl) (by kernel_rfl) (by kernel_rfl) (fun _ _ _ h => h) (Or.inl ⟨by rfl, ?hy6⟩) (by assumption) ?rest6
    case hy6 => (intro w hSw; (try dsimp only at hSw); go_simp; try (with_reducible rfl))
    try simp only [Act.put, List.setIfInBounds_toArray, List.set_cons_zero, List.set_cons_succ, List.getElem_toArray, List.getElem_cons_zero, List.getElem_cons_succ]
    refine wpAnyH_take (i := 7) (v := ?v7) rfl (by kernel_rfl) (by kernel_rfl) (by kernel_rfl) (fun _ _ _ h => h) (Or.inl ⟨by rfl, ?hy7⟩) (by assumption) ?rest7
    case hy7 => (intro w hSw; (try dsimp only at hSw); go_simp; try (with_reducible rfl))
    try simp only [Act.put, List.setIfInBounds_toArray, List.set_cons_zero, List.set_cons_succ, List.getElem_toArray, List.getElem_cons_zero, List.getElem_cons_succ]
    refine wpAnyH_take (i := 8) (v := ?v8) rfl (by kernel_rfl) (by kernel_rfl) (by kernel_rfl) (fun _ _ _ h => h) (Or.inl ⟨by rfl, ?hy8⟩) (by assumption) ?rest8
    case hy8 => (intro w hSw; (try dsimp only at hSw); go_simp; try (with_reducible rfl))
    try simp only [Act.put, List.setIfInBounds_toArray, List.set_cons_zero, List.set_cons_succ, List.getElem_toArray, List.getElem_cons_zero, List.getElem_cons_succ]
    refine wpAnyH_ready (rs := [3]) (by kernel_rfl) (by simp) ?_
    refine AllReadyH.cons rfl (fun K hK => ?_) AllReadyH.nil
    go_simp
    refine (HR.out _ (later_trans hbw2 (later_drew _))).mono ?_
    rintro e wE ⟨ar, cr, rfl, sr, hE⟩
    have hbE := later_trans (later_trans hbw2 (later_drew _)) hE
    have hXE := (hE.block w.heap.size (lt_of_block hX2)).trans hX2
    obtain ⟨br, or_, rfl, hcx⟩ := HXX.out _ _ _ sr
    try go_wp2_with fail
    refine hK.out _ _ (box8 hXE) (fun hH3 => ?_)
    clear hK K hHeld
    try simp only [Act.put, List.setIfInBounds_toArray, List.set_cons_zero, List.set_cons_succ, List.getElem_toArray, List.getElem_cons_zero, List.getElem_cons_succ]
    refine wpAnyH_take (i := 9) (v := ?v9) rfl (by kernel_rfl) (by kernel_rfl) (by kernel_rfl) (fun _ _ _ h => h) (Or.inl ⟨by rfl, ?hy9⟩) (by assumption) ?rest9
    case hy9 => (intro w hSw; (try dsimp only at hSw); go_simp; try (with_reducible rfl))
    try simp only [Act.put, List.setIfInBounds_toArray, List.set_cons_zero, List.set_cons_succ, List.getElem_toArray, List.getElem_cons_zero, List.getElem_cons_succ]
    refine wpAnyH_ready (rs := [10]) (by kernel_rfl) (by simp) ?_
    refine AllReadyH.cons rfl (fun K hK => ?_) AllReadyH.nil
    go_simp
    refine hK.out _ _ hH3 (fun hH10 => ?_)
    clear hK K hH3
    try simp only [Act.put, List.setIfInBounds_toArray, List.set_cons_zero, List.set_cons_succ, List.getElem_toArray, List.getElem_cons_zero, List.getElem_cons_succ]
    refine wpAnyH_take (i := 11) (v := ?v11) rfl (by kernel_rfl) (by kernel_rfl) (by kernel_rfl) (fun _ _ _ h => h) (Or.inl ⟨by rfl, ?hy11⟩) (by assumption) ?rest11
    case hy11 => (intro w hSw; (try dsimp only at hSw); go_simp; try (with_reducible rfl))
    try simp only [Act.put, List.setIfInBounds_toArray, List.set_cons_zero, List.set_cons_succ, List.getElem_toArray, List.getElem_cons_zero, List.getElem_cons_succ]
    refine wpAnyH_take (i := 12) (v := ?v12) rfl (by kernel_rfl) (by kernel_rfl) (by kernel_rfl) (fun _ _ _ h => h) (Or.inl ⟨by rfl, ?hy12⟩) (by assumption) ?rest12
    case hy12 => (intro w hSw; (try dsimp only at hSw); go_simp; try (with_reducible rfl))
    try simp only [Act.put, List.setIfInBounds_toArray, List.set_cons_zero, List.set_cons_succ, List.getElem_toArray, List.getElem_cons_zero, List.getElem_cons_succ]
    refine wpAnyH_done (by kernel_rfl) ?_ _
    refine NoPanic.normal ?_
    all_goals go_wp2
    all_goals go_ret2
    all_goals exact ⟨rfl, hbE⟩
  · have hd : decide (r = xs.length) = true := by rw [decide_eq_true_eq]; omega
    rw [hd] at HE
    rw [if_neg hlt, decide_eq_false hlt]
    clear hR hd
    go_enter Try.func62, Try.ntmps62
    go_wp2_with fail
    have hb1 := later_alloc w (.cells #[.slice ab nb cb, .slice al nl cl, .int .i64 2, .int .i64 0, .int .i64 z1, .int .i64 r, .int .i64 le, .int .i64 mo] 36)
    refine (HE.out _ hb1).mono ?_
    rintro e w2 ⟨rfl, hb2⟩
    have hbw2 := later_trans hb1 hb2
    go_wp2_with fail
    go_ret2
    exact ⟨rfl, hbw2⟩
end
end Go.Proofs.Ytdfnfdgkhflonaa
