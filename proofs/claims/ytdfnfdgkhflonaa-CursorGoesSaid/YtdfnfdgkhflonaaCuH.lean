/-
  The cursor's exported moves.
-/
import Derived.Test.YtdfnfdgkhflonaaCuG
namespace Go.Proofs.Ytdfnfdgkhflonaa
open Go.RowKit
set_option linter.unusedVariables false

/-- What an exported move leaves. -/
def Went (w : World) (C : Nat → Prop) (c N : Nat) (rv : Value) (bs : List Br) (ls : List Int) (ats : List Nat) (st kind key : Int) (w' : World) : Prop :=
  (whyQ bs ls ats kind = 0 → Made w C c N rv bs ls ats st kind key w') ∧ (whyQ bs ls ats kind ≠ 0 → Below w.heap.size w w')

theorem tries_moves {F : Nat} {kind : Int} (hF : Enters F) (hM : Moves F kind) {w : World} {C : Nat → Prop} {c N : Nat} {rv : Value} {bs : List Br} {ls : List Int} {ats : List Nat} {st key : Int} (h : CuM w C c N rv bs ls ats st) (hT : TrieS bs ls) (hs0 : 0 ≤ st) (hs : st ≤ 4611686018427387904) :
    Calls Try.prog 69 #[.pointer (some ⟨c, 0, none⟩), .func (.func F) #[] #[], .int .u64 key] w fun e w' => e = .returned (.int .i64 (whyQ bs ls ats kind)) ∧ Went w C c N rv bs ls ats st kind key w' := by
  obtain ⟨hC, hcN, hN, hrv⟩ := h.rows
  by_cases hq : whyQ bs ls ats kind = 0
  · refine (tries_ok (Q := fun rv' w' => ∃ n, Steps bs ls kind key ats n ∧ CuM w' C c N rv' bs ls (moved bs ls kind key ats) (st + n)) hF (by omega) (fun b hb => (hrv b hb).2) (fun W hb => ((hM W C c N rv bs ls ats st key (h.later hb) hT hs0 hs).1 hq).mono fun e w' ⟨k1, rv', k2, k3⟩ => ⟨k1, rv', k2, k3⟩)).mono ?_
    rintro e w' ⟨rfl, rv', w2, ⟨n, k1, k2⟩, rfl, k3, k4⟩
    have hsz := k3.size
    refine ⟨by rw [hq], fun _ => ⟨rv', ⟨k3.os, k3.tape, k3.output, by simpa using hsz, fun b hb h1 h2 => ?_, k3.rows⟩, n, k1, ?_⟩, fun h => absurd hq h⟩
    · rw [Below.heap_setCell _ _ _ _ (by show b ≠ w.heap.size; omega)]
      exact k3.block b hb h1 h2
    · obtain ⟨_, _, g3, g4⟩ := k2.rows
      refine k2.agree ⟨by simp, fun b hb _ => Below.heap_setCell _ _ _ _ (by show b ≠ w.heap.size; omega)⟩ (Below.heap_setCell _ _ _ _ (by show c ≠ w.heap.size; omega)) (fun b hb => Below.heap_setCell _ _ _ _ (fun e => ?_))
      have e : b = w.heap.size := e
      exact k4 (by rw [← e, hb])
  · refine (tries_no (q := whyQ bs ls ats kind) hF (fun W hb => (hM W C c N rv bs ls ats st key (h.later hb) hT hs0 hs).2 _ rfl hq)).mono ?_
    rintro e w' ⟨rfl, k⟩
    exact ⟨rfl, fun h => absurd h hq, fun _ => k⟩

theorem Went.from {w w1 w' : World} {C : Nat → Prop} {c N : Nat} {rv : Value} {bs : List Br} {ls : List Int} {ats : List Nat} {st kind key : Int} (h : Went w1 C c N rv bs ls ats st kind key w') (hb : Below w.heap.size w w1) : Went w C c N rv bs ls ats st kind key w' :=
  ⟨fun hq => by obtain ⟨rv', k1, k2⟩ := h.1 hq; exact ⟨rv', (Turn.of_below hb c rv).trans k1, k2⟩, fun hq => later_trans hb (h.2 hq)⟩
theorem Went.keeps {w w' : World} {C : Nat → Prop} {c N : Nat} {rv : Value} {bs : List Br} {ls : List Int} {ats : List Nat} {st kind key : Int} (h : Went w C c N rv bs ls ats st kind key w') {X : Nat} (hX : X < w.heap.size) (hc : X ≠ c) (hr : some X ≠ rv.ownBlock) : w'.heap[X]? = w.heap[X]? := by
  by_cases hq : whyQ bs ls ats kind = 0
  · obtain ⟨rv', k1, _⟩ := h.1 hq; exact k1.block X hX hc hr
  · exact (h.2 hq).block X hX

section
variable {w : World} {C : Nat → Prop} {c N : Nat} {rv : Value} {bs : List Br} {ls : List Int} {ats : List Nat} {st : Int}
set_option maxHeartbeats 1000000 in
theorem Open_any (h : CuM w C c N rv bs ls ats st) (hT : TrieS bs ls) (hs0 : 0 ≤ st) (hs : st ≤ 4611686018427387904) :
    Calls Try.prog 26 #[.pointer (some ⟨c, 0, none⟩)] w fun e w' => e = .returned (.int .i64 (whyQ bs ls ats 1)) ∧ Went w C c N rv bs ls ats st 1 0 w' := by
  have HT := Lib.hid (tries_moves (key := 0) enters_open open_moves h hT hs0 hs)
  clear h hT hs0 hs
  go_enter Try.func26, Try.ntmps26
  go_wp2_with (refine HT.out.mono ?_; rintro e w' ⟨rfl, hW⟩)
  go_ret
  exact ⟨rfl, hW⟩
set_option maxHeartbeats 1000000 in
theorem Up_any (h : CuM w C c N rv bs ls ats st) (hT : TrieS bs ls) (hs0 : 0 ≤ st) (hs : st ≤ 4611686018427387904) :
    Calls Try.prog 25 #[.pointer (some ⟨c, 0, none⟩)] w fun e w' => e = .returned (.int .i64 (whyQ bs ls ats 2)) ∧ Went w C c N rv bs ls ats st 2 0 w' := by
  have HT := Lib.hid (tries_moves (key := 0) enters_up up_moves h hT hs0 hs)
  clear h hT hs0 hs
  go_enter Try.func25, Try.ntmps25
  go_wp2_with (refine HT.out.mono ?_; rintro e w' ⟨rfl, hW⟩)
  go_ret
  exact ⟨rfl, hW⟩
set_option maxHeartbeats 1000000 in
theorem Next_any (h : CuM w C c N rv bs ls ats st) (hT : TrieS bs ls) (hs0 : 0 ≤ st) (hs : st ≤ 4611686018427387904) :
    Calls Try.prog 27 #[.pointer (some ⟨c, 0, none⟩)] w fun e w' => e = .returned (.int .i64 (whyQ bs ls ats 3)) ∧ Went w C c N rv bs ls ats st 3 0 w' := by
  have HT := Lib.hid (tries_moves (key := 0) enters_next next_moves h hT hs0 hs)
  clear h hT hs0 hs
  go_enter Try.func27, Try.ntmps27
  go_wp2_with (refine HT.out.mono ?_; rintro e w' ⟨rfl, hW⟩)
  go_ret
  exact ⟨rfl, hW⟩
set_option maxHeartbeats 1000000 in
theorem CSeek_any {key : Int} (h : CuM w C c N rv bs ls ats st) (hT : TrieS bs ls) (hs0 : 0 ≤ st) (hs : st ≤ 4611686018427387904) :
    Calls Try.prog 28 #[.pointer (some ⟨c, 0, none⟩), .int .u64 key] w fun e w' => e = .returned (.int .i64 (whyQ bs ls ats 4)) ∧ Went w C c N rv bs ls ats st 4 key w' := by
  have HT := Lib.hid (tries_moves (key := key) enters_seek seek_moves h hT hs0 hs)
  clear h hT hs0 hs
  go_enter Try.func28, Try.ntmps28
  go_wp2_with (refine HT.out.mono ?_; rintro e w' ⟨rfl, hW⟩)
  go_ret
  exact ⟨rfl, hW⟩
end

/-- The functions of the kinds. -/
def theMoves : Value := .agg #[.nilFunc, .func (.func 73) #[] #[], .func (.func 72) #[] #[], .func (.func 74) #[] #[], .func (.func 75) #[] #[]]
theorem moves_at1 (W : World) : Sem.run Try.prog (Instr.index 109 theMoves (.int .i64 1)) W = .ok (.func (.func 73) #[] #[]) W := by kernel_rfl
theorem moves_at2 (W : World) : Sem.run Try.prog (Instr.index 109 theMoves (.int .i64 2)) W = .ok (.func (.func 72) #[] #[]) W := by kernel_rfl
theorem moves_at3 (W : World) : Sem.run Try.prog (Instr.index 109 theMoves (.int .i64 3)) W = .ok (.func (.func 74) #[] #[]) W := by kernel_rfl
theorem moves_at4 (W : World) : Sem.run Try.prog (Instr.index 109 theMoves (.int .i64 4)) W = .ok (.func (.func 75) #[] #[]) W := by kernel_rfl

set_option maxHeartbeats 1000000 in
theorem moves_any (w : World) : Calls Try.prog 70 #[] w fun e w' => e = .returned theMoves ∧ Below w.heap.size w w' := by
  go_enter Try.func70, Try.ntmps70
  go_wp2
  simp [bodyPost, results, Try.results70, go_sem]
  exact ⟨rfl, later_alloc w _⟩

set_option maxRecDepth 100000 in
set_option maxHeartbeats 2000000 in
theorem Move_kind {w : World} {C : Nat → Prop} {c N : Nat} {rv : Value} {bs : List Br} {ls : List Int} {ats : List Nat} {st kind key : Int} {F : Nat} (hk1 : ¬ kind < 1) (hk4 : ¬ 4 < kind)
    (hix : ∀ W, Sem.run Try.prog (Instr.index 109 theMoves (.int .i64 kind)) W = .ok (.func (.func F) #[] #[]) W) (hF : Enters F) (hM : Moves F kind)
    (h : CuM w C c N rv bs ls ats st) (hT : TrieS bs ls) (hs0 : 0 ≤ st) (hs : st ≤ 4611686018427387904) :
    Calls Try.prog 20 #[.pointer (some ⟨c, 0, none⟩), .agg #[.int .i64 kind, .int .u64 key]] w fun e w' => e = .returned (.int .i64 (whyQ bs ls ats kind)) ∧ Went w C c N rv bs ls ats st kind key w' := by
  have HT := Lib.hid (fun W (hb : Below w.heap.size w W) => tries_moves (key := key) hF hM (h.later hb) hT hs0 hs)
  obtain ⟨v, hv⟩ : ∃ v, theMoves = v := ⟨_, rfl⟩
  have hms := fun W => moves_any W
  rw [hv] at hix
  simp only [hv] at hms
  have hS : ∀ W : World, W.heap[w.heap.size]? = some (.cells #[.int .i64 kind, .int .u64 key] 42 (0, 0)) → W.cell? ⟨w.heap.size, 0, none⟩ = some (.int .i64 kind) ∧ W.cell? ⟨w.heap.size, 1, none⟩ = some (.int .u64 key) := fun W hn =>
    ⟨by simpa using box_cell (i := 0) hn, by simpa using box_cell (i := 1) hn⟩
  have HS := Lib.hid hS
  have HMS := Lib.hid hms
  obtain ⟨hC, hcN, hN, hrv⟩ := h.rows
  have hne : w.heap.size ≠ c := by omega
  have hnr : some w.heap.size ≠ rv.ownBlock := fun e => by have := (hrv _ e.symm).2; omega
  have HN := Lib.hid (And.intro hne hnr)
  clear h hT hs0 hs hms hv hS hrv hne hnr
  go_enter Try.func20, Try.ntmps20
  go_wp2_with fail
  go_region_held3 (fun W => W.cell? ⟨w.heap.size, 0, none⟩ = some (.int .i64 kind) ∧ W.cell? ⟨w.heap.size, 1, none⟩ = some (.int .u64 key))
    (with_reducible (first | exact HS.out _ (box_new _ _ _) | exact HS.out _ hX2 | exact HS.out _ hX1 | assumption))
    (first
      | (go_at_call 70; refine (HMS.out _).mono ?_; rintro e w1 ⟨rfl, hb1⟩; have hbw1 : Below w.heap.size w w1 := later_trans (later_trans (later_alloc w _) (later_drew _)) hb1; have hX1 : w1.heap[w.heap.size]? = some (.cells #[.int .i64 kind, .int .u64 key] 42 (0, 0)) := (hb1.block w.heap.size (by simp)).trans (box_new w _ _))
      | (go_at_call 69; refine (HT.out _ hbw1).mono ?_; rintro e w2 ⟨rfl, hW⟩; have hX2 := (hW.keeps (X := w.heap.size) (lt_of_block hX1) HN.out.1 HN.out.2).trans hX1))
  go_wp2
  go_ret
  exact ⟨rfl, hW.from hbw1⟩
end Go.Proofs.Ytdfnfdgkhflonaa
