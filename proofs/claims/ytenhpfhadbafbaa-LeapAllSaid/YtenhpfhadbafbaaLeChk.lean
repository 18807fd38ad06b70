/-
  Rows that can be leapt through: gallop.Rising, leap.Check, walked.
-/
import Derived.Test.YtenhpfhadbafbaaRows
import Derived.WalkKit
import Derived.WalkSpells
import Derived.WalkLawsBesides
import Derived.Deep.QuietTactic
import Derived.BigQuiet
import Derived.Outline
import Derived.WalkMore
import Derived.Test.YtenhpfhadbafbaaLeRows
namespace Go.Proofs.Ytenhpfhadbafbaa
open Go.RowKit
set_option linter.unusedVariables false

/-- Can rows be leapt through? -/
def okB (ls : List (List Int)) : Bool := decide (1 ≤ ls.length) && decide (ls.length ≤ 64) && ls.all risesB
theorem okB_iff {ls : List (List Int)} : okB ls = true ↔ 1 ≤ ls.length ∧ ls.length ≤ 64 ∧ ∀ r, r < ls.length → risesB (rowN ls r) = true := by
  unfold okB
  simp only [Bool.and_eq_true, decide_eq_true_eq, List.all_eq_true, and_assoc]
  refine and_congr_right fun _ => and_congr_right fun _ => ⟨fun h r hr => h _ ?_, fun h x hx => ?_⟩
  · simp [rowN, List.getD, List.getElem?_eq_getElem hr]
  · obtain ⟨i, hi, rfl⟩ := List.getElem_of_mem hx
    have := h i hi
    simpa [rowN, List.getD, List.getElem?_eq_getElem hi] using this

/-- gallop.Rising. -/
theorem Rising_any (v : Value) (xs : List Int) (w : World) (h : SlI .u64 w v xs) :
    Calls Try.prog 44 #[v] w fun e w' => e = .returned (.bool (risesB xs)) ∧ ∃ n, w' = w.drewN n := by
  go_enter Try.func44, Try.ntmps44
  go_wp2_with first
    | (refine (rises_any _ xs _ h).mono ?_; rintro e w' ⟨rfl, n, rfl⟩)
    | fail
  go_ret
  exact ⟨rfl, n, rfl⟩

set_option maxRecDepth 100000 in
set_option maxHeartbeats 2000000 in
theorem Check_any (v : Value) (ls : List (List Int)) (w : World) (h : SlR w v ls) :
    Calls Try.prog 23 #[v] w fun e w' => e = .returned (.int .i64 (if okB ls = true then 0 else 330)) ∧ ∃ n, w' = w.drewN n := by
  obtain ⟨a, c, rfl, h1, h2, h3, h4⟩ := h.open
  have HX := Lib.hid h4
  have hm : ls.length ≤ 9223372036854775807 := by omega
  clear h h1 h2 h3 h4
  go_enter Try.func23, Try.ntmps23
  by_cases hlen : 1 ≤ ls.length ∧ ls.length ≤ 64
  · obtain ⟨hl1, hl2⟩ := hlen
    go_wp2
    go_step3
    go_wp2
    go_step3
    go_wp2
    go_loopw [3, 16] (fun ok k wr => ∃ i : Nat, i ≤ ls.length ∧ ok = .bool true ∧ k = .int .i64 i ∧ (∀ r, r < i → risesB (rowN ls r) = true) ∧ ∃ n, wr = w.drewN n) (fun _ k _ => ls.length - (intOf k).toNat)
    case atStart => exact ⟨0, Nat.zero_le _, by rw [decide_eq_true (by omega)], rfl, fun r h => by omega, 0, rfl⟩
    case round =>
      obtain ⟨i, hi, rfl, rfl, hp, n, rfl⟩ := hrel
      by_cases hlt : i < ls.length
      · obtain ⟨bb, o, rfl, hbw, hcs⟩ := HX.out (by omega)
        obtain ⟨rv, c1, hrv⟩ := hcs i hlt
        have HS := Lib.hid hrv
        have HP := Lib.hid hp
        clear hcs hrv hp
        by_cases hri : risesB (rowN ls i) = true
        · go_wp2_with first
            | (refine (Rising_any _ _ _ (HS.out.later (later_drewN w n))).mono ?_; rintro e w' ⟨rfl, n', rfl⟩; rw [hri])
            | fail
          exact ⟨⟨i + 1, by omega, rfl, by go_num, fun r h => by
            by_cases e : r = i
            · subst e; exact hri
            · exact HP.out r (by omega), _, rfl⟩, by simp [intOf]; omega⟩
        · have hno : ¬ okB ls = true := fun e => hri ((okB_iff.1 e).2.2 i hlt)
          have hri := Bool.eq_false_iff.2 hri
          go_wp2_with first
            | (refine (Rising_any _ _ _ (HS.out.later (later_drewN w n))).mono ?_; rintro e w' ⟨rfl, n', rfl⟩; rw [hri])
            | fail
          all_goals rw [Exit.noGoto_ret]
          all_goals go_ret
          all_goals exact ⟨by rw [if_neg hno]; rfl, _, rfl⟩
      · have hyes : okB ls = true := okB_iff.2 ⟨hl1, hl2, fun r hr => hp r (by omega)⟩
        go_wp2
        rw [Exit.noGoto_ret]
        go_ret
        exact ⟨by rw [if_pos hyes]; rfl, _, rfl⟩
  · have hno : ¬ okB ls = true := fun e => hlen ⟨(okB_iff.1 e).1, (okB_iff.1 e).2.1⟩
    have hd : 1 ≤ ls.length → decide ((ls.length : Int) ≤ 64) = false := fun h => decide_eq_false (by omega)
    by_cases h0 : ls.length = 0
    · rw [h0]
      go_wp2
      go_step3
      go_wp2
      go_step3
      go_wp2
      go_loopw [3, 16] (fun ok k wr => ok = .bool false ∧ k = .int .i64 0 ∧ wr = w) (fun _ k _ => 0)
      case atStart => exact ⟨rfl, rfl, rfl⟩
      case round =>
        obtain ⟨rfl, rfl, rfl⟩ := hrel
        go_wp2
        rw [Exit.noGoto_ret]
        go_ret
        exact ⟨by rw [if_neg hno]; rfl, 0, rfl⟩
    · have hd := hd (by omega)
      go_wp2
      go_step3
      go_wp2
      go_step3
      go_wp2
      go_loopw [3, 16] (fun ok k wr => ok = .bool false ∧ k = .int .i64 0 ∧ wr = w) (fun _ k _ => 0)
      case atStart => exact ⟨by first | rfl | rw [hd], rfl, rfl⟩
      case round =>
        obtain ⟨rfl, rfl, rfl⟩ := hrel
        obtain ⟨bb, o, rfl, hbw, hcs⟩ := HX.out (by omega)
        obtain ⟨rv, c1, hrv⟩ := hcs 0 (by omega)
        rw [Nat.add_zero] at c1
        go_wp2
        rw [Exit.noGoto_ret]
        go_ret
        exact ⟨by rw [if_neg hno]; rfl, 0, rfl⟩
end Go.Proofs.Ytenhpfhadbafbaa
