/-
  The document's answer for leap (colanderref23): Rising, Right, Place; slices.Index and Contains; walked.
-/
import Derived.Test.YtenhpfhadbafbaaLeChk
namespace Go.Proofs.Ytenhpfhadbafbaa
open Go.RowKit
set_option linter.unusedVariables false

set_option maxHeartbeats 400000 in
theorem refrising_any (v : Value) (xs : List Int) (w : World) (h : SlI .u64 w v xs) :
    Calls Try.prog 28 #[v] w fun e w' => e = .returned (.bool (risesB xs)) ∧ w = w' := by
  obtain ⟨a, c, rfl, h1, h2, h3, h4⟩ := h.open
  have hm : xs.length ≤ 9223372036854775807 := by omega
  have HX := Lib.hid h4
  clear h h1 h2 h3 h4
  go_enter Try.func28, Try.ntmps28
  go_wp2
  go_loop [7] (fun i => ∃ k : Nat, k ≤ xs.length ∧ i = .int .i64 k ∧ RisesTo k xs) (fun i => xs.length - (intOf i).toNat)
  case atStart => exact ⟨0, Nat.zero_le _, rfl, risesTo_zero _⟩
  case round =>
    obtain ⟨k, hk, rfl, hs⟩ := hrel
    by_cases hlt : k < xs.length
    · obtain ⟨b, o, rfl, _, hc⟩ := HX.out (by omega)
      have hc1 := hc k hlt
      by_cases hk0 : 0 < k
      · have hc2 := hc (k - 1) (by omega)
        clear hc
        by_cases ht : xs[k] ≤ xs[k - 1]
        · go_wp2
          go_ret
          exact ⟨ret_bool (not_rises hlt hk0 (by omega)).symm, rfl⟩
        · have ht' : xs[k - 1] < xs[k] := by omega
          go_wp2
          go_round
          case rel => exact ⟨k + 1, by omega, by go_num, risesTo_step hs hlt hk0 ht'⟩
          case measure => simp [intOf]; omega
      · obtain rfl : k = 0 := by omega
        have hc0 : w.cell? ⟨b, o, none⟩ = some (.int .u64 xs[0]) := hc1
        clear hc hc1
        go_wp2
        go_round
        case rel => exact ⟨1, by omega, by go_num, risesTo_one _⟩
        case measure => simp [intOf]; omega
    · go_wp2
      go_ret
      exact ⟨ret_bool (risesTo_all hs (by omega)).symm, rfl⟩

set_option maxRecDepth 100000 in
set_option maxHeartbeats 2000000 in
/-- Right. -/
theorem right_any (v : Value) (ls : List (List Int)) (w : World) (h : SlR w v ls) :
    Calls Try.prog 9 #[v] w fun e w' => e = .returned (.bool (okB ls)) ∧ w' = w := by
  obtain ⟨a, c, rfl, h1, h2, h3, h4⟩ := h.open
  have HX := Lib.hid h4
  have hm : ls.length ≤ 9223372036854775807 := by omega
  clear h h1 h2 h3 h4
  go_enter Try.func9, Try.ntmps9
  go_wp2
  go_loopw [7] (fun k wr => ∃ i : Nat, i ≤ ls.length ∧ k = .int .i64 i ∧ (∀ r, r < i → risesB (rowN ls r) = true) ∧ wr = w) (fun k _ => ls.length - (intOf k).toNat)
  case atStart => exact ⟨0, Nat.zero_le _, rfl, fun r h => by omega, rfl⟩
  case round =>
    obtain ⟨i, hi, rfl, hp, rfl⟩ := hrel
    by_cases hlt : i < ls.length
    · obtain ⟨bb, o, rfl, hbw, hcs⟩ := HX.out (by omega)
      obtain ⟨rv, c1, hrv⟩ := hcs i hlt
      have HS := Lib.hid hrv
      have HP := Lib.hid hp
      clear hcs hrv hp
      by_cases hri : risesB (rowN ls i) = true
      · go_wp2_with first
          | (refine (refrising_any _ _ _ HS.out).mono ?_; rintro e w' ⟨rfl, rfl⟩; rw [hri])
          | fail
        go_roundw
        case rel => exact ⟨i + 1, by omega, by go_num, fun r h => by
            by_cases e : r = i
            · subst e; exact hri
            · exact HP.out r (by omega), by first | rfl | trivial⟩
        case measure => simp [intOf]; omega
      · have hno : okB ls = false := Bool.eq_false_iff.2 fun e => hri ((okB_iff.1 e).2.2 i hlt)
        have hri := Bool.eq_false_iff.2 hri
        go_wp2_with first
          | (refine (refrising_any _ _ _ HS.out).mono ?_; rintro e w' ⟨rfl, rfl⟩; rw [hri])
          | fail
        go_ret
        exact ⟨by rw [hno]; rfl, rfl⟩
    · have hall : okB ls = (decide (1 ≤ ls.length) && decide (ls.length ≤ 64)) := by
        have h1 : ∀ r, r < ls.length → risesB (rowN ls r) = true := fun r hr => hp r (by omega)
        cases hb : okB ls with
        | true => have := okB_iff.1 hb; simp [this.1, this.2.1]
        | false =>
          by_cases hc : 1 ≤ ls.length ∧ ls.length ≤ 64
          · exact absurd (okB_iff.2 ⟨hc.1, hc.2, h1⟩) (by simp [hb])
          · symm; rw [Bool.and_eq_false_iff]; simp only [decide_eq_false_iff_not]; omega
      have HALL := Lib.hid hall
      clear hall hp
      by_cases hl1 : 1 ≤ ls.length
      · have hd : decide (1 ≤ (ls.length : Int)) = true := decide_eq_true (by omega)
        have hd2 : decide ((ls.length : Int) ≤ 64) = decide (ls.length ≤ 64) := by congr 1; exact propext (by omega)
        go_wp2
        go_ret
        exact ⟨by rw [HALL.out, decide_eq_true hl1, Bool.true_and]; first | (rw [← hd2]; rfl) | rfl | (trace_state; done), rfl⟩
      · have hd : decide (1 ≤ (ls.length : Int)) = false := decide_eq_false (by omega)
        go_wp2
        go_ret
        exact ⟨by rw [HALL.out, decide_eq_false hl1, Bool.false_and]; rfl, rfl⟩

/-- Is a key none of the first k? -/
def NotIn (xs : List Int) (k : Nat) (key : Int) : Prop := ∀ j, (hj : j < xs.length) → j < k → ¬ xs[j] = key
theorem notIn_zero (xs : List Int) (key : Int) : NotIn xs 0 key := fun j _ h => by omega
theorem notIn_step {xs : List Int} {k : Nat} {key : Int} (h : NotIn xs k key) (hk : k < xs.length) (e : ¬ xs[k] = key) : NotIn xs (k + 1) key := by
  intro j hj h2
  by_cases hjk : j = k
  · subst hjk; exact e
  · exact h j hj (by omega)
theorem notIn_all {xs : List Int} {k : Nat} {key : Int} (h : NotIn xs k key) (hk : xs.length ≤ k) : decide (key ∈ xs) = false := by
  rw [decide_eq_false_iff_not]
  intro hm
  obtain ⟨j, hj, e⟩ := List.getElem_of_mem hm
  exact h j hj (by omega) e
theorem isIn {xs : List Int} {k : Nat} {key : Int} (hk : k < xs.length) (e : xs[k] = key) : decide (key ∈ xs) = true := by
  rw [decide_eq_true_eq, ← e]; exact List.getElem_mem hk

/-- A place that is not negative is told just where the key stands. -/
def Found (xs : List Int) (key r : Int) : Prop := decide (0 ≤ r) = decide (key ∈ xs)
theorem found_at {xs : List Int} {k : Nat} {key : Int} (hk : k < xs.length) (e : xs[k] = key) : Found xs key k := by rw [Found, isIn hk e]; simp
theorem found_not {xs : List Int} {k : Nat} {key : Int} (h : NotIn xs k key) (hk : xs.length ≤ k) : Found xs key (-1) := by rw [Found, notIn_all h hk]; simp

set_option maxHeartbeats 400000 in
/-- slices.Index: where a key stands first, or -1. -/
theorem index_any (v : Value) (xs : List Int) (key : Int) (w : World) (h : SlI .u64 w v xs) :
    Calls Try.prog 39 #[v, .int .u64 key] w fun e w' => ∃ r : Int, e = .returned (.int .i64 r) ∧ Found xs key r ∧ w = w' := by
  obtain ⟨a, c, rfl, h1, h2, h3, h4⟩ := h.open
  have hm : xs.length ≤ 9223372036854775807 := by omega
  have HX := Lib.hid h4
  clear h h1 h2 h3 h4
  go_enter Try.func39, Try.ntmps39
  go_wp2
  go_loop [8] (fun j => ∃ k : Nat, k ≤ xs.length ∧ j = .int .i64 k ∧ NotIn xs k key) (fun j => xs.length - (intOf j).toNat)
  case atStart => exact ⟨0, Nat.zero_le _, rfl, notIn_zero _ _⟩
  case round =>
    obtain ⟨k, hk, rfl, hs⟩ := hrel
    by_cases hlt : k < xs.length
    · obtain ⟨b, o, rfl, _, hc⟩ := HX.out (by omega)
      have hc1 := hc k hlt
      clear hc
      by_cases ht : xs[k] = key
      · have ht' : (key == xs[k]) = true := by simpa using ht.symm
        have HT := Lib.hid ht
        clear ht
        go_wp2
        go_ret
        exact ⟨k, rfl, found_at hlt HT.out, rfl⟩
      · have ht' : (key == xs[k]) = false := by rw [beq_eq_false_iff_ne]; exact fun e => ht e.symm
        go_wp2
        go_round
        case rel => exact ⟨k + 1, by omega, by go_num, notIn_step hs hlt ht⟩
        case measure => simp [intOf]; omega
    · go_wp2
      go_ret
      exact ⟨-1, rfl, found_not hs (by omega), rfl⟩

set_option maxHeartbeats 400000 in
/-- slices.Contains. -/
theorem contains_any (v : Value) (xs : List Int) (key : Int) (w : World) (h : SlI .u64 w v xs) :
    Calls Try.prog 20 #[v, .int .u64 key] w fun e w' => e = .returned (.bool (decide (key ∈ xs))) ∧ w = w' := by
  have hi := Lib.hid (index_any v xs key w h)
  obtain ⟨a, c, rfl, h1, h2, h3, h4⟩ := h.open
  clear h h1 h2 h3 h4
  go_enter Try.func20, Try.ntmps20
  go_wp2_with fail
  refine hi.out.mono ?_
  rintro e w' ⟨r, rfl, hr, rfl⟩
  have HR := Lib.hid hr
  clear hr
  go_wp2_with fail
  go_ret
  exact ⟨ret_bool HR.out, rfl⟩

/-- Where a number stands first; or nowhere. -/
def PlaceR (xs : List Int) (key r : Int) : Prop := (∃ p : Nat, p < xs.length ∧ r = p ∧ xs.getD p 0 = key) ∨ (r = -1 ∧ key ∉ xs)
theorem notIn_mem {xs : List Int} {k : Nat} {key : Int} (h : NotIn xs k key) (hk : xs.length ≤ k) : key ∉ xs := by
  have := notIn_all h hk
  simpa using this
set_option maxHeartbeats 400000 in
/-- Place. -/
theorem place_any (v : Value) (xs : List Int) (key : Int) (w : World) (h : SlI .u64 w v xs) :
    Calls Try.prog 30 #[v, .int .u64 key] w fun e w' => ∃ r : Int, e = .returned (.int .i64 r) ∧ PlaceR xs key r ∧ w = w' := by
  obtain ⟨a, c, rfl, h1, h2, h3, h4⟩ := h.open
  have hm : xs.length ≤ 9223372036854775807 := by omega
  have HX := Lib.hid h4
  clear h h1 h2 h3 h4
  go_enter Try.func30, Try.ntmps30
  go_wp2
  go_loop [9] (fun j => ∃ k : Nat, k ≤ xs.length ∧ j = .int .i64 k ∧ NotIn xs k key) (fun j => xs.length - (intOf j).toNat)
  case atStart => exact ⟨0, Nat.zero_le _, rfl, notIn_zero _ _⟩
  case round =>
    obtain ⟨k, hk, rfl, hs⟩ := hrel
    by_cases hlt : k < xs.length
    · obtain ⟨b, o, rfl, _, hc⟩ := HX.out (by omega)
      have hc1 := hc k hlt
      clear hc
      by_cases ht : xs[k] = key
      · have ht' : (xs[k] == key) = true := by simpa using ht
        have HT := Lib.hid ht
        clear ht
        go_wp2
        go_ret
        exact ⟨k, rfl, .inl ⟨k, hlt, rfl, by rw [getD_at hlt]; exact HT.out⟩, rfl⟩
      · have ht' : (xs[k] == key) = false := by simpa using ht
        go_wp2
        go_round
        case rel => exact ⟨k + 1, by omega, by go_num, notIn_step hs hlt ht⟩
        case measure => simp [intOf]; omega
    · go_wp2
      go_ret
      exact ⟨-1, rfl, .inr ⟨rfl, notIn_mem hs (by omega)⟩, rfl⟩
end Go.Proofs.Ytenhpfhadbafbaa
