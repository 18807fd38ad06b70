/-
  The document's answer for gallop (colanderref04), walked; and slices.Index, slices.Contains.
-/
import Derived.Test.YtlndgjibefbddaaRows
import Derived.WalkKit
import Derived.WalkSpells
import Derived.WalkLawsBesides
import Derived.Deep.QuietTactic
import Derived.BigQuiet
import Derived.Outline
import Derived.Test.YtlndgjibefbddaaPlain
import Derived.Test.YtlndgjibefbddaaBase
import Derived.Test.YtlndgjibefbddaaGal
import Derived.Test.YtlndgjibefbddaaGal2
namespace Go.Proofs.Ytlndgjibefbddaa
open Go.RowKit
set_option linter.unusedVariables false

/-- In no place from i on, ahead of k, is p. -/
def NoneTo (xs : List Int) (i k : Nat) (p : Int → Bool) : Prop := ∀ j, (hj : j < xs.length) → i ≤ j → j < k → p xs[j] = false
theorem noneTo_start (xs : List Int) (i : Nat) (p : Int → Bool) : NoneTo xs i i p := fun j _ h1 h2 => by omega
theorem noneTo_step {xs : List Int} {i k : Nat} {p : Int → Bool} (h : NoneTo xs i k p) (hk : k < xs.length) (e : p xs[k] = false) : NoneTo xs i (k + 1) p := by
  intro j hj h1 h2
  by_cases hjk : j = k
  · subst hjk; exact e
  · exact h j hj h1 (by omega)
theorem noneTo_place {xs : List Int} {i k : Nat} {p : Int → Bool} (h : NoneTo xs i k p) (hi : i ≤ k) (hk : k < xs.length) (e : p xs[k] = true) : place xs i p = k :=
  place_eq hi (by omega) h (fun _ => e)
theorem noneTo_all {xs : List Int} {i k : Nat} {p : Int → Bool} (h : NoneTo xs i k p) (hi : i ≤ k) (hk : k = xs.length) : place xs i p = xs.length :=
  place_eq (by omega) (Nat.le_refl _) (fun j hj h1 h2 => h j hj h1 (by omega)) (fun h => by omega)

set_option maxHeartbeats 400000 in
/-- colanderref04.Rising. -/
theorem refrising_any (v : Value) (xs : List Int) (w : World) (h : SlI .u64 w v xs) :
    Calls Try.prog 14 #[v] w fun e w' => e = .returned (.bool (risesB xs)) ∧ w = w' := by
  obtain ⟨a, c, rfl, h1, h2, h3, h4⟩ := h.open
  have hm : xs.length ≤ 9223372036854775807 := by omega
  have HX := Lib.hid h4
  clear h h1 h2 h3 h4
  go_enter Try.func14, Try.ntmps14
  go_wp2
  go_loop [7] (fun i => ∃ k : Nat, k ≤ xs.length ∧ i = .int .i64 k ∧ RisesTo k xs) (fun i => xs.length - (intOf i).toNat)
  case atStart => exact ⟨0, Nat.zero_le _, rfl, risesTo_zero _⟩
  case round =>
    obtain ⟨k, hk, rfl, hs⟩ := hrel
    by_cases hlt : k < xs.length
    · obtain ⟨b, o, rfl, _, hc⟩ := HX.out (by omega)
      have hc1 := hc k hlt
      by_cases hk0 : 0 < k
      · have hc2 := hc (k - 1) (by omega)
        clear hc
        by_cases ht : xs[k] ≤ xs[k - 1]
        · go_wp2
          go_ret
          exact ⟨ret_bool (not_rises hlt hk0 (by omega)).symm, rfl⟩
        · have ht' : xs[k - 1] < xs[k] := by omega
          go_wp2
          go_round
          case rel => exact ⟨k + 1, by omega, by go_num, risesTo_step hs hlt hk0 ht'⟩
          case measure => simp [intOf]; omega
      · obtain rfl : k = 0 := by omega
        have hc0 : w.cell? ⟨b, o, none⟩ = some (.int .u64 xs[0]) := hc1
        clear hc hc1
        go_wp2
        go_round
        case rel => exact ⟨1, by omega, by go_num, risesTo_one _⟩
        case measure => simp [intOf]; omega
    · go_wp2
      go_ret
      exact ⟨ret_bool (risesTo_all hs (by omega)).symm, rfl⟩

set_option maxHeartbeats 400000 in
/-- colanderref04.Seek. -/
theorem refseek_any (v : Value) (xs : List Int) (i : Nat) (key : Int) (w : World) (h : SlI .u64 w v xs) (hi : i ≤ xs.length) :
    Calls Try.prog 19 #[v, .int .i64 i, .int .u64 key] w fun e w' => e = .returned (.int .i64 (place xs i (geB key))) ∧ w = w' := by
  obtain ⟨a, c, rfl, h1, h2, h3, h4⟩ := h.open
  have hm : xs.length ≤ 9223372036854775807 := by omega
  have HX := Lib.hid h4
  clear h h1 h2 h3 h4
  go_enter Try.func19, Try.ntmps19
  go_wp2
  go_loop [7] (fun j => ∃ k : Nat, i ≤ k ∧ k ≤ xs.length ∧ j = .int .i64 k ∧ NoneTo xs i k (geB key)) (fun j => xs.length - (intOf j).toNat)
  case atStart => exact ⟨i, Nat.le_refl _, hi, rfl, noneTo_start _ _ _⟩
  case round =>
    obtain ⟨k, hik, hk, rfl, hs⟩ := hrel
    by_cases hlt : k < xs.length
    · obtain ⟨b, o, rfl, _, hc⟩ := HX.out (by omega)
      have hc1 := hc k hlt
      clear hc
      by_cases ht : key ≤ xs[k]
      · go_wp2
        go_ret
        exact ⟨ret_int (by rw [noneTo_place hs hik hlt (by simp [geB]; exact ht)]), rfl⟩
      · have ht' : xs[k] < key := by omega
        go_wp2
        go_round
        case rel => exact ⟨k + 1, by omega, by omega, by go_num, noneTo_step hs hlt (by simp [geB]; omega)⟩
        case measure => simp [intOf]; omega
    · go_wp2
      go_ret
      exact ⟨ret_int (by rw [noneTo_all hs hik (by omega)]), rfl⟩

set_option maxHeartbeats 400000 in
/-- colanderref04.Behind. -/
theorem refbehind_any (v : Value) (xs : List Int) (i : Nat) (key : Int) (w : World) (h : SlI .u64 w v xs) (hi : i ≤ xs.length) :
    Calls Try.prog 20 #[v, .int .i64 i, .int .u64 key] w fun e w' => e = .returned (.int .i64 (place xs i (gtB key))) ∧ w = w' := by
  obtain ⟨a, c, rfl, h1, h2, h3, h4⟩ := h.open
  have hm : xs.length ≤ 9223372036854775807 := by omega
  have HX := Lib.hid h4
  clear h h1 h2 h3 h4
  go_enter Try.func20, Try.ntmps20
  go_wp2
  go_loop [7] (fun j => ∃ k : Nat, i ≤ k ∧ k ≤ xs.length ∧ j = .int .i64 k ∧ NoneTo xs i k (gtB key)) (fun j => xs.length - (intOf j).toNat)
  case atStart => exact ⟨i, Nat.le_refl _, hi, rfl, noneTo_start _ _ _⟩
  case round =>
    obtain ⟨k, hik, hk, rfl, hs⟩ := hrel
    by_cases hlt : k < xs.length
    · obtain ⟨b, o, rfl, _, hc⟩ := HX.out (by omega)
      have hc1 := hc k hlt
      clear hc
      by_cases ht : key < xs[k]
      · go_wp2
        go_ret
        exact ⟨ret_int (by rw [noneTo_place hs hik hlt (by simp [gtB]; exact ht)]), rfl⟩
      · have ht' : xs[k] ≤ key := by omega
        go_wp2
        go_round
        case rel => exact ⟨k + 1, by omega, by omega, by go_num, noneTo_step hs hlt (by simp [gtB]; omega)⟩
        case measure => simp [intOf]; omega
    · go_wp2
      go_ret
      exact ⟨ret_int (by rw [noneTo_all hs hik (by omega)]), rfl⟩

/-- Is a key none of the first k? -/
def NotIn (xs : List Int) (k : Nat) (key : Int) : Prop := ∀ j, (hj : j < xs.length) → j < k → ¬ xs[j] = key
theorem notIn_zero (xs : List Int) (key : Int) : NotIn xs 0 key := fun j _ h => by omega
theorem notIn_step {xs : List Int} {k : Nat} {key : Int} (h : NotIn xs k key) (hk : k < xs.length) (e : ¬ xs[k] = key) : NotIn xs (k + 1) key := by
  intro j hj h2
  by_cases hjk : j = k
  · subst hjk; exact e
  · exact h j hj (by omega)
theorem notIn_all {xs : List Int} {k : Nat} {key : Int} (h : NotIn xs k key) (hk : xs.length ≤ k) : decide (key ∈ xs) = false := by
  rw [decide_eq_false_iff_not]
  intro hm
  obtain ⟨j, hj, e⟩ := List.getElem_of_mem hm
  exact h j hj (by omega) e
theorem isIn {xs : List Int} {k : Nat} {key : Int} (hk : k < xs.length) (e : xs[k] = key) : decide (key ∈ xs) = true := by
  rw [decide_eq_true_eq, ← e]; exact List.getElem_mem hk

set_option maxHeartbeats 400000 in
/-- colanderref04.Has. -/
theorem refhas_any (v : Value) (xs : List Int) (key : Int) (w : World) (h : SlI .u64 w v xs) :
    Calls Try.prog 22 #[v, .int .u64 key] w fun e w' => e = .returned (.bool (decide (key ∈ xs))) ∧ w = w' := by
  obtain ⟨a, c, rfl, h1, h2, h3, h4⟩ := h.open
  have hm : xs.length ≤ 9223372036854775807 := by omega
  have HX := Lib.hid h4
  clear h h1 h2 h3 h4
  go_enter Try.func22, Try.ntmps22
  go_wp2
  go_loop [9] (fun j => ∃ k : Nat, k ≤ xs.length ∧ j = .int .i64 k ∧ NotIn xs k key) (fun j => xs.length - (intOf j).toNat)
  case atStart => exact ⟨0, Nat.zero_le _, rfl, notIn_zero _ _⟩
  case round =>
    obtain ⟨k, hk, rfl, hs⟩ := hrel
    by_cases hlt : k < xs.length
    · obtain ⟨b, o, rfl, _, hc⟩ := HX.out (by omega)
      have hc1 := hc k hlt
      clear hc
      by_cases ht : xs[k] = key
      · have ht' : (xs[k] == key) = true := by simpa using ht
        have HT := Lib.hid ht
        clear ht
        go_wp2
        go_ret
        exact ⟨ret_bool (isIn hlt HT.out).symm, rfl⟩
      · have ht' : (xs[k] == key) = false := by simpa using ht
        go_wp2
        go_round
        case rel => exact ⟨k + 1, by omega, by go_num, notIn_step hs hlt ht⟩
        case measure => simp [intOf]; omega
    · go_wp2
      go_ret
      exact ⟨ret_bool (notIn_all hs (by omega)).symm, rfl⟩

/-- A place that is not negative is told just where the key stands. -/
def Found (xs : List Int) (key r : Int) : Prop := decide (0 ≤ r) = decide (key ∈ xs)
theorem found_at {xs : List Int} {k : Nat} {key : Int} (hk : k < xs.length) (e : xs[k] = key) : Found xs key k := by rw [Found, isIn hk e]; simp
theorem found_not {xs : List Int} {k : Nat} {key : Int} (h : NotIn xs k key) (hk : xs.length ≤ k) : Found xs key (-1) := by rw [Found, notIn_all h hk]; simp

set_option maxHeartbeats 400000 in
/-- slices.Index: where a key stands first, or -1. -/
theorem index_any (v : Value) (xs : List Int) (key : Int) (w : World) (h : SlI .u64 w v xs) :
    Calls Try.prog 40 #[v, .int .u64 key] w fun e w' => ∃ r : Int, e = .returned (.int .i64 r) ∧ Found xs key r ∧ w = w' := by
  obtain ⟨a, c, rfl, h1, h2, h3, h4⟩ := h.open
  have hm : xs.length ≤ 9223372036854775807 := by omega
  have HX := Lib.hid h4
  clear h h1 h2 h3 h4
  go_enter Try.func40, Try.ntmps40
  go_wp2
  go_loop [8] (fun j => ∃ k : Nat, k ≤ xs.length ∧ j = .int .i64 k ∧ NotIn xs k key) (fun j => xs.length - (intOf j).toNat)
  case atStart => exact ⟨0, Nat.zero_le _, rfl, notIn_zero _ _⟩
  case round =>
    obtain ⟨k, hk, rfl, hs⟩ := hrel
    by_cases hlt : k < xs.length
    · obtain ⟨b, o, rfl, _, hc⟩ := HX.out (by omega)
      have hc1 := hc k hlt
      clear hc
      by_cases ht : xs[k] = key
      · have ht' : (key == xs[k]) = true := by simpa using ht.symm
        have HT := Lib.hid ht
        clear ht
        go_wp2
        go_ret
        exact ⟨k, rfl, found_at hlt HT.out, rfl⟩
      · have ht' : (key == xs[k]) = false := by rw [beq_eq_false_iff_ne]; exact fun e => ht e.symm
        go_wp2
        go_round
        case rel => exact ⟨k + 1, by omega, by go_num, notIn_step hs hlt ht⟩
        case measure => simp [intOf]; omega
    · go_wp2
      go_ret
      exact ⟨-1, rfl, found_not hs (by omega), rfl⟩

set_option maxHeartbeats 400000 in
/-- slices.Contains. -/
theorem contains_any (v : Value) (xs : List Int) (key : Int) (w : World) (h : SlI .u64 w v xs) :
    Calls Try.prog 27 #[v, .int .u64 key] w fun e w' => e = .returned (.bool (decide (key ∈ xs))) ∧ w = w' := by
  have hi := Lib.hid (index_any v xs key w h)
  obtain ⟨a, c, rfl, h1, h2, h3, h4⟩ := h.open
  clear h h1 h2 h3 h4
  go_enter Try.func27, Try.ntmps27
  go_wp2_with fail
  refine hi.out.mono ?_
  rintro e w' ⟨r, rfl, hr, rfl⟩
  have HR := Lib.hid hr
  clear hr
  go_wp2_with fail
  go_ret
  exact ⟨ret_bool HR.out, rfl⟩

set_option maxHeartbeats 400000 in
/-- colanderref04.Looks, where the looks are few. -/
theorem reflooks_ok (n i at_ looks : Nat) (w : World) (hn : n ≤ 1099511627776) (hi : i ≤ n) (hia : i ≤ at_) (han : at_ ≤ n) (h : FewLooks n i at_ looks) :
    Calls Try.prog 26 #[.int .i64 n, .int .i64 i, .int .i64 at_, .int .i64 looks] w fun e w' => e = .returned (.bool true) ∧ w = w' := by
  obtain ⟨he, hl⟩ := h
  by_cases hin : i = n
  · have h0 := he hin
    subst hin
    subst h0
    clear he hl
    go_enter Try.func26, Try.ntmps26
    go_wp2
    go_ret
    exact ⟨rfl, rfl⟩
  · obtain ⟨h1, h2⟩ := hl (by omega)
    have hb := lg_le (1 + (at_ : Int) - i) (by omega)
    have hcall := fun W => reflog_any (1 + (at_ : Int) - i) (by omega) (by omega) W
    have hne : ((i : Int) == n) = false := by rw [beq_eq_false_iff_ne]; omega
    have HC := Lib.hid hcall
    clear he hl hcall hin
    go_enter Try.func26, Try.ntmps26
    go_wp2_with fail
    refine (HC.out _).mono ?_
    rintro e w' ⟨rfl, rfl⟩
    go_wp2_with fail
    go_ret
    exact ⟨ret_bool (by simp; omega), rfl⟩
end Go.Proofs.Ytlndgjibefbddaa
