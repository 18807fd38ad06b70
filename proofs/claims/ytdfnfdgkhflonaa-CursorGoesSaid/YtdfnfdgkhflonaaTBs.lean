/-
  slices.BinarySearch at numbers, walked.
-/
import Derived.Test.YtdfnfdgkhflonaaRows
import Derived.WalkKit
import Derived.WalkSpells
import Derived.WalkLawsBesides
import Derived.Deep.QuietTactic
import Derived.BigQuiet
import Derived.Outline
import Derived.WalkMore
import Derived.Test.YtdfnfdgkhflonaaBase
import Derived.Test.YtdfnfdgkhflonaaBase2
import Derived.Test.YtdfnfdgkhflonaaTCmp
import Derived.Test.YtdfnfdgkhflonaaTRunC
namespace Go.Proofs.Ytdfnfdgkhflonaa
open Go.RowKit
set_option linter.unusedVariables false

set_option maxHeartbeats 1000000 in
theorem lessU_any (x y : Int) (w : World) : Calls Try.prog 115 #[.int .u64 x, .int .u64 y] w fun e w' => e = .returned (.bool (decide (x < y))) ∧ w' = w := by
  go_enter Try.func115, Try.ntmps115
  go_wp2_with (go_at_call 117; refine (isNaN_any _ _).mono ?_; rintro e w' ⟨rfl, rfl⟩)
  go_ret
  exact ⟨rfl, rfl⟩

theorem isNaNS_any (x : Int) (w : World) : Calls Try.prog 116 #[.int .u64 x] w fun e w' => e = .returned (.bool false) ∧ w' = w := by
  have h : (x != x) = false := by simp
  go_enter Try.func116, Try.ntmps116
  go_wp2
  go_ret
  exact ⟨rfl, rfl⟩

/-- The numbers rise. -/
def RisesL (xs : List Int) : Prop := ∀ i j, (hij : i < j) → (hj : j < xs.length) → xs[i] < xs[j]

set_option maxRecDepth 100000 in
set_option maxHeartbeats 2000000 in
theorem bs_any (v : Value) (xs : List Int) (key : Int) (w : World) (h : SlI .u64 w v xs) (hr : RisesL xs) (hl : xs.length ≤ 1099511627776) :
    Calls Try.prog 86 #[v, .int .u64 key] w fun e w' => ∃ at_ : Int, e = .returned (.tuple #[.int .i64 at_, .bool (decide (key ∈ xs))]) ∧ ∃ n, w' = w.drewN n := by
  obtain ⟨a, c, rfl, h1, h2, h3, h4⟩ := h.open
  have HX := Lib.hid h4
  have HR := Lib.hid hr
  clear h h1 h2 h3 h4 hr
  go_enter Try.func86, Try.ntmps86
  go_wp2
  go_loopw [7, 8] (fun lo hi wr => ∃ l h : Nat, l ≤ h ∧ h ≤ xs.length ∧ lo = .int .i64 l ∧ hi = .int .i64 h ∧ (∀ j, j < l → (hj : j < xs.length) → xs[j] < key) ∧ (∀ j, h ≤ j → (hj : j < xs.length) → key ≤ xs[j]) ∧ ∃ n, wr = w.drewN n) (fun lo hi _ => (intOf hi - intOf lo).toNat)
  case atStart => exact ⟨0, xs.length, Nat.zero_le _, Nat.le_refl _, rfl, rfl, fun j hj => by omega, fun j hj hj' => by omega, 0, rfl⟩
  case round =>
    obtain ⟨l, h, hlh, hhn, rfl, rfl, hlo, hhi, n, rfl⟩ := hrel
    have HLO := Lib.hid hlo
    have HHI := Lib.hid hhi
    clear hlo hhi
    by_cases hlt : l < h
    · obtain ⟨b, o, rfl, hbw, hcs⟩ := HX.out (by omega)
      obtain ⟨m, hm⟩ : ∃ m, (l + h) / 2 = m := ⟨_, rfl⟩
      have hml : m < xs.length := by omega
      have hc := hcs m hml
      obtain ⟨x, hx⟩ : ∃ x, xs[m] = x := ⟨_, rfl⟩
      rw [hx] at hc
      clear hcs
      go_wp2_with (go_at_call 115; refine (lessU_any _ _ _).mono ?_; rintro e w2 ⟨rfl, rfl⟩)
      · have hk : x < key := by assumption
        go_roundw
        case rel => exact ⟨m + 1, h, by omega, hhn, by congr 1; omega, rfl, fun j hj hj' => by
          by_cases e : j = m
          · subst e; rw [hx]; exact hk
          · have := HR.out j m (by omega) hml; omega, HHI.out, _, rfl⟩
        case measure => simp [intOf]; omega
      · have hk : key ≤ x := by assumption
        go_roundw
        case rel => exact ⟨l, m, by omega, by omega, rfl, by congr 1; omega, HLO.out, fun j hj hj' => by
          by_cases e : j = m
          · subst e; rw [hx]; exact hk
          · have := HR.out m j (by omega) hj'; omega, _, rfl⟩
        case measure => simp [intOf]; omega
    · obtain rfl : l = h := by omega
      by_cases hl0 : l = xs.length
      · have HNO := Lib.hid (show decide (key ∈ xs) = false from decide_eq_false (fun hm => by
          obtain ⟨i, hi, he⟩ := List.getElem_of_mem hm
          have := HLO.out i (by omega) hi; omega))
        have hle : ¬ l < xs.length := by omega
        go_wp2
        go_ret2
        exact ⟨_, by rw [HNO.out]; rfl, n, rfl⟩
      · have hll : l < xs.length := by omega
        obtain ⟨b, o, rfl, hbw, hcs⟩ := HX.out (by omega)
        have hc := hcs l hll
        obtain ⟨x, hx⟩ : ∃ x, xs[l] = x := ⟨_, rfl⟩
        rw [hx] at hc
        clear hcs
        by_cases hk : x = key
        · have hkb : (x == key) = true := beq_iff_eq.2 hk
          have HNO := Lib.hid (show decide (key ∈ xs) = true from decide_eq_true (by rw [← hk, ← hx]; exact List.getElem_mem hll))
          clear hk
          go_wp2_with (go_at_call 116; refine (isNaNS_any _ _).mono ?_; rintro e w2 ⟨rfl, rfl⟩)
          go_ret2
          exact ⟨_, by rw [HNO.out]; rfl, n, rfl⟩
        · have hkb : (x == key) = false := beq_eq_false_iff_ne.2 hk
          have HNO := Lib.hid (show decide (key ∈ xs) = false from decide_eq_false (fun hm => by
            obtain ⟨i, hi, he⟩ := List.getElem_of_mem hm
            by_cases e1 : i < l
            · have := HLO.out i e1 hi; omega
            · have h2 := HHI.out l (Nat.le_refl _) hll
              by_cases e2 : i = l
              · subst e2; rw [hx] at he; exact hk he
              · have := HR.out l i (by omega) hi; omega))
          clear hk
          go_wp2_with (go_at_call 116; refine (isNaNS_any _ _).mono ?_; rintro e w2 ⟨rfl, rfl⟩)
          go_ret2
          exact ⟨_, by rw [HNO.out]; rfl, n, rfl⟩
end Go.Proofs.Ytdfnfdgkhflonaa
