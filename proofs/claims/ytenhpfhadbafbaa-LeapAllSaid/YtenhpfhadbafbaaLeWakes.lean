/-
  The laws' own wakes: the layer does something.
-/
import Derived.Test.YtenhpfhadbafbaaLeMine
import Derived.Test.YtenhpfhadbafbaaLeLib
import Derived.Test.YtenhpfhadbafbaaLeRefLp
namespace Go.Proofs.Ytenhpfhadbafbaa
open Go.RowKit
set_option linter.unusedVariables false

theorem sli_lit (k : IntKind) (w : World) (t : TypeId) (xs : List Int) (n : Nat) (hn : n = xs.length) (hm : n ≤ maxLen) (hw : ∀ x ∈ xs, (Lit.int k x).wf = true) :
    SlI k (w.alloc (.cells (xs.map (Value.int k)).toArray t)) (.slice (some ⟨w.heap.size, 0, none⟩) n n) xs := by
  subst hn
  have h := World.ownsRow_lit (base := w.heap.size) (e := t) (size := 1) w (xs.map (Value.int k)).toArray xs.length (Nat.le_refl _) hm (by simp)
  exact SlI.of_owns (n := xs.length) (by simpa using h) hw
theorem small_okB : okB smallR = true := by decide
theorem small_short : ∀ r, r < smallR.length → (rowN smallR r).length ≤ 1000 := by decide
theorem small_nat : ∀ r, r < smallR.length → ∀ n ∈ rowN smallR r, 0 ≤ n := by decide
theorem small_rise : ∀ r, r < smallR.length → risesB (rowN smallR r) = true := by decide
theorem small_common : commonAll smallR = [3, 7] := by decide
theorem small_bound : boundOf smallR.length (minTo smallR smallR.length) (maxTo smallR smallR.length) = 144 := by
  have e1 : smallR.length = 3 := rfl
  have e2 : minTo smallR 3 = 3 := by decide
  have e3 : maxTo smallR 3 = 5 := by decide
  rw [e1, e2, e3]
  unfold boundOf
  rw [show ((1 : Int) + ((5 : Nat) : Int)) = 6 from rfl, lg_half 6 (by decide), lg_half (6 / 2) (by decide), lg_small (6 / 2 / 2) (by decide)]
theorem small_may1 : MayAt smallR [2, 1, 2] := ⟨rfl, by decide⟩
theorem small_may2 : MayAt smallR [4, 5, 3] := ⟨rfl, by decide⟩
theorem small_yes {key : Int} {t : Nat} {ats : List Nat} (h : LeapY smallR (natsOf [2, 1, 2]) ats key t) : ats = [3, 3, 2] := by
  have h2 := leapY_on h 2 (by decide)
  have e : (rowN smallR 2).drop (atN (natsOf [2, 1, 2]) 2) = [7] := by decide
  rw [e, List.mem_singleton] at h2
  subst h2
  rw [← leapY_told h small_rise]
  decide
theorem small_notZ {t : Nat} {ats : List Nat} (h : LeapZ smallR (natsOf [2, 1, 2]) ats t) : False := h.none 7 (by decide)
theorem small_notY {key : Int} {t : Nat} {ats : List Nat} (h : LeapY smallR (natsOf [4, 5, 3]) ats key t) : False := by
  have h2 := leapY_on h 2 (by decide)
  have e : (rowN smallR 2).drop (atN (natsOf [4, 5, 3]) 2) = [] := by decide
  rw [e] at h2
  cases h2

set_option maxRecDepth 100000 in
set_option maxHeartbeats 4000000 in
theorem wakes_any (w : World) : Calls Try.prog 7 #[] w fun e w' => e = .returned (.bool true) ∧ Below w.heap.size w w' := by
  go_enter Try.func7, Try.ntmps7
  go_wp2_with fail
  refine (small_any _).mono ?_
  rintro e w1 ⟨v1, rfl, hR1, hb1⟩
  go_wp2_with fail
  refine (Meet_any _ _ _ hR1 small_short small_nat (by decide)).mono ?_
  rintro e w2 ⟨hb2, h2⟩
  rcases h2 with ⟨h2, -⟩ | ⟨-, vm, n2, rfl, hm2, hn2⟩
  · exact absurd h2 (by rw [small_okB]; decide)
  rw [small_common] at hm2
  rw [small_bound] at hn2
  have hm2 : w2.ownsRow w1.heap.size 40 1 vm 2 ([3, 7].map (Value.int .u64)) := hm2
  obtain ⟨am, cm, rfl⟩ := owns_shape2 hm2
  have hM2 : SlI .u64 w2 (.slice am 2 cm) [3, 7] := SlI.of_owns (n := 2) hm2 (by decide)
  have hb2 := later_trans hb1 hb2
  clear hR1 hb1 hm2
  go_wp2_with fail
  refine (small_any _).mono ?_
  rintro e w3 ⟨v3, rfl, hR3, hb3⟩
  have hM3 := hM2.later hb3
  have hb3 := later_trans hb2 hb3
  clear hM2 hb2
  go_wp2_with fail
  have hba := later_alloc w3 (.cells #[.int .i64 2, .int .i64 1, .int .i64 2] 3)
  refine (Leap_any _ _ _ [2, 1, 2] _ (hR3.later hba) (sli_lit .i64 w3 3 [2, 1, 2] 3 rfl (by decide) (by decide)) small_short small_nat).mono ?_
  rintro e w4 ⟨hb4, h4⟩
  rcases h4 with ⟨h4, -⟩ | ⟨-, h4, -⟩ | ⟨-, -, ats, t4, n4, -, h4⟩
  · exact absurd h4 (by rw [small_okB]; decide)
  · exact absurd small_may1 h4
  rcases h4 with ⟨h4, -⟩ | ⟨key, g4, c4, h4, he4, hown4⟩
  · exact (small_notZ h4).elim
  rw [small_yes h4] at hown4
  rw [show smallR.length = 3 from rfl] at he4
  subst he4
  have hA4 : SlI .i64 w4 (.slice (some ⟨g4, 0, none⟩) 3 c4) [3, 3, 2] := SlI.of_owns (n := 3) hown4 (by decide)
  have hM4 := (hM3.later hba).later hb4
  have hb4 := later_trans hb3 (later_trans hba hb4)
  clear hM3 hb3 h4 hown4 hR3 hba
  go_wp2_with fail
  refine (small_any _).mono ?_
  rintro e w5 ⟨v5, rfl, hR5, hb5⟩
  have hM5 := hM4.later hb5
  have hA5 := hA4.later hb5
  have hb5 := later_trans hb4 hb5
  clear hM4 hA4 hb4
  go_wp2_with fail
  have hba := later_alloc w5 (.cells #[.int .i64 4, .int .i64 5, .int .i64 3] 3)
  refine (Leap_any _ _ _ [4, 5, 3] _ (hR5.later hba) (sli_lit .i64 w5 3 [4, 5, 3] 3 rfl (by decide) (by decide)) small_short small_nat).mono ?_
  rintro e w6 ⟨hb6, h6⟩
  rcases h6 with ⟨h6, -⟩ | ⟨-, h6, -⟩ | ⟨-, -, ats6, t6, n6, -, h6⟩
  · exact absurd h6 (by rw [small_okB]; decide)
  · exact absurd small_may2 h6
  rcases h6 with ⟨-, rfl⟩ | ⟨key6, g6, c6, h6, -, -⟩
  rotate_left
  · exact (small_notY h6).elim
  have hM6 := (hM5.later hba).later hb6
  have hA6 := (hA5.later hba).later hb6
  have hb6 := later_trans hb5 (later_trans hba hb6)
  clear hM5 hA5 hb5 hR5 hba
  go_wp2_with fail
  refine (small_any _).mono ?_
  rintro e w7 ⟨v7, rfl, hR7, hb7⟩
  have hM7 := hM6.later hb7
  have hA7 := hA6.later hb7
  have hb7 := later_trans hb6 hb7
  clear hM6 hA6 hb6
  go_wp2_with fail
  refine (Bound_any _ _ _ hR7 small_short).mono ?_
  rw [if_pos small_okB, if_pos small_okB, small_bound]
  rintro e w8 ⟨rfl, hb8⟩
  have hM8 := Lib.hid (hM7.later hb8)
  have hA8 := Lib.hid (hA7.later hb8)
  have hb8 := Lib.hid (later_trans hb7 hb8)
  have hle : (n2 : Int) ≤ 144 := by omega
  clear hM7 hA7 hb7 hR7
  go_wp2_with fail
  have hba := later_alloc w8 (.cells #[.int .u64 3, .int .u64 7] 40)
  refine (equal_any _ _ [3, 7] [3, 7] _ (hM8.out.later hba) (sli_lit .u64 w8 40 [3, 7] 2 rfl (by decide) (by decide))).mono ?_
  rintro e w9 ⟨rfl, n9, rfl⟩
  have hb9 := Lib.hid (later_trans hb8.out (later_trans hba (later_drewN _ n9)))
  have hA9 := Lib.hid ((hA8.out.later hba).later (later_drewN _ n9))
  rw [show decide (([3, 7] : List Int) = [3, 7]) = true from rfl]
  obtain ⟨W9, hW9⟩ : ∃ W, (w8.alloc (.cells #[.int .u64 3, .int .u64 7] 40)).drewN n9 = W := ⟨_, rfl⟩
  rw [hW9] at hb9 hA9 ⊢
  clear hW9 hba hb8 hM8 hA8
  go_wp2_with fail
  have hba := later_alloc W9 (.cells #[.int .i64 3, .int .i64 3, .int .i64 2] 3)
  refine (equalI_any _ _ [3, 3, 2] [3, 3, 2] _ (hA9.out.later hba) (sli_lit .i64 W9 3 [3, 3, 2] 3 rfl (by decide) (by decide))).mono ?_
  rintro e w10 ⟨rfl, n10, rfl⟩
  have hb10 := later_trans hb9.out (later_trans hba (later_drewN _ n10))
  rw [show decide (([3, 3, 2] : List Int) = [3, 3, 2]) = true from rfl]
  go_wp2_with fail
  go_ret
  exact ⟨rfl, hb10⟩
end Go.Proofs.Ytenhpfhadbafbaa
