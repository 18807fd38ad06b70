/-
  hashed's order of rows, walked.
-/
import Derived.Test.YtdeiinfljfgmeaaHaLib
import Derived.Test.YtdeiinfljfgmeaaHaP
namespace Go.Proofs.Ytdeiinfljfgmeaa
open Go.RowKit
set_option linter.unusedVariables false
set_option linter.unusedSimpArgs false

theorem lexC_step {a b : List Int} {k : Nat} (ha : k < a.length) (hb : k < b.length) : lexC (a.drop k) (b.drop k) = if a.getD k 0 < b.getD k 0 then -1 else if b.getD k 0 < a.getD k 0 then 1 else lexC (a.drop (k + 1)) (b.drop (k + 1)) := by
  rw [List.drop_eq_getElem_cons ha, List.drop_eq_getElem_cons hb, getD_at ha, getD_at hb]
  rfl
set_option maxRecDepth 100000 in
set_option maxHeartbeats 2000000 in
theorem compare_any (n : Nat) (va vb : Value) (a b : List Int) (w : World) (ha : SlI .u64 w va a) (hb : SlI .u64 w vb b) (hal : a.length = n) (hbl : b.length = n) :
    Calls Try.prog 56 #[.agg #[.int .i64 (n : Int)], va, vb] w fun e w' => e = .returned (.int .i64 (lexC a b)) ∧ ∃ q, w' = (w.alloc (.cells #[.int .i64 (n : Int)] 83)).drewN q := by
  have hm : n ≤ 9223372036854775807 := by have := ha.len; unfold maxLen at this; omega
  obtain ⟨aa, ca, rfl, -⟩ := ha.open
  obtain ⟨ab, cb, rfl, -⟩ := hb.open
  rw [hal] at ha ⊢
  rw [hbl] at hb ⊢
  have hbx := later_alloc w (.cells #[.int .i64 (n : Int)] 83)
  have c0 : (w.alloc (.cells #[.int .i64 (n : Int)] 83)).cell? ⟨w.heap.size, 0, none⟩ = some (.int .i64 (n : Int)) := by simp
  have hW1 : ∃ W1, w.alloc (.cells #[.int .i64 (n : Int)] 83) = W1 := ⟨_, rfl⟩
  have H := Lib.hid (And.intro (SlI.later ha hbx) (And.intro (SlI.later hb hbx) (And.intro hal hbl)))
  clear ha hb hal hbl hbx
  go_enter Try.func56, Try.ntmps56
  go_wp2
  obtain ⟨W1, hW1⟩ := hW1
  rw [hW1] at H c0
  rw [hW1]
  have HW1 := Lib.hid hW1
  clear hW1
  go_step3
  go_wp2
  go_step3
  go_wp2
  go_loopw [7, 11] (fun c i wr => ∃ k : Nat, k ≤ n ∧ i = .int .i64 k ∧ c = .int .i64 0 ∧ lexC a b = lexC (a.drop k) (b.drop k) ∧ ∃ q, wr = W1.drewN q) (fun _ i _ => n - (intOf i).toNat)
  case atStart => exact ⟨0, Nat.zero_le _, rfl, rfl, rfl, 0, rfl⟩
  case round =>
    obtain ⟨k, hk, rfl, rfl, hlx, q, rfl⟩ := hrel
    by_cases hlt : k < n
    · have hka : k < a.length := by rw [H.out.2.2.1]; exact hlt
      have hkb : k < b.length := by rw [H.out.2.2.2]; exact hlt
      obtain ⟨_, _, e1, _, _, _, f4⟩ := H.out.1.open
      obtain ⟨ba, oa, e2, _, fc⟩ := f4 (by omega)
      injection e1 with e1a e1b e1c
      subst e1a e1c
      subst e2
      have ca1 := fc k hka
      obtain ⟨_, _, g1, _, _, _, g4⟩ := H.out.2.1.open
      obtain ⟨bb, ob, g2, _, gc⟩ := g4 (by omega)
      injection g1 with g1a g1b g1c
      subst g1a g1c
      subst g2
      have cb1 := gc k hkb
      rw [← getD_at hka] at ca1
      rw [← getD_at hkb] at cb1
      have hst := lexC_step hka hkb
      obtain ⟨x, hx⟩ : ∃ x, a.getD k 0 = x := ⟨_, rfl⟩
      obtain ⟨y, hy⟩ : ∃ y, b.getD k 0 = y := ⟨_, rfl⟩
      rw [hx] at ca1 hst
      rw [hy] at cb1 hst
      have hkI : (k : Int) < n := by omega
      have hkc : k < ca := by omega
      clear fc f4 gc g4 e1b g1b hx hy
      by_cases h1 : x < y
      · have HR : Hid (lexC a b = -1) := Lib.hid (by rw [hlx, hst, if_pos h1])
        clear hst hlx hka hkb
        go_wp2
        go_quiet (fail)
        go_wp2
        rw [Exit.noGoto_ret]
        go_ret
        exact ⟨by rw [HR.out]; rfl, _, by rw [HW1.out]; first | rfl | exact World.drewN_drewN _ _ _ | (rw [World.drewN_drewN, World.drewN_drewN])⟩
      · by_cases h2 : y < x
        · have HR : Hid (lexC a b = 1) := Lib.hid (by rw [hlx, hst, if_neg h1, if_pos h2])
          clear hst hlx hka hkb
          go_wp2
          go_quiet (fail)
          go_wp2
          go_quiet (fail)
          go_wp2
          rw [Exit.noGoto_ret]
          go_ret
          exact ⟨by rw [HR.out]; rfl, _, by rw [HW1.out]; first | rfl | exact World.drewN_drewN _ _ _ | (rw [World.drewN_drewN, World.drewN_drewN])⟩
        · have HR : Hid (lexC a b = lexC (a.drop (k + 1)) (b.drop (k + 1))) := Lib.hid (by rw [hlx, hst, if_neg h1, if_neg h2])
          clear hst hlx hka hkb
          go_wp2
          go_quiet (fail)
          go_wp2
          go_quiet (fail)
          go_wp2
          go_roundw
          case rel => first | exact ⟨k + 1, by omega, by go_num, rfl, HR.out, _, rfl⟩ | ((repeat apply Exists.intro); refine ⟨?_, rfl⟩; exact ⟨k + 1, by omega, by go_num, rfl, HR.out, _, rfl⟩)
          case measure => simp [intOf]; omega
    · obtain rfl : k = n := by omega
      have HR : Hid (lexC a b = 0) := Lib.hid (by rw [hlx, List.drop_of_length_le (by rw [H.out.2.2.1]; omega)]; rfl)
      clear hlx
      go_wp2
      rw [Exit.noGoto_ret]
      go_ret
      exact ⟨by rw [HR.out]; rfl, q, by rw [HW1.out]⟩
end Go.Proofs.Ytdeiinfljfgmeaa
