/-
  slices.Compare at rows of int: how two rows stand.
-/
import Derived.Test.YtplidcbfbonjlaaDoorHzLib
namespace Go.Proofs.YtplidcbfbonjlaaDoor
open Go.RowKit
set_option linter.unusedVariables false
set_option linter.unusedSimpArgs false

/-- How two rows stand: -1, 0, 1. -/
def cmpL : List Int → List Int → Int
  | [], [] => 0
  | [], _ :: _ => -1
  | _ :: _, [] => 1
  | x :: a, y :: b => if x < y then -1 else if y < x then 1 else cmpL a b
theorem cmpL_cases (a b : List Int) : cmpL a b = -1 ∨ cmpL a b = 0 ∨ cmpL a b = 1 := by
  induction a generalizing b with
  | nil => cases b with
    | nil => exact .inr (.inl rfl)
    | cons y b => exact .inl rfl
  | cons x a ih =>
    cases b with
    | nil => exact .inr (.inr rfl)
    | cons y b =>
      unfold cmpL
      split
      · exact .inl rfl
      · split
        · exact .inr (.inr rfl)
        · exact ih b
theorem cmpL_self (a : List Int) : cmpL a a = 0 := by
  induction a with
  | nil => rfl
  | cons x a ih => unfold cmpL; rw [if_neg (by omega), if_neg (by omega), ih]
theorem cmpL_neg (a b : List Int) : cmpL b a = -cmpL a b := by
  induction a generalizing b with
  | nil => cases b <;> rfl
  | cons x a ih =>
    cases b with
    | nil => rfl
    | cons y b =>
      unfold cmpL
      by_cases h1 : x < y
      · rw [if_neg (by omega), if_pos h1, if_pos h1]; rfl
      · by_cases h2 : y < x
        · rw [if_pos h2, if_neg h1, if_pos h2]
        · rw [if_neg h2, if_neg h1, if_neg h1, if_neg h2, ih]
theorem cmpL_eq {a b : List Int} (h : cmpL a b = 0) : a = b := by
  induction a generalizing b with
  | nil => cases b with
    | nil => rfl
    | cons y b => cases h
  | cons x a ih =>
    cases b with
    | nil => cases h
    | cons y b =>
      unfold cmpL at h
      by_cases h1 : x < y
      · rw [if_pos h1] at h; omega
      · by_cases h2 : y < x
        · rw [if_neg h1, if_pos h2] at h; omega
        · rw [if_neg h1, if_neg h2] at h
          rw [ih h, show x = y by omega]
theorem cmpL_trans {a b c : List Int} (hab : cmpL a b = -1) (hbc : cmpL b c = -1) : cmpL a c = -1 := by
  induction a generalizing b c with
  | nil =>
    cases b with
    | nil => cases hab
    | cons y b => cases c with
      | nil => cases hbc
      | cons z c => rfl
  | cons x a ih =>
    cases b with
    | nil => cases hab
    | cons y b =>
      cases c with
      | nil => cases hbc
      | cons z c =>
        unfold cmpL at hab hbc ⊢
        by_cases p1 : x < y
        · by_cases q1 : y < z
          · rw [if_pos (by omega)]
          · by_cases q2 : z < y
            · rw [if_neg q1, if_pos q2] at hbc; omega
            · rw [if_pos (by omega)]
        · by_cases p2 : y < x
          · rw [if_neg p1, if_pos p2] at hab; omega
          · by_cases q1 : y < z
            · rw [if_pos (by omega)]
            · by_cases q2 : z < y
              · rw [if_neg q1, if_pos q2] at hbc; omega
              · rw [if_neg p1, if_neg p2] at hab
                rw [if_neg q1, if_neg q2] at hbc
                rw [if_neg (by omega), if_neg (by omega)]
                exact ih hab hbc
/-- Rows that rise. -/
def RiseC (l : List (List Int)) : Prop := l.Pairwise fun a b => cmpL a b = -1
/-- Rows that rise, with the same members, are the same. -/
theorem riseC_unique : ∀ {l m : List (List Int)}, RiseC l → RiseC m → (∀ x, x ∈ l ↔ x ∈ m) → l = m
  | [], [], _, _, _ => rfl
  | [], b :: m, _, _, h => absurd ((h b).2 (List.mem_cons_self ..)) List.not_mem_nil
  | a :: l, [], _, _, h => absurd ((h a).1 (List.mem_cons_self ..)) List.not_mem_nil
  | a :: l, b :: m, h1, h2, h => by
    obtain ⟨p1, p2⟩ := List.pairwise_cons.1 h1
    obtain ⟨q1, q2⟩ := List.pairwise_cons.1 h2
    have irr : ∀ x, cmpL x x ≠ -1 := fun x => by rw [cmpL_self]; decide
    have e : a = b := by
      rcases List.mem_cons.1 ((h a).1 (List.mem_cons_self ..)) with e | e
      · exact e
      · rcases List.mem_cons.1 ((h b).2 (List.mem_cons_self ..)) with e' | e'
        · exact e'.symm
        · exact absurd (cmpL_trans (p1 b e') (q1 a e)) (irr a)
    subst e
    rw [riseC_unique p2 q2 fun x => ?_]
    constructor
    · intro hx
      rcases List.mem_cons.1 ((h x).1 (List.mem_cons_of_mem _ hx)) with e | e
      · subst e; exact absurd (p1 x hx) (irr x)
      · exact e
    · intro hx
      rcases List.mem_cons.1 ((h x).2 (List.mem_cons_of_mem _ hx)) with e | e
      · subst e; exact absurd (q1 x hx) (irr x)
      · exact e
theorem cmpI_any (x y : Int) (w : World) : Calls Tryd.prog 62 #[.int .i64 x, .int .i64 y] w fun e w' => e = .returned (.int .i64 (if x < y then -1 else if y < x then 1 else 0)) ∧ w' = w := by
  have hN : ∀ (x : Int) (w : World), Calls Tryd.prog 65 #[.int .i64 x] w fun e w' => e = .returned (.bool false) ∧ w' = w := fun x w => by
    go_enter Tryd.func65, Tryd.ntmps65
    go_wp2
    go_ret
    simp
  by_cases h1 : x < y
  · rw [if_pos h1]
    go_enter Tryd.func62, Tryd.ntmps62
    go_wp2_with fail
    refine (hN x _).mono ?_
    rintro e w' ⟨rfl, rfl⟩
    go_wp2_with fail
    refine (hN y _).mono ?_
    rintro e w' ⟨rfl, rfl⟩
    go_wp2_with fail
    go_ret
    exact ⟨rfl, rfl⟩
  · by_cases h2 : y < x
    · rw [if_neg h1, if_pos h2]
      go_enter Tryd.func62, Tryd.ntmps62
      go_wp2_with fail
      refine (hN x _).mono ?_
      rintro e w' ⟨rfl, rfl⟩
      go_wp2_with fail
      refine (hN y _).mono ?_
      rintro e w' ⟨rfl, rfl⟩
      go_wp2_with fail
      go_ret
      exact ⟨rfl, rfl⟩
    · rw [if_neg h1, if_neg h2]
      go_enter Tryd.func62, Tryd.ntmps62
      go_wp2_with fail
      refine (hN x _).mono ?_
      rintro e w' ⟨rfl, rfl⟩
      go_wp2_with fail
      refine (hN y _).mono ?_
      rintro e w' ⟨rfl, rfl⟩
      go_wp2_with fail
      go_ret
      exact ⟨rfl, rfl⟩
theorem cmpL_step {a b : List Int} {k : Nat} (ha : k < a.length) (hb : k < b.length) : cmpL (a.drop k) (b.drop k) = if a.getD k 0 < b.getD k 0 then -1 else if b.getD k 0 < a.getD k 0 then 1 else cmpL (a.drop (k + 1)) (b.drop (k + 1)) := by
  rw [List.drop_eq_getElem_cons ha, List.drop_eq_getElem_cons hb, getD_at ha, getD_at hb]
  rfl
set_option maxRecDepth 100000 in
set_option maxHeartbeats 2000000 in
/-- slices.Compare: it only reads. -/
theorem CompareI_any (va vb : Value) (a b : List Int) (w : World) (ha : SlI .i64 w va a) (hb : SlI .i64 w vb b) :
    Calls Tryd.prog 41 #[va, vb] w fun e w' => e = .returned (.int .i64 (cmpL a b)) ∧ w' = w := by
  have hm : a.length ≤ 9223372036854775807 := by have := ha.len; unfold maxLen at this; omega
  have hm2 : b.length ≤ 9223372036854775807 := by have := hb.len; unfold maxLen at this; omega
  obtain ⟨aa, ca, rfl, la, -⟩ := ha.open
  obtain ⟨ab, cb, rfl, lb, -⟩ := hb.open
  have H := Lib.hid (And.intro ha hb)
  clear ha hb
  obtain ⟨na, hna⟩ : ∃ n, a.length = n := ⟨_, rfl⟩
  obtain ⟨nb, hnb⟩ : ∃ n, b.length = n := ⟨_, rfl⟩
  rw [hna] at H hm la ⊢
  rw [hnb] at H hm2 lb ⊢
  have HL := Lib.hid (And.intro hna hnb)
  clear hna hnb
  go_enter Tryd.func41, Tryd.ntmps41
  go_wp2_with fail
  go_loop [11] (fun i => ∃ k : Nat, k ≤ na ∧ k ≤ nb ∧ i = .int .i64 k ∧ cmpL a b = cmpL (a.drop k) (b.drop k)) (fun i => na - (intOf i).toNat)
  case atStart => exact ⟨0, Nat.zero_le _, Nat.zero_le _, rfl, rfl⟩
  case round =>
    obtain ⟨k, hk, hkb, rfl, hlx⟩ := hrel
    by_cases hlt : k < na
    · have hka : k < a.length := by rw [HL.out.1]; exact hlt
      obtain ⟨_, _, e1, _, _, _, f4⟩ := H.out.1.open
      obtain ⟨ba, oa, e2, _, fc⟩ := f4 (by omega)
      injection e1 with e1a e1b e1c
      subst e1a e1c
      subst e2
      have ca1 := fc k hka
      by_cases hltb : k < nb
      · have hkb' : k < b.length := by rw [HL.out.2]; exact hltb
        obtain ⟨_, _, g1, _, _, _, g4⟩ := H.out.2.open
        obtain ⟨bb, ob, g2, _, gc⟩ := g4 (by omega)
        injection g1 with g1a g1b g1c
        subst g1a g1c
        subst g2
        have cb1 := gc k hkb'
        rw [← getD_at hka] at ca1
        rw [← getD_at hkb'] at cb1
        have hst := cmpL_step hka hkb'
        obtain ⟨x, hx⟩ : ∃ x, a.getD k 0 = x := ⟨_, rfl⟩
        obtain ⟨y, hy⟩ : ∃ y, b.getD k 0 = y := ⟨_, rfl⟩
        rw [hx] at ca1 hst
        rw [hy] at cb1 hst
        have hC := cmpI_any x y w
        obtain ⟨c, hc⟩ : ∃ c, (if x < y then (-1 : Int) else if y < x then 1 else 0) = c := ⟨_, rfl⟩
        rw [hc] at hC
        have hst2 : (c = 0 → cmpL a b = cmpL (a.drop (k + 1)) (b.drop (k + 1))) ∧ (c ≠ 0 → cmpL a b = c) := by
          rw [hlx, hst, ← hc]
          by_cases h1 : x < y
          · rw [if_pos h1, if_pos h1]; exact ⟨(fun h => by cases h), fun _ => rfl⟩
          · by_cases h2 : y < x
            · rw [if_neg h1, if_pos h2, if_neg h1, if_pos h2]; exact ⟨(fun h => by cases h), fun _ => rfl⟩
            · rw [if_neg h1, if_neg h2, if_neg h1, if_neg h2]; exact ⟨fun _ => rfl, fun h => absurd rfl h⟩
        have HC := Lib.hid (And.intro hC hst2)
        have hkI : (k : Int) < na := by omega
        have hkbI : ¬ (k : Int) ≥ nb := by omega
        have hkbJ : ¬ (nb : Int) ≤ k := by omega
        clear fc f4 gc g4 e1b g1b hx hy hka hkb' hst hlx hC hst2 hc
        go_wp2_with fail
        refine HC.out.1.mono ?_
        rintro e w9 ⟨rfl, h9⟩
        rw [h9]
        clear h9 w9
        by_cases h0 : c = 0
        · have HN := Lib.hid (HC.out.2.1 h0)
          subst h0
          go_wp2_with fail
          go_round
          case rel => exact ⟨k + 1, hlt, hltb, by go_num, HN.out⟩
          case measure => simp [intOf]; omega
        · have HN := Lib.hid (HC.out.2.2 h0)
          have y1 : (c == 0) = false := by rw [beq_eq_false_iff_ne]; exact h0
          have y2 : (c != 0) = true := by rw [bne_iff_ne]; exact h0
          go_wp2_with fail
          go_ret
          exact ⟨by rw [HN.out]; rfl, rfl⟩
      · have hkbI : (k : Int) ≥ nb := by omega
        have hkbJ : (nb : Int) ≤ k := by omega
        have hkI : (k : Int) < na := by omega
        have HN : Hid (cmpL a b = 1) := Lib.hid (by
          have eb : b.drop k = [] := List.drop_eq_nil_of_le (by rw [HL.out.2]; omega)
          rw [hlx, eb, List.drop_eq_getElem_cons hka]
          rfl)
        obtain ⟨x, hx⟩ : ∃ x, a[k] = x := ⟨_, rfl⟩
        rw [hx] at ca1
        clear fc f4 e1b hx hka hlx
        go_wp2_with fail
        go_ret
        exact ⟨by rw [HN.out]; rfl, rfl⟩
    · obtain rfl : k = na := by omega
      have e1 : a.drop k = [] := List.drop_eq_nil_of_le (by rw [HL.out.1]; exact Nat.le_refl _)
      rw [e1] at hlx
      by_cases hab : k < nb
      · have habI : (k : Int) < nb := by omega
        have HN : Hid (cmpL a b = -1) := Lib.hid (by
          rw [hlx, List.drop_eq_getElem_cons (by rw [HL.out.2]; exact hab)]
          rfl)
        clear hlx e1
        go_wp2_with fail
        go_ret
        exact ⟨by rw [HN.out]; rfl, rfl⟩
      · have habI : ¬ (k : Int) < nb := by omega
        have HN : Hid (cmpL a b = 0) := Lib.hid (by
          rw [hlx, List.drop_eq_nil_of_le (by rw [HL.out.2]; omega)]
          rfl)
        clear hlx e1
        go_wp2_with fail
        go_ret
        exact ⟨by rw [HN.out]; rfl, rfl⟩
end Go.Proofs.YtplidcbfbonjlaaDoor
