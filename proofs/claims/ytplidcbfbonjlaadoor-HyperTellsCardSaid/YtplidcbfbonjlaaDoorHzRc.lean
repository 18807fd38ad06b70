/-
  The document's many, within, less: they only read.
-/
import Derived.Test.YtplidcbfbonjlaaDoorHzParts
import Derived.Test.YtplidcbfbonjlaaDoorHzCmp
namespace Go.Proofs.YtplidcbfbonjlaaDoor
open Go.RowKit Go.Shelf Go.Lib
set_option linter.unusedVariables false
set_option linter.unusedSimpArgs false

/-- How many edges have it. -/
def manyL (ls : List (List Int)) (v : Int) : Nat := ls.countP fun e => decide (v ∈ e)
theorem manyL_next {ls : List (List Int)} {v : Int} {k : Nat} (h : k < ls.length) : manyL (ls.take (k + 1)) v = manyL (ls.take k) v + (if decide (v ∈ rowN ls k) = true then 1 else 0) := by
  unfold manyL
  rw [List.take_succ_eq_append_getElem h, List.countP_append, rowN_at h]
  simp [List.countP_cons]
set_option maxRecDepth 100000 in
set_option maxHeartbeats 2000000 in
theorem many_any (v : Value) (ls : List (List Int)) (x : Int) (w : World) (h : SlRK .i64 w v ls) (hl : ls.length ≤ 1048576) :
    Calls Tryd.prog 63 #[v, .int .i64 x] w fun e w' => e = .returned (.int .i64 (manyL ls x : Nat)) ∧ w' = w := by
  have H := Lib.hid h
  obtain ⟨a, c, rfl, -⟩ := h.open
  obtain ⟨n, hn⟩ : ∃ n, ls.length = n := ⟨_, rfl⟩
  have HN := Lib.hid hn
  rw [hn] at H hl ⊢
  clear h hn
  go_enter Tryd.func63, Tryd.ntmps63
  go_wp2_with fail
  go_loop [5, 10] (fun c i => ∃ k q : Nat, k ≤ n ∧ i = .int .i64 k ∧ c = .int .i64 q ∧ q = manyL (ls.take k) x) (fun _ i => n - (intOf i).toNat)
  case atStart => exact ⟨0, 0, Nat.zero_le _, rfl, rfl, rfl⟩
  case round =>
    obtain ⟨k, q, hk, rfl, rfl, hq⟩ := hrel
    have HQ := Lib.hid hq
    have hqk : q ≤ k := by
      rw [hq]
      unfold manyL
      exact Nat.le_trans List.countP_le_length (by rw [List.length_take]; omega)
    clear hq
    by_cases hkn : k < n
    · have hkl : k < ls.length := by rw [HN.out]; exact hkn
      obtain ⟨_, _, e1, _, _, _, f4⟩ := H.out.open
      obtain ⟨b, o, e2, _, fc⟩ := f4 (by omega)
      injection e1 with e1a e1b e1c
      subst e1a e1c
      subst e2
      obtain ⟨rk, ck, sk⟩ := fc k hkl
      obtain ⟨ak, dk, rfl, -⟩ := sk.open
      have hHa := Has_any _ _ x w sk
      obtain ⟨b1, hb1⟩ : ∃ b, decide (x ∈ rowN ls k) = b := ⟨_, rfl⟩
      rw [hb1] at hHa
      have hnx : manyL (ls.take (k + 1)) x = q + (if b1 = true then 1 else 0) := by rw [HQ.out, ← hb1]; exact manyL_next hkl
      have HH := Lib.hid (And.intro hHa hnx)
      clear hHa hnx fc f4 e1b sk hb1 hkl
      go_wp2_with fail
      refine HH.out.1.mono ?_
      rintro e w9 ⟨rfl, h9⟩
      rw [h9]
      clear h9 w9
      cases b1 with
      | true =>
        go_wp2_with fail
        go_round
        case rel => exact ⟨k + 1, q + 1, hkn, by go_num, by go_num, by rw [HH.out.2]; rfl⟩
        case measure => simp [intOf]; omega
      | false =>
        go_wp2_with fail
        go_round
        case rel => exact ⟨k + 1, q, hkn, by go_num, rfl, by rw [HH.out.2]; rfl⟩
        case measure => simp [intOf]; omega
    · obtain rfl : k = n := by omega
      have hE : q = manyL ls x := by rw [HQ.out, List.take_of_length_le (by have := HN.out; omega)]
      have HE := Lib.hid hE
      clear hE
      go_wp2_with fail
      go_ret
      exact ⟨by rw [HE.out]; rfl, rfl⟩
/-- Has the other one all that this one has? -/
def withinB (a b : List Int) : Bool := a.all fun x => decide (x ∈ b)
theorem withinB_iff {a b : List Int} : withinB a b = true ↔ ∀ x ∈ a, x ∈ b := by
  unfold withinB
  rw [List.all_eq_true]
  simp only [decide_eq_true_eq]
set_option maxRecDepth 100000 in
set_option maxHeartbeats 2000000 in
theorem within_any (va vb : Value) (a b : List Int) (w : World) (ha : SlI .i64 w va a) (hb : SlI .i64 w vb b) :
    Calls Tryd.prog 64 #[va, vb] w fun e w' => e = .returned (.bool (withinB a b)) ∧ w' = w := by
  have hm : a.length ≤ 9223372036854775807 := by have := ha.len; unfold maxLen at this; omega
  obtain ⟨aa, ca, rfl, la, -⟩ := ha.open
  obtain ⟨ab, cb, rfl, lb, -⟩ := hb.open
  have H := Lib.hid (And.intro ha hb)
  obtain ⟨na, hna⟩ : ∃ n, a.length = n := ⟨_, rfl⟩
  rw [hna] at H hm la ⊢
  have HL := Lib.hid hna
  clear ha hb hna
  go_enter Tryd.func64, Tryd.ntmps64
  go_wp2_with fail
  go_loop [9] (fun i => ∃ k : Nat, k ≤ na ∧ i = .int .i64 k ∧ ∀ j, (hj : j < a.length) → j < k → a[j] ∈ b) (fun i => na - (intOf i).toNat)
  case atStart => exact ⟨0, Nat.zero_le _, rfl, fun j _ hj => by omega⟩
  case round =>
    obtain ⟨k, hk, rfl, hs⟩ := hrel
    have HS := Lib.hid hs
    clear hs
    by_cases hlt : k < na
    · have hka : k < a.length := by rw [HL.out]; exact hlt
      obtain ⟨_, _, e1, _, _, _, f4⟩ := H.out.1.open
      obtain ⟨ba, oa, e2, _, fc⟩ := f4 (by omega)
      injection e1 with e1a e1b e1c
      subst e1a e1c
      subst e2
      have ca1 := fc k hka
      have hmem := List.getElem_mem hka
      obtain ⟨x, hx⟩ : ∃ x, a[k] = x := ⟨_, rfl⟩
      have HX := Lib.hid hx
      rw [hx] at ca1 hmem
      have hHa := Has_any _ b x w H.out.2
      obtain ⟨b1, hb1⟩ : ∃ q, decide (x ∈ b) = q := ⟨_, rfl⟩
      rw [hb1] at hHa
      have HH := Lib.hid (And.intro hHa (And.intro hb1 hmem))
      clear hHa hb1 hmem fc f4 e1b hx
      go_wp2_with fail
      refine HH.out.1.mono ?_
      rintro e w9 ⟨rfl, h9⟩
      rw [h9]
      clear h9 w9
      cases b1 with
      | true =>
        go_wp2_with fail
        go_round
        case rel => exact ⟨k + 1, hlt, by go_num, fun j hj hjk => by
          by_cases e : j = k
          · subst e; rw [HX.out]; exact of_decide_eq_true HH.out.2.1
          · exact HS.out j hj (by omega)⟩
        case measure => simp [intOf]; omega
      | false =>
        have e : Hid (withinB a b = false) := Lib.hid (by
          cases q : withinB a b with
          | false => rfl
          | true => exact absurd (withinB_iff.1 q x HH.out.2.2) (of_decide_eq_false HH.out.2.1))
        go_wp2_with fail
        go_ret
        exact ⟨ret_bool e.out.symm, rfl⟩
    · obtain rfl : k = na := by omega
      have e : Hid (withinB a b = true) := Lib.hid (withinB_iff.2 fun x hx => by
        obtain ⟨j, hj, rfl⟩ := List.getElem_of_mem hx
        exact HS.out j hj (by have := HL.out; omega))
      go_wp2_with fail
      go_ret
      exact ⟨ret_bool e.out.symm, rfl⟩
theorem cmpL_end {a b : List Int} {k : Nat} (ha : a.length = k) (hb : k < b.length) : cmpL (a.drop k) (b.drop k) = -1 := by
  rw [List.drop_of_length_le (by omega), List.drop_eq_getElem_cons hb]; rfl
theorem cmpL_end2 {a b : List Int} {k : Nat} (ha : k < a.length) (hb : b.length = k) : cmpL (a.drop k) (b.drop k) = 1 := by
  rw [List.drop_eq_getElem_cons ha, List.drop_of_length_le (l := b) (by omega)]; rfl
theorem cmpL_end3 {a b : List Int} {k : Nat} (ha : a.length = k) (hb : b.length = k) : cmpL (a.drop k) (b.drop k) = 0 := by
  rw [List.drop_of_length_le (l := a) (by omega), List.drop_of_length_le (l := b) (by omega)]; rfl
def lessB (a b : List Int) : Bool := decide (cmpL a b = -1)
set_option maxRecDepth 100000 in
set_option maxHeartbeats 2000000 in
theorem less_any (va vb : Value) (a b : List Int) (w : World) (ha : SlI .i64 w va a) (hb : SlI .i64 w vb b) :
    Calls Tryd.prog 51 #[va, vb] w fun e w' => e = .returned (.bool (lessB a b)) ∧ w' = w := by
  have hm : a.length ≤ 9223372036854775807 := by have := ha.len; unfold maxLen at this; omega
  have hm2 : b.length ≤ 9223372036854775807 := by have := hb.len; unfold maxLen at this; omega
  obtain ⟨aa, ca, rfl, la, -⟩ := ha.open
  obtain ⟨ab, cb, rfl, lb, -⟩ := hb.open
  have H := Lib.hid (And.intro ha hb)
  obtain ⟨na, hna⟩ : ∃ n, a.length = n := ⟨_, rfl⟩
  obtain ⟨nb, hnb⟩ : ∃ n, b.length = n := ⟨_, rfl⟩
  rw [hna] at H hm la ⊢
  rw [hnb] at H hm2 lb ⊢
  have HL := Lib.hid (And.intro hna hnb)
  clear ha hb hna hnb
  go_enter Tryd.func51, Tryd.ntmps51
  go_wp2_with fail
  go_loop [9] (fun i => ∃ k : Nat, k ≤ na ∧ k ≤ nb ∧ i = .int .i64 k ∧ cmpL a b = cmpL (a.drop k) (b.drop k)) (fun i => na - (intOf i).toNat)
  case atStart => exact ⟨0, Nat.zero_le _, Nat.zero_le _, rfl, rfl⟩
  case round =>
    obtain ⟨k, hk, hkb, rfl, hlx⟩ := hrel
    by_cases hlt : k < na
    · have hka : k < a.length := by rw [HL.out.1]; exact hlt
      obtain ⟨_, _, e1, _, _, _, f4⟩ := H.out.1.open
      obtain ⟨ba, oa, e2, _, fc⟩ := f4 (by omega)
      injection e1 with e1a e1b e1c
      subst e1a e1c
      subst e2
      have ca1 := fc k hka
      by_cases hltb : k < nb
      · have hkb' : k < b.length := by rw [HL.out.2]; exact hltb
        obtain ⟨_, _, g1, _, _, _, g4⟩ := H.out.2.open
        obtain ⟨bb, ob, g2, _, gc⟩ := g4 (by omega)
        injection g1 with g1a g1b g1c
        subst g1a g1c
        subst g2
        have cb1 := gc k hkb'
        rw [← getD_at hka] at ca1
        rw [← getD_at hkb'] at cb1
        have hst := cmpL_step hka hkb'
        obtain ⟨x, hx⟩ : ∃ x, a.getD k 0 = x := ⟨_, rfl⟩
        obtain ⟨y, hy⟩ : ∃ y, b.getD k 0 = y := ⟨_, rfl⟩
        rw [hx] at ca1 hst
        rw [hy] at cb1 hst
        rw [hst] at hlx
        have hne : ((k : Int) == (nb : Int)) = false := by rw [beq_eq_false_iff_ne]; omega
        clear fc f4 gc g4 e1b g1b hst hx hy hka hkb'
        by_cases hxy : x < y
        · have hge : ¬ y < x := by omega
          have e : Hid (lessB a b = true) := Lib.hid (decide_eq_true (by rw [hlx, if_pos hxy]))
          clear hlx
          go_wp2_with fail
          go_ret
          exact ⟨ret_bool e.out.symm, rfl⟩
        · by_cases hyx : y < x
          · have e : Hid (lessB a b = false) := Lib.hid (decide_eq_false (by rw [hlx, if_neg hxy, if_pos hyx]; decide))
            clear hlx
            go_wp2_with fail
            go_ret
            exact ⟨ret_bool e.out.symm, rfl⟩
          · rw [if_neg hxy, if_neg hyx] at hlx
            have HX := Lib.hid hlx
            clear hlx
            go_wp2_with fail
            go_round
            case rel => exact ⟨k + 1, hlt, hltb, by go_num, HX.out⟩
            case measure => simp [intOf]; omega
      · obtain rfl : k = nb := by omega
        have e : Hid (lessB a b = false) := Lib.hid (decide_eq_false (by rw [hlx, cmpL_end2 hka HL.out.2]; decide))
        rw [← getD_at hka] at ca1
        obtain ⟨x, hx⟩ : ∃ x, a.getD k 0 = x := ⟨_, rfl⟩
        rw [hx] at ca1
        clear hlx fc f4 e1b hka hx
        go_wp2_with fail
        go_ret
        exact ⟨ret_bool e.out.symm, rfl⟩
    · obtain rfl : k = na := by omega
      by_cases hq : k < nb
      · have hqI : (k : Int) < nb := by omega
        have e : Hid (lessB a b = true) := Lib.hid (decide_eq_true (by rw [hlx, cmpL_end HL.out.1 (by have := HL.out.2; omega)]))
        clear hlx
        go_wp2_with fail
        go_ret
        exact ⟨ret_bool e.out.symm, rfl⟩
      · have hqI : ¬ (k : Int) < nb := by omega
        have e : Hid (lessB a b = false) := Lib.hid (decide_eq_false (by rw [hlx, cmpL_end3 HL.out.1 (by have := HL.out.2; omega)]; decide))
        clear hlx
        go_wp2_with fail
        go_ret
        exact ⟨ret_bool e.out.symm, rfl⟩
end Go.Proofs.YtplidcbfbonjlaaDoor
