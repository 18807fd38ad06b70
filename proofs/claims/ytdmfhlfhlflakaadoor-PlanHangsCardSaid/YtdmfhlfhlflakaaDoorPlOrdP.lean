/-
  The order that is chosen, as the document says it: the plain law. No walk.
-/
import Derived.Test.YtdmfhlfhlflakaaDoorPlCho
namespace Go.Proofs.YtdmfhlfhlflakaaDoor
set_option linter.unusedVariables false

theorem leastTo_in {es : List (List Int)} {v : Int} {f : Nat → Int} : ∀ {k : Nat} {m : Int}, leastTo es v f k = some m → ∃ i, i < k ∧ m = f i
  | 0, m, h => by simp [leastTo] at h
  | k + 1, m, h => by
    by_cases hv : v ∈ rowN es k
    · cases hq : leastTo es v f k with
      | none =>
        rw [leastTo_first hv hq] at h
        injection h with h
        exact ⟨k, by omega, h.symm⟩
      | some q =>
        by_cases hl : f k < q
        · rw [leastTo_less hv hq hl] at h
          injection h with h
          exact ⟨k, by omega, h.symm⟩
        · rw [leastTo_more hv hq hl] at h
          injection h with h
          subst h
          obtain ⟨i, hi, e⟩ := leastTo_in hq
          exact ⟨i, by omega, e⟩
    · rw [leastTo_out hv] at h
      obtain ⟨i, hi, e⟩ := leastTo_in h
      exact ⟨i, by omega, e⟩
/-- A variable's size as the document says it. -/
def refS (S : Shp) (v : Int) : Int := (sizeO S v).getD (-1)
theorem sizeO_le {S : Shp} (h : shpB S = true) {v m : Int} (hs : sizeO S v = some m) : 0 ≤ m ∧ m ≤ 1048576 := by
  obtain ⟨i, hi, rfl⟩ := leastTo_in hs
  have hl := shpB_len h
  have hb : S.sizes.any (badB 1048576) = false := by
    unfold shpB at h
    simp only [Bool.and_eq_true, Bool.not_eq_true'] at h
    exact h.2
  have hi' : i < S.sizes.length := by omega
  have := List.any_eq_false.1 hb _ (List.getElem_mem hi')
  rw [getD_at hi']
  unfold badB at this
  simp only [Bool.or_eq_true, decide_eq_true_eq, not_or] at this
  omega
def aheadB (S : Shp) (v w : Int) : Bool := (decide (0 ≤ refS S v) && (decide (refS S w < 0) || decide (refS S v ≤ refS S w))) || (decide (refS S v < 0) && decide (refS S w < 0))
theorem aheadB_eq {S : Shp} (h : shpB S = true) (v w : Int) : aheadB S v w = !decide (sizeG S w < sizeG S v) := by
  unfold aheadB refS sizeG
  cases hv : sizeO S v with
  | none =>
    cases hw : sizeO S w with
    | none => simp
    | some b =>
      have := sizeO_le h hw
      simp only [Option.getD_some, Option.getD_none]
      rw [decide_eq_false (show ¬ (0 : Int) ≤ -1 by decide), decide_eq_false (show ¬ b < 0 by omega), decide_eq_true (show b < 1048577 by omega), Bool.false_and, Bool.and_false]; rfl
  | some a =>
    have ha := sizeO_le h hv
    cases hw : sizeO S w with
    | none =>
      simp only [Option.getD_some, Option.getD_none]
      rw [decide_eq_true (show 0 ≤ a by omega), decide_eq_false (show ¬ (1048577 : Int) < a by omega), decide_eq_true (show (-1 : Int) < 0 by decide)]; rfl
    | some b =>
      have hb := sizeO_le h hw
      simp only [Option.getD_some]
      rw [decide_eq_true (show 0 ≤ a by omega), decide_eq_false (show ¬ b < 0 by omega), decide_eq_false (show ¬ a < 0 by omega)]
      by_cases hq : b < a
      · rw [decide_eq_true hq, decide_eq_false (show ¬ a ≤ b by omega)]; rfl
      · rw [decide_eq_false hq, decide_eq_true (show a ≤ b by omega)]; rfl
/-- One pass over the variables. -/
def passTo (S : Shp) (T : List Int) (near : Bool) : Nat → Int
  | 0 => -1
  | v + 1 => if decide ((v : Int) ∈ T) || (near && !nearB S T v) then passTo S T near v else if decide (passTo S T near v < 0) || !aheadB S (passTo S T near v) v then v else passTo S T near v
theorem passTo_skip {S : Shp} {T : List Int} {near : Bool} {v : Nat} (h : (decide ((v : Int) ∈ T) || (near && !nearB S T v)) = true) : passTo S T near (v + 1) = passTo S T near v := by
  show (if _ then _ else _) = _
  rw [if_pos h]
theorem passTo_take {S : Shp} {T : List Int} {near : Bool} {v : Nat} (h : (decide ((v : Int) ∈ T) || (near && !nearB S T v)) = false) (ht : (decide (passTo S T near v < 0) || !aheadB S (passTo S T near v) v) = true) : passTo S T near (v + 1) = v := by
  show (if _ then _ else _) = _
  rw [if_neg (by rw [h]; decide), if_pos ht]
theorem passTo_leave {S : Shp} {T : List Int} {near : Bool} {v : Nat} (h : (decide ((v : Int) ∈ T) || (near && !nearB S T v)) = false) (ht : (decide (passTo S T near v < 0) || !aheadB S (passTo S T near v) v) = false) : passTo S T near (v + 1) = passTo S T near v := by
  show (if _ then _ else _) = _
  rw [if_neg (by rw [h]; decide), if_neg (by rw [ht]; decide)]
theorem passTo_bound (S : Shp) (T : List Int) (near : Bool) : ∀ v : Nat, -1 ≤ passTo S T near v ∧ passTo S T near v < v
  | 0 => ⟨Int.le_refl _, by show (-1 : Int) < 0; decide⟩
  | v + 1 => by
    have ih := passTo_bound S T near v
    by_cases h : (decide ((v : Int) ∈ T) || (near && !nearB S T v)) = true
    · rw [passTo_skip h]; omega
    · have h' := Bool.eq_false_iff.2 h
      by_cases ht : (decide (passTo S T near v < 0) || !aheadB S (passTo S T near v) v) = true
      · rw [passTo_take h' ht]; omega
      · rw [passTo_leave h' (Bool.eq_false_iff.2 ht)]; omega
/-- The variable that is next. -/
def nextV (S : Shp) (T : List Int) : Int := if 0 ≤ passTo S T true S.many.toNat then passTo S T true S.many.toNat else passTo S T false S.many.toNat
theorem pick_pass {S : Shp} (h : shpB S = true) (T : List Int) : ∀ v : Nat, ((pickTo S T v).2 = true ∧ 0 ≤ (pickTo S T v).1 ∧ (pickTo S T v).1 = passTo S T true v) ∨ ((pickTo S T v).2 = false ∧ passTo S T true v = -1 ∧ (pickTo S T v).1 = passTo S T false v)
  | 0 => .inr ⟨rfl, rfl, rfl⟩
  | v + 1 => by
    have ih := pick_pass h T v
    by_cases hT : (v : Int) ∈ T
    · rw [pickTo_skip hT, passTo_skip (by rw [decide_eq_true hT]; rfl), passTo_skip (by rw [decide_eq_true hT]; rfl)]
      exact ih
    · have hTf : decide ((v : Int) ∈ T) = false := decide_eq_false hT
      have hE := aheadB_eq h (pickTo S T v).1 v
      cases hn : nearB S T v with
      | true =>
        have s1 : (decide ((v : Int) ∈ T) || (true && !nearB S T v)) = false := by rw [hTf, hn]; rfl
        rcases ih with ⟨i1, i2, i3⟩ | ⟨i1, i2, i3⟩
        · left
          have hlt : decide ((pickTo S T v).1 < 0) = false := decide_eq_false (by omega)
          by_cases hs : sizeG S v < sizeG S (pickTo S T v).1
          · rw [decide_eq_true hs] at hE
            rw [pickTo_take hT (by unfold takeB; rw [hn, i1, decide_eq_true hs]; simp), passTo_take s1 (by rw [← i3, hE]; simp)]
            exact ⟨hn, by show (0 : Int) ≤ v; omega, rfl⟩
          · rw [decide_eq_false hs] at hE
            rw [pickTo_leave hT (by unfold takeB; rw [hn, i1, decide_eq_false hs, hlt]; rfl), passTo_leave s1 (by rw [← i3, hE, hlt]; rfl)]
            exact ⟨i1, i2, i3⟩
        · left
          rw [pickTo_take hT (by unfold takeB; rw [hn, i1]; simp), passTo_take s1 (by rw [i2]; rfl)]
          exact ⟨hn, by show (0 : Int) ≤ v; omega, rfl⟩
      | false =>
        have s1 : (decide ((v : Int) ∈ T) || (true && !nearB S T v)) = true := by rw [hn]; simp
        have s2 : (decide ((v : Int) ∈ T) || (false && !nearB S T v)) = false := by rw [hTf]; rfl
        rw [passTo_skip s1]
        rcases ih with ⟨i1, i2, i3⟩ | ⟨i1, i2, i3⟩
        · left
          have hlt : decide ((pickTo S T v).1 < 0) = false := decide_eq_false (by omega)
          rw [pickTo_leave hT (by unfold takeB; rw [hn, i1, hlt]; rfl)]
          exact ⟨i1, i2, i3⟩
        · right
          by_cases ht : takeB S (pickTo S T v).1 (pickTo S T v).2 (nearB S T v) v = true
          · rw [pickTo_take hT ht, passTo_take s2 ?_]
            · exact ⟨hn, i2, rfl⟩
            · unfold takeB at ht
              rw [hn, i1] at ht
              rw [← i3, hE]
              simpa using ht
          · have ht' := Bool.eq_false_iff.2 ht
            rw [pickTo_leave hT ht', passTo_leave s2 ?_]
            · exact ⟨i1, i2, i3⟩
            · unfold takeB at ht'
              rw [hn, i1] at ht'
              rw [← i3, hE]
              simpa using ht'
theorem pick_next {S : Shp} (h : shpB S = true) (T : List Int) : (pickTo S T S.many.toNat).1 = nextV S T := by
  unfold nextV
  rcases pick_pass h T S.many.toNat with ⟨-, i2, i3⟩ | ⟨-, i2, i3⟩
  · rw [if_pos (by omega), i3]
  · rw [if_neg (by omega), i3]
theorem chosenTo_next {S : Shp} (h : shpB S = true) (k : Nat) : chosenTo S (k + 1) = chosenTo S k ++ [nextV S (chosenTo S k)] := by
  show chosenTo S k ++ [_] = _
  rw [pick_next h]
/-- Together, asked the other way round. -/
theorem meetsB_swap (T e : List Int) : meetsB T e = T.any fun w => decide (w ∈ e) := by
  unfold meetsB
  rw [Bool.eq_iff_iff, List.any_eq_true, List.any_eq_true]
  simp only [decide_eq_true_eq]
  exact ⟨fun ⟨x, h1, h2⟩ => ⟨x, h2, h1⟩, fun ⟨x, h1, h2⟩ => ⟨x, h2, h1⟩⟩
end Go.Proofs.YtdmfhlfhlflakaaDoor
