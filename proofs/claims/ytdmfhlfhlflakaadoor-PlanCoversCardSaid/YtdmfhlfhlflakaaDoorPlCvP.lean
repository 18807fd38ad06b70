/-
  PlanCovers: the plain law. No walk.
-/
import Derived.Test.YtdmfhlfhlflakaaDoorPlLim0
namespace Go.Proofs.YtdmfhlfhlflakaaDoor
set_option linter.unusedVariables false

theorem bound_err {S : Shp} {c : Cov} (h : boundE S c ≠ 0) : boundN S c = 0 ∧ decide (boundE S c = 110) = (shpB S && coversB S c) := by
  refine ⟨by unfold boundN; rw [if_neg h], ?_⟩
  unfold boundE at h ⊢
  by_cases h1 : shpB S = true
  · rw [if_pos h1] at h ⊢
    by_cases h2 : coversB S c = true
    · rw [if_pos h2] at h ⊢
      rw [h1, h2]
      by_cases h3 : needN S c < 340282366920938463463374607431768211456
      · rw [if_pos h3] at h; exact absurd rfl h
      · rw [if_neg h3]; rfl
    · rw [if_neg h2, h1, Bool.eq_false_iff.2 h2]; rfl
  · rw [if_neg h1, Bool.eq_false_iff.2 h1]; rfl
theorem bound_of {S : Shp} {c : Cov} (h1 : shpB S = true) (h2 : coversB S c = true) : boundE S c = if needN S c < 340282366920938463463374607431768211456 then 0 else 110 := by
  unfold boundE; rw [if_pos h1, if_pos h2]

/-! one edge more, of weight 0 -/
def plusS (S : Shp) (n : Int) : Shp := ⟨S.many, S.edges ++ [[]], S.sizes ++ [n]⟩
def plusC (c : Cov) : Cov := ⟨c.ws ++ [0], c.of⟩
theorem rowN_app {ls : List (List Int)} {x : List Int} {r : Nat} (h : r < ls.length) : rowN (ls ++ [x]) r = rowN ls r := by
  unfold rowN
  simp [List.getD, List.getElem?_append_left h]
theorem getD_app {xs : List Int} {x : Int} {r : Nat} (h : r < xs.length) : (xs ++ [x]).getD r 0 = xs.getD r 0 := by
  simp [List.getD, List.getElem?_append_left h]
theorem getD_last {xs : List Int} {x : Int} : (xs ++ [x]).getD xs.length 0 = x := by
  simp [List.getD]
theorem rowN_last {ls : List (List Int)} {x : List Int} : rowN (ls ++ [x]) ls.length = x := by
  unfold rowN
  simp [List.getD]
theorem sumTo_app (es : List (List Int)) (ws : List Int) (v : Int) (x : List Int) (y : Int) : ∀ k, k ≤ es.length → k ≤ ws.length → sumTo (es ++ [x]) (ws ++ [y]) v k = sumTo es ws v k
  | 0, _, _ => rfl
  | k + 1, h1, h2 => by
    unfold sumTo
    rw [rowN_app (by omega), getD_app (by omega), sumTo_app es ws v x y k (by omega) (by omega)]
theorem plus_covers {S : Shp} {c : Cov} (n : Int) (h : coversB S c = true) : coversB (plusS S n) (plusC c) = true := by
  obtain ⟨p1, -, -, -⟩ := coversB_of h
  unfold coversB plusS plusC at *
  simp only [Bool.and_eq_true, decide_eq_true_eq, Bool.not_eq_true', List.all_eq_true] at h ⊢
  obtain ⟨q1, q2, q3, q4, q5⟩ := h
  refine ⟨by simp [q1], q2, q3, ?_, fun v hv => ?_⟩
  · rw [List.any_append, q4]; rfl
  · have := q5 v hv
    unfold coverAt at this ⊢
    simp only [decide_eq_true_eq] at this ⊢
    rw [List.length_append]
    show c.of ≤ sumTo _ _ _ (S.edges.length + 1)
    unfold sumTo
    rw [rowN_last, if_neg (by simp), sumTo_app _ _ _ _ _ _ (Nat.le_refl _) (by omega)]
    exact this
theorem plus_need {S : Shp} {c : Cov} (n : Int) (hl : S.sizes.length = c.ws.length) : needN (plusS S n) (plusC c) = needN S c := by
  unfold needN plusS plusC
  simp only
  rw [List.length_append]
  show prodTo (powL _ _ (S.sizes.length + 1)) (S.sizes.length + 1) = _
  have e : powL (S.sizes ++ [n]) (c.ws ++ [0]) S.sizes.length = powL S.sizes c.ws S.sizes.length := by
    unfold powL
    refine List.map_congr_left fun i hi => ?_
    have hi' := List.mem_range.1 hi
    rw [getD_app hi', getD_app (by omega)]
  have e2 : (c.ws ++ [0]).getD S.sizes.length 0 = 0 := by rw [hl]; exact getD_last
  have hlen := powL_len S.sizes c.ws S.sizes.length
  rw [powL_succ, e, e2]
  have h3 := prodTo_app (powL S.sizes c.ws S.sizes.length) ((max ((S.sizes ++ [n]).getD S.sizes.length 0) 1).toNat ^ (0 : Int).toNat)
  rw [hlen] at h3
  rw [h3]
  simp

/-! with more weight -/
theorem root_mono {n n' o : Nat} (ho : 1 ≤ o) (hn : 1 ≤ n) (h : n ≤ n') : rootN n o ≤ rootN n' o := by
  obtain ⟨-, a2, -, -⟩ := rootN_spec ho hn
  obtain ⟨b1, -, -, -⟩ := rootN_spec (n := n') ho (by omega)
  rcases Nat.lt_or_ge (rootN n' o) (rootN n o) with h1 | h1
  · have := a2 _ h1
    omega
  · exact h1
def moreC (c : Cov) (i : Nat) : Cov := ⟨c.ws.set i (min (c.ws.getD i 0 + 1) 16), c.of⟩
theorem getD_set {xs : List Int} {i j : Nat} {x : Int} (hi : i < xs.length) : (xs.set i x).getD j 0 = if i = j then x else xs.getD j 0 := by
  by_cases h : i = j
  · subst h; simp [List.getD, hi]
  · simp [List.getD, h]
theorem sumTo_mono {es : List (List Int)} {ws ws' : List Int} (v : Int) (h : ∀ i, ws.getD i 0 ≤ ws'.getD i 0) : ∀ k, sumTo es ws v k ≤ sumTo es ws' v k
  | 0 => Int.le_refl _
  | k + 1 => by
    have h1 := sumTo_mono (es := es) v h k
    have h2 := h k
    unfold sumTo
    split <;> omega
theorem more_ge {c : Cov} {i : Nat} (hi : i < c.ws.length) (hw : ∀ i, i < c.ws.length → 0 ≤ c.ws.getD i 0 ∧ c.ws.getD i 0 ≤ 16) : ∀ j, c.ws.getD j 0 ≤ (moreC c i).ws.getD j 0 := by
  intro j
  unfold moreC
  simp only
  rw [getD_set hi]
  split
  · next h => subst h; have := hw i hi; omega
  · exact Int.le_refl _
theorem more_covers {S : Shp} {c : Cov} {i : Nat} (h : coversB S c = true) (hi : i < c.ws.length) : coversB S (moreC c i) = true := by
  obtain ⟨p1, -, -, p4⟩ := coversB_of h
  have hge := more_ge hi p4
  unfold coversB at h ⊢
  simp only [Bool.and_eq_true, decide_eq_true_eq, Bool.not_eq_true', List.all_eq_true] at h ⊢
  obtain ⟨q1, q2, q3, q4, q5⟩ := h
  refine ⟨by simpa [moreC] using q1, q2, q3, ?_, fun v hv => ?_⟩
  · rw [List.any_eq_false]
    intro x hx
    obtain ⟨j, hj, rfl⟩ := List.getElem_of_mem hx
    have hj' : j < c.ws.length := by simpa [moreC] using hj
    have e : (moreC c i).ws[j] = (moreC c i).ws.getD j 0 := (getD_at hj).symm
    rw [e]
    have h1 := p4 j hj'
    have h2 := p4 i hi
    unfold moreC badB
    simp only
    rw [getD_set hi]
    simp only [Bool.or_eq_true, decide_eq_true_eq, not_or]
    split <;> omega
  · have := q5 v hv
    unfold coverAt at this ⊢
    simp only [decide_eq_true_eq] at this ⊢
    have h2 := sumTo_mono (es := S.edges) (v : Int) hge S.edges.length
    show c.of ≤ _
    omega
theorem prodTo_le {l l' : List Nat} (hl : l.length = l'.length) (h : ∀ i (h1 : i < l.length) (h2 : i < l'.length), l[i] ≤ l'[i]) : ∀ k, k ≤ l.length → prodTo l k ≤ prodTo l' k
  | 0, _ => Nat.le_refl _
  | k + 1, hk => by
    rw [prodTo_succ (by omega), prodTo_succ (by omega)]
    exact Nat.mul_le_mul (prodTo_le hl h k (by omega)) (h k (by omega) (by omega))
theorem more_need {S : Shp} {c : Cov} {i : Nat} (hi : i < c.ws.length) (hw : ∀ i, i < c.ws.length → 0 ≤ c.ws.getD i 0 ∧ c.ws.getD i 0 ≤ 16) : needN S c ≤ needN S (moreC c i) := by
  unfold needN
  refine prodTo_le (by rw [powL_len, powL_len]) (fun j h1 h2 => ?_) _ (by rw [powL_len]; exact Nat.le_refl _)
  have hge := more_ge hi hw j
  simp only [powL, List.getElem_map, List.getElem_range]
  exact Nat.pow_le_pow_right (by omega) (by omega)

/-! twice -/
def twiceC (c : Cov) : Cov := ⟨c.ws.map (2 * ·), 2 * c.of⟩
theorem getD_twice (xs : List Int) (j : Nat) : (xs.map (2 * ·)).getD j 0 = 2 * xs.getD j 0 := by
  simp only [List.getD, List.getElem?_map]
  cases xs[j]? <;> simp
theorem sumTo_twice (es : List (List Int)) (ws : List Int) (v : Int) : ∀ k, sumTo es (ws.map (2 * ·)) v k = 2 * sumTo es ws v k
  | 0 => rfl
  | k + 1 => by
    have h1 := sumTo_twice es ws v k
    unfold sumTo
    rw [getD_twice, h1]
    split <;> omega
theorem twice_covers {S : Shp} {c : Cov} (h : coversB S c = true) : coversB S (twiceC c) = (decide (2 * c.of ≤ 16) && !((twiceC c).ws.any (badB 16))) := by
  have h' := h
  unfold coversB at h
  simp only [Bool.and_eq_true, decide_eq_true_eq, Bool.not_eq_true', List.all_eq_true] at h
  obtain ⟨q1, q2, q3, q4, q5⟩ := h
  have e1 : decide ((twiceC c).ws.length = S.edges.length) = true := by simpa [twiceC] using q1
  have e2 : decide (1 ≤ (twiceC c).of) = true := decide_eq_true (show 1 ≤ 2 * c.of by omega)
  have e3 : (!badB 16 (twiceC c).of) = decide (2 * c.of ≤ 16) := by
    unfold badB twiceC
    by_cases hh : 2 * c.of ≤ 16
    · simp [hh]; omega
    · simp [hh]; omega
  have e4 : (List.range S.many.toNat).all (coverAt S.edges (twiceC c)) = true := by
    rw [List.all_eq_true]
    intro v hv
    have := q5 v hv
    unfold coverAt at this ⊢
    simp only [decide_eq_true_eq] at this ⊢
    show 2 * c.of ≤ sumTo S.edges (c.ws.map (2 * ·)) v S.edges.length
    rw [sumTo_twice]
    omega
  unfold coversB
  rw [e1, e2, e3, e4]
  simp
theorem pow_twice (a : Nat) (y : Int) (hy : 0 ≤ y) : a ^ (2 * y).toNat = a ^ y.toNat * a ^ y.toNat := by
  rw [show (2 * y).toNat = y.toNat + y.toNat from by omega, Nat.pow_add]
theorem twice_need {S : Shp} {c : Cov} (hl : S.sizes.length = c.ws.length) (hw : ∀ i, i < c.ws.length → 0 ≤ c.ws.getD i 0 ∧ c.ws.getD i 0 ≤ 16) : needN S (twiceC c) = needN S c * needN S c := by
  have key : ∀ k, k ≤ S.sizes.length → prodTo (powL S.sizes (twiceC c).ws S.sizes.length) k = prodTo (powL S.sizes c.ws S.sizes.length) k * prodTo (powL S.sizes c.ws S.sizes.length) k := by
    intro k
    induction k with
    | zero => intro _; rfl
    | succ k ih =>
      intro hk
      rw [prodTo_succ (by rw [powL_len]; omega), prodTo_succ (by rw [powL_len]; omega), ih (by omega)]
      have e : (powL S.sizes (twiceC c).ws S.sizes.length)[k]'(by rw [powL_len]; omega) = (powL S.sizes c.ws S.sizes.length)[k]'(by rw [powL_len]; omega) * (powL S.sizes c.ws S.sizes.length)[k]'(by rw [powL_len]; omega) := by
        simp only [powL, List.getElem_map, List.getElem_range]
        show _ ^ ((c.ws.map (2 * ·)).getD k 0).toNat = _
        rw [getD_twice, pow_twice _ _ (hw k (by omega)).1]
      rw [e]
      simp only [Nat.mul_assoc, Nat.mul_left_comm]
  exact key _ (Nat.le_refl _)
theorem sq_le {a b : Nat} : a ≤ b ↔ a * a ≤ b * b := by
  constructor
  · exact fun h => Nat.mul_le_mul h h
  · intro h
    rcases Nat.lt_or_ge b a with h1 | h1
    · have := Nat.mul_lt_mul_of_lt_of_le h1 (Nat.le_of_lt h1) (by omega)
      omega
    · exact h1
theorem twice_root {n o : Nat} (ho : 1 ≤ o) (hn : 1 ≤ n) : rootN (n * n) (2 * o) = rootN n o := by
  obtain ⟨a1, a2, -, -⟩ := rootN_spec ho hn
  have e : ∀ b : Nat, b ^ (2 * o) = b ^ o * b ^ o := fun b => by rw [show 2 * o = o + o from by omega, Nat.pow_add]
  refine rootN_eq (by omega) ?_ fun m hm => ?_
  · rw [e]; exact Nat.mul_le_mul a1 a1
  · have h1 := a2 m hm
    rw [e]
    rcases Nat.lt_or_ge (m ^ o * m ^ o) (n * n) with h2 | h2
    · exact h2
    · have := sq_le.2 h2; omega

theorem plus_shp {S : Shp} {n : Int} (h : shpB S = true) (hl : S.edges.length < 40) (h0 : 0 ≤ n) (h1 : n ≤ 1048576) : shpB (plusS S n) = true := by
  unfold shpB plusS hypB sizesB allR at *
  simp only [Bool.and_eq_true, decide_eq_true_eq, Bool.not_eq_true', List.all_eq_true] at h ⊢
  obtain ⟨⟨⟨⟨⟨h2, h3⟩, h4⟩, h5⟩, h6⟩, h7⟩ := h
  refine ⟨⟨⟨⟨⟨h2, h3⟩, ?_⟩, fun r hr => ?_⟩, by simp [h6]⟩, ?_⟩
  · rw [List.length_append]; simp; omega
  · have hr' := List.mem_range.1 hr
    rw [List.length_append] at hr'
    have hr2 : r < S.edges.length + 1 := hr'
    rcases Nat.lt_or_ge r S.edges.length with h8 | h8
    · rw [rowN_app h8]; exact h5 r (List.mem_range.2 h8)
    · obtain rfl : r = S.edges.length := by omega
      rw [rowN_last]; rfl
  · rw [List.any_append, h7]
    unfold badB
    simp
    omega
theorem cv_plus {S : Shp} {c : Cov} {n : Int} (h : boundE S c = 0) (hl : S.edges.length < 40) (h0 : 0 ≤ n) (h1 : n ≤ 1048576) : boundE (plusS S n) (plusC c) = 0 ∧ boundN (plusS S n) (plusC c) = boundN S c := by
  obtain ⟨k1, k2, k3⟩ := boundE_zero h
  obtain ⟨-, -, -, q4, -⟩ := shpB_yes k1
  obtain ⟨p1, -, -, -⟩ := coversB_of k2
  have hn := plus_need n (show S.sizes.length = c.ws.length by omega)
  have hE : boundE (plusS S n) (plusC c) = 0 := by
    rw [bound_of (plus_shp k1 hl h0 h1) (plus_covers n k2), hn, if_pos k3]
  refine ⟨hE, ?_⟩
  rw [(boundN_lt hE).2.2, (boundN_lt h).2.2, hn]; rfl
theorem cv_more {S : Shp} {c : Cov} {i : Nat} (h : boundE S c = 0) (hi : i < c.ws.length) : coversB S (moreC c i) = true ∧ (boundE S (moreC c i) = 0 ∧ boundN S c ≤ boundN S (moreC c i) ∨ boundE S (moreC c i) = 110) := by
  obtain ⟨k1, k2, k3⟩ := boundE_zero h
  obtain ⟨p1, p2, -, p4⟩ := coversB_of k2
  have hc := more_covers k2 hi
  refine ⟨hc, ?_⟩
  have hE := bound_of k1 hc
  by_cases hv : needN S (moreC c i) < 340282366920938463463374607431768211456
  · rw [if_pos hv] at hE
    refine .inl ⟨hE, ?_⟩
    rw [(boundN_lt hE).2.2, (boundN_lt h).2.2]
    exact root_mono (by omega) (needN_pos S c) (more_need hi p4)
  · rw [if_neg hv] at hE
    exact .inr hE
theorem cv_twice {S : Shp} {c : Cov} (h : boundE S c = 0) : coversB S (twiceC c) = (decide (2 * c.of ≤ 16) && !((twiceC c).ws.any (badB 16))) ∧ (coversB S (twiceC c) = true → boundE S (twiceC c) = 0 ∧ boundN S (twiceC c) = boundN S c ∨ boundE S (twiceC c) = 110) := by
  obtain ⟨k1, k2, k3⟩ := boundE_zero h
  obtain ⟨p1, p2, -, p4⟩ := coversB_of k2
  obtain ⟨-, -, -, q4, -⟩ := shpB_yes k1
  refine ⟨twice_covers k2, fun hc => ?_⟩
  have hn := twice_need (S := S) (c := c) (by omega) p4
  have hE := bound_of k1 hc
  by_cases hv : needN S (twiceC c) < 340282366920938463463374607431768211456
  · rw [if_pos hv] at hE
    refine .inl ⟨hE, ?_⟩
    rw [(boundN_lt hE).2.2, (boundN_lt h).2.2, hn]
    have := twice_root (n := needN S c) (o := c.of.toNat) (by omega) (needN_pos S c)
    rw [show (twiceC c).of.toNat = 2 * c.of.toNat from by show (2 * c.of).toNat = _; omega]
    exact this
  · rw [if_neg hv] at hE
    exact .inr hE
/-- If twice is no cover, then a weight is too great. -/
theorem twice_big {c : Cov} (hw : ∀ i, i < c.ws.length → 0 ≤ c.ws.getD i 0 ∧ c.ws.getD i 0 ≤ 16) (h2 : ¬ 16 < 2 * c.of) (h : (decide (2 * c.of ≤ 16) && !((twiceC c).ws.any (badB 16))) = false) : 16 < maxTo ((twiceC c).ws ++ [0]) ((twiceC c).ws ++ [0]).length := by
  rw [decide_eq_true (by omega), Bool.true_and, Bool.not_eq_false'] at h
  obtain ⟨x, hx, hb⟩ := List.any_eq_true.1 h
  have h0 : 0 ≤ x := by
    obtain ⟨y, hy, rfl⟩ := List.mem_map.1 hx
    obtain ⟨j, hj, rfl⟩ := List.getElem_of_mem hy
    have := (hw j hj).1
    rw [getD_at hj] at this
    omega
  have h1 : 16 < x := by
    unfold badB at hb
    simp only [Bool.or_eq_true, decide_eq_true_eq] at hb
    omega
  have key : ∀ (l : List Int) (a : Int), (∀ z ∈ l, z ≤ l.foldl max a) ∧ a ≤ l.foldl max a := by
    intro l
    induction l with
    | nil => intro a; exact ⟨fun z hz => (by cases hz), Int.le_refl _⟩
    | cons b l ih =>
      intro a
      obtain ⟨i1, i2⟩ := ih (max a b)
      refine ⟨fun z hz => ?_, ?_⟩
      · rcases List.mem_cons.1 hz with rfl | hz
        · show z ≤ l.foldl max (max a z); omega
        · exact i1 z hz
      · show a ≤ l.foldl max (max a b); omega
  have := (key ((twiceC c).ws ++ [0]) (((twiceC c).ws ++ [0]).getD 0 0)).1 x (List.mem_append_left _ hx)
  unfold maxTo
  rw [List.take_length]
  omega
end Go.Proofs.YtdmfhlfhlflakaaDoor
