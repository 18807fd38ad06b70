/-
  Plain facts on numbers and lists, with no program in sight: the log, and rows of numbers.
-/
namespace Go.Proofs.YtdmfhlfhlflakaaDoor
/-- The log of a number: the greatest power of two within, 0 below 1. -/
def lg (n : Int) : Nat := Nat.log2 n.toNat
theorem lg_small (n : Int) (h : n ≤ 1) : lg n = 0 := by
  unfold lg
  have : n.toNat = 0 ∨ n.toNat = 1 := by omega
  rcases this with h | h <;> rw [h] <;> rfl
theorem lg_half (n : Int) (h : 1 < n) : lg n = lg (n / 2) + 1 := by
  unfold lg
  have e : (n / 2).toNat = n.toNat / 2 := by omega
  rw [e, Nat.log2_def n.toNat, if_pos (by omega)]
theorem lg_le (n : Int) (h : n ≤ 9223372036854775807) : lg n ≤ 62 := by
  unfold lg
  by_cases h0 : n.toNat = 0
  · rw [h0]; decide
  · have := (Nat.log2_lt h0 (k := 63)).2 (by omega)
    omega

/-- Does a row rise? -/
def risesB (xs : List Int) : Bool := decide (xs.Pairwise (· < ·))
/-- It rises as far as its k-th element. -/
def RisesTo (k : Nat) (xs : List Int) : Prop := ∀ i, (h : i + 1 < xs.length) → i + 1 < k → xs[i] < xs[i + 1]
theorem risesTo_one (xs : List Int) : RisesTo 1 xs := fun i _ h => by omega
theorem risesTo_zero (xs : List Int) : RisesTo 0 xs := fun i _ h => by omega
theorem risesTo_step {k : Nat} {xs : List Int} (h : RisesTo k xs) (hk : k < xs.length) (hk0 : 0 < k) (e : xs[k - 1] < xs[k]) : RisesTo (k + 1) xs := by
  intro i hi hik
  by_cases he : i + 1 = k
  · subst he; exact e
  · exact h i hi (by omega)
theorem risesTo_all {k : Nat} {xs : List Int} (h : RisesTo k xs) (hk : xs.length ≤ k) : risesB xs = true := by
  rw [risesB, decide_eq_true_eq, List.pairwise_iff_getElem]
  intro i j hi hj hij
  obtain ⟨d, rfl⟩ : ∃ d, j = i + 1 + d := ⟨j - (i + 1), by omega⟩
  clear hij
  induction d with
  | zero => exact h i hj (by omega)
  | succ d ih =>
    have h1 := ih (by omega)
    have h2 := h (i + 1 + d) (by omega) (by omega)
    have e : i + 1 + (d + 1) = i + 1 + d + 1 := by omega
    simp only [e]
    omega
theorem rises_lt {xs : List Int} (h : risesB xs = true) {i j : Nat} (hij : i < j) (hj : j < xs.length) : xs[i]'(by omega) < xs[j] := by
  rw [risesB, decide_eq_true_eq, List.pairwise_iff_getElem] at h
  exact h i j (by omega) hj hij
theorem rises_le {xs : List Int} (h : risesB xs = true) {i j : Nat} (hij : i ≤ j) (hj : j < xs.length) : xs[i]'(by omega) ≤ xs[j] := by
  by_cases e : i = j
  · subst e; omega
  · have := rises_lt h (show i < j by omega) hj; omega
theorem not_rises {k : Nat} {xs : List Int} (hk : k < xs.length) (hk0 : 0 < k) (e : ¬ xs[k - 1] < xs[k]) : risesB xs = false := by
  by_cases h : risesB xs = true
  · exact absurd (rises_lt h (show k - 1 < k by omega) hk) e
  · simpa using h

/-- Can something be sought from i on? -/
def mayB (xs : List Int) (i : Int) : Bool := risesB xs && decide (0 ≤ i) && decide (i ≤ xs.length)

/-- The first place from i on at which p holds; how many there are, if there is none. -/
def place (xs : List Int) (i : Nat) (p : Int → Bool) : Nat := i + (xs.drop i).findIdx p
theorem place_le {xs : List Int} {i : Nat} {p : Int → Bool} (h : i ≤ xs.length) : place xs i p ≤ xs.length := by
  unfold place
  have := List.findIdx_le_length (p := p) (xs := xs.drop i)
  simp at this
  omega
theorem place_ge {xs : List Int} {i : Nat} {p : Int → Bool} : i ≤ place xs i p := by unfold place; omega
theorem place_not {xs : List Int} {i : Nat} {p : Int → Bool} {j : Nat} (hij : i ≤ j) (hj : j < xs.length) (h : j < place xs i p) : p xs[j] = false := by
  unfold place at h
  have := List.not_of_lt_findIdx (p := p) (xs := xs.drop i) (i := j - i) (by omega)
  have e : i + (j - i) = j := by omega
  simpa [e] using this
theorem place_at {xs : List Int} {i : Nat} {p : Int → Bool} (h : place xs i p < xs.length) : p xs[place xs i p] = true := by
  unfold place at h
  have hl : (xs.drop i).findIdx p < (xs.drop i).length := by simp; omega
  have := List.findIdx_getElem (xs := xs.drop i) (p := p) (w := hl)
  simpa [place] using this
theorem place_eq {xs : List Int} {i m : Nat} {p : Int → Bool} (him : i ≤ m) (hm : m ≤ xs.length) (h1 : ∀ j, (hj : j < xs.length) → i ≤ j → j < m → p xs[j] = false)
    (h2 : (h : m < xs.length) → p xs[m] = true) : place xs i p = m := by
  rcases Nat.lt_trichotomy (place xs i p) m with h | h | h
  · have := place_at (xs := xs) (i := i) (p := p) (by omega)
    rw [h1 _ (by omega) place_ge h] at this
    cases this
  · exact h
  · have hle := place_le (xs := xs) (i := i) (p := p) (by omega)
    have := place_not (p := p) him (by omega) h
    rw [h2 (by omega)] at this
    cases this

/-- Where low stands when k leaps have been too short. -/
def lowOf (i k : Nat) : Nat := if k = 0 then i else i + 2 ^ (k - 1)
theorem lowOf_succ (i k : Nat) : lowOf i (k + 1) = i + 2 ^ k - 1 + 1 := by
  have := Nat.one_le_two_pow (n := k)
  simp [lowOf]; omega
/-- Behind a place that is far enough all are. -/
def Climbs (n i : Nat) (q : Nat → Bool) : Prop := ∀ a b, i ≤ a → a ≤ b → b < n → q a = true → q b = true
/-- What the halving keeps: the place lies from low to high; d looks more are enough, and all looks are few. -/
def Halving (n i : Nat) (q : Nat → Bool) (low high looks : Nat) : Prop :=
  i ≤ low ∧ low ≤ high ∧ high ≤ n ∧ (∀ j, i ≤ j → j < low → q j = false) ∧ (high < n → q high = true) ∧
    ∃ d m, high - low < 2 ^ d ∧ looks + d ≤ 2 + 2 * m ∧ (m = 0 ∨ i + 2 ^ m ≤ low) ∧ (i < n ∧ 1 ≤ looks ∨ i = n ∧ looks = 0)
theorem halving_break {n i k : Nat} {q : Nat → Bool} (hc : Climbs n i q) (hk : i + 2 ^ k - 1 < n) (hn : ∀ j, j < k → q (i + 2 ^ j - 1) = false) (hy : q (i + 2 ^ k - 1) = true) :
    Halving n i q (lowOf i k) (i + 2 ^ k - 1) (k + 1) := by
  have h1 := Nat.one_le_two_pow (n := k)
  cases k with
  | zero =>
    refine ⟨by simp [lowOf], by simp [lowOf], by simp at hk; simp; omega, fun j a b => by simp [lowOf] at b; omega, fun _ => hy, 0, 0, by simp [lowOf], by omega, .inl rfl, .inl ⟨by simp at hk; omega, by omega⟩⟩
  | succ k =>
    have h2 := Nat.one_le_two_pow (n := k)
    have e : 2 ^ (k + 1) = 2 * 2 ^ k := by rw [Nat.pow_succ]; omega
    have el : lowOf i (k + 1) = i + 2 ^ k := by simp [lowOf]
    rw [el]
    refine ⟨by omega, by omega, by omega, fun j a b => ?_, fun _ => hy, k, k, by omega, by omega, by omega, .inl ⟨by omega, by omega⟩⟩
    have hf := hn k (by omega)
    cases hq : q j with
    | false => rfl
    | true => rw [hc j (i + 2 ^ k - 1) a (by omega) (by omega) hq] at hf; cases hf
theorem halving_done {n i k : Nat} {q : Nat → Bool} (hc : Climbs n i q) (hi : i ≤ n) (hk : n ≤ i + 2 ^ k - 1) (hn : ∀ j, j < k → i + 2 ^ j - 1 < n ∧ q (i + 2 ^ j - 1) = false) :
    Halving n i q (lowOf i k) n k := by
  cases k with
  | zero =>
    simp at hk
    obtain rfl : i = n := by omega
    exact ⟨by simp [lowOf], by simp [lowOf], by omega, fun j a b => by simp [lowOf] at b; omega, fun h => by omega, 0, 0, by simp [lowOf], by omega, .inl rfl, .inr ⟨rfl, rfl⟩⟩
  | succ k =>
    have h2 := Nat.one_le_two_pow (n := k)
    have e : 2 ^ (k + 1) = 2 * 2 ^ k := by rw [Nat.pow_succ]; omega
    have el : lowOf i (k + 1) = i + 2 ^ k := by simp [lowOf]
    obtain ⟨hl, hf⟩ := hn k (by omega)
    rw [el]
    refine ⟨by omega, by omega, by omega, fun j a b => ?_, fun h => by omega, k, k, by omega, by omega, by omega, .inl ⟨by omega, by omega⟩⟩
    cases hq : q j with
    | false => rfl
    | true => rw [hc j (i + 2 ^ k - 1) a (by omega) (by omega) hq] at hf; cases hf
theorem halving_yes {n i low high looks : Nat} {q : Nat → Bool} (h : Halving n i q low high looks) (hlt : low < high) (hy : q (low + (high - low) / 2) = true) :
    Halving n i q low (low + (high - low) / 2) (looks + 1) := by
  obtain ⟨a, b, c, d, e, dd, m, f1, f2, f3, f4⟩ := h
  cases dd with
  | zero => simp at f1; omega
  | succ dd =>
    have ep : 2 ^ (dd + 1) = 2 * 2 ^ dd := by rw [Nat.pow_succ]; omega
    exact ⟨a, by omega, by omega, d, fun _ => hy, dd, m, by omega, by omega, f3, by omega⟩
theorem halving_no {n i low high looks : Nat} {q : Nat → Bool} (hc : Climbs n i q) (h : Halving n i q low high looks) (hlt : low < high) (hf : q (low + (high - low) / 2) = false) :
    Halving n i q (low + (high - low) / 2 + 1) high (looks + 1) := by
  obtain ⟨a, b, c, d, e, dd, m, f1, f2, f3, f4⟩ := h
  cases dd with
  | zero => simp at f1; omega
  | succ dd =>
    have ep : 2 ^ (dd + 1) = 2 * 2 ^ dd := by rw [Nat.pow_succ]; omega
    refine ⟨by omega, by omega, c, fun j h1 h2 => ?_, e, dd, m, by omega, by omega, by omega, by omega⟩
    cases hq : q j with
    | false => rfl
    | true => rw [hc j (low + (high - low) / 2) h1 (by omega) (by omega) hq] at hf; cases hf
theorem halving_looks {n i low high looks : Nat} {q : Nat → Bool} (h : Halving n i q low high looks) (hn : n ≤ 1099511627776) : looks ≤ 100 := by
  obtain ⟨a, b, c, d, e, dd, m, f1, f2, f3, f4⟩ := h
  rcases f3 with rfl | f3
  · omega
  · have : m < 41 := by
      rcases Nat.lt_or_ge m 41 with h1 | h1
      · exact h1
      · have := Nat.pow_le_pow_right (show 0 < 2 by omega) h1
        omega
    omega
theorem lg_ge {m n : Nat} (h : 2 ^ m ≤ n) : m ≤ lg (n : Int) := by
  unfold lg
  have h1 := Nat.one_le_two_pow (n := m)
  rw [Int.toNat_natCast]
  exact (Nat.le_log2 (by omega)).2 h
/-- May it take so many looks to find a place? -/
def FewLooks (n i at_ looks : Nat) : Prop := (i = n → looks = 0) ∧ (i < n → 1 ≤ looks ∧ looks ≤ 2 + 2 * lg (1 + at_ - i : Int))
theorem halving_end {n i low looks : Nat} {q : Nat → Bool} (h : Halving n i q low low looks) : i ≤ low ∧ low ≤ n ∧ (∀ j, i ≤ j → j < low → q j = false) ∧ (low < n → q low = true) ∧ FewLooks n i low looks := by
  obtain ⟨a, b, c, d, e, dd, m, f1, f2, f3, f4⟩ := h
  refine ⟨a, c, d, e, fun h => by omega, fun h => ⟨by omega, ?_⟩⟩
  rcases f3 with rfl | f3
  · omega
  · have : m ≤ lg ((1 + low - i : Nat) : Int) := lg_ge (by omega)
    rw [show ((1 + low - i : Nat) : Int) = 1 + (low : Int) - i from by omega] at this
    omega
end Go.Proofs.YtdmfhlfhlflakaaDoor
