/-
  Sets of vertices as numbers, the bit of each; their elements, rising. No program in sight.
-/
import Derived.Laws.Bits64b
import Derived.Lib.TrailingZeros
namespace Go.Proofs.YtplidcbfbonjlaaDoor
open Go.Lib
set_option linter.unusedVariables false

theorem wrapU {x : Int} (h : 0 ≤ x) (h' : x ≤ 18446744073709551615) : IntKind.u64.wrap x = x := by
  rw [IntKind.wrap_u64]
  omega
/-- The set of a row's vertices. -/
def setL (e : List Int) : Nat := e.foldl (fun s v => s ||| 2 ^ v.toNat) 0
/-- What one set has and another one has not. -/
def minus (s t : Nat) : Nat := s ^^^ (s &&& t)
/-- A set's elements, rising. -/
def eachL (s : Nat) : List Int := ((List.range 64).filter fun i => s.testBit i).map fun (i : Nat) => (i : Int)

theorem setL_snoc (e : List Int) (v : Int) : setL (e ++ [v]) = setL e ||| 2 ^ v.toNat := by
  unfold setL
  rw [List.foldl_append]
  rfl
theorem fold_bit (i : Nat) : ∀ (e : List Int) (s : Nat), (∀ x ∈ e, 0 ≤ x) → (e.foldl (fun s v => s ||| 2 ^ v.toNat) s).testBit i = (s.testBit i || decide ((i : Int) ∈ e))
  | [], s, _ => by simp
  | v :: e, s, h => by
    have hv := h v List.mem_cons_self
    rw [List.foldl_cons, fold_bit i e _ (fun x hx => h x (List.mem_cons_of_mem _ hx)), Nat.testBit_or, Nat.testBit_two_pow, Bool.or_assoc]
    congr 1
    rw [Bool.eq_iff_iff]
    simp only [Bool.or_eq_true, decide_eq_true_eq, List.mem_cons]
    constructor
    · rintro (h1 | h1)
      · exact .inl (by omega)
      · exact .inr h1
    · rintro (h1 | h1)
      · exact .inl (by omega)
      · exact .inr h1
theorem setL_bit {e : List Int} (h : ∀ x ∈ e, 0 ≤ x) (i : Nat) : (setL e).testBit i = decide ((i : Int) ∈ e) := by
  unfold setL
  rw [fold_bit i e 0 h]
  simp
theorem fold_lt (n : Nat) : ∀ (e : List Int) (s : Nat), s < 2 ^ n → (∀ x ∈ e, 0 ≤ x ∧ x < n) → e.foldl (fun s v => s ||| 2 ^ v.toNat) s < 2 ^ n
  | [], s, hs, _ => hs
  | v :: e, s, hs, h => by
    have hv := h v List.mem_cons_self
    rw [List.foldl_cons]
    exact fold_lt n e _ (Nat.or_lt_two_pow hs (Nat.pow_lt_pow_right (by decide) (by omega))) (fun x hx => h x (List.mem_cons_of_mem _ hx))
theorem setL_lt {n : Nat} {e : List Int} (h : ∀ x ∈ e, 0 ≤ x ∧ x < n) : setL e < 2 ^ n := fold_lt n e 0 (Nat.two_pow_pos n) h
theorem minus_bit (s t i : Nat) : (minus s t).testBit i = (s.testBit i && !t.testBit i) := by
  unfold minus
  rw [Nat.testBit_xor, Nat.testBit_and]
  cases s.testBit i <;> cases t.testBit i <;> rfl
theorem minus_lt {n s : Nat} (t : Nat) (h : s < 2 ^ n) : minus s t < 2 ^ n := by
  refine Nat.lt_pow_two_of_testBit _ fun i hi => ?_
  rw [minus_bit, Nat.testBit_lt_two_pow (Nat.lt_of_lt_of_le h (Nat.pow_le_pow_right (by decide) hi))]
  rfl
theorem minus_zero {s t : Nat} : minus s t = 0 ↔ ∀ i, s.testBit i = true → t.testBit i = true := by
  constructor
  · intro h i hs
    have := minus_bit s t i
    rw [h, Nat.zero_testBit, hs] at this
    cases ht : t.testBit i
    · rw [ht] at this; exact absurd this (by decide)
    · rfl
  · intro h
    refine Nat.eq_of_testBit_eq fun i => ?_
    rw [minus_bit, Nat.zero_testBit]
    cases hs : s.testBit i
    · rfl
    · rw [h i hs]; rfl
theorem and_zero {s t : Nat} : s &&& t = 0 ↔ ∀ i, s.testBit i = true → t.testBit i = false := by
  constructor
  · intro h i hs
    have := Nat.testBit_and s t i
    rw [h, Nat.zero_testBit, hs] at this
    simpa using this.symm
  · intro h
    refine Nat.eq_of_testBit_eq fun i => ?_
    rw [Nat.testBit_and, Nat.zero_testBit]
    cases hs : s.testBit i
    · rfl
    · rw [h i hs]; rfl
theorem or_grows {s t : Nat} (h : minus s t ≠ 0) : t < t ||| s := by
  have h1 : t ≤ t ||| s := Nat.left_le_or
  rcases Nat.lt_or_eq_of_le h1 with h2 | h2
  · exact h2
  · exfalso
    refine h (minus_zero.2 fun i hi => ?_)
    rw [h2, Nat.testBit_or, hi, Bool.or_true]
theorem bits_andNot_u64_nat (a b : Nat) (ha : a < 18446744073709551616) (hb : b < 18446744073709551616) : bits .andNot .u64 (a : Int) (b : Int) = ((minus a b : Nat) : Int) := by
  have hx : minus a b < 18446744073709551616 := minus_lt (n := 64) b ha
  have h1 : (BitVec.ofInt 64 (a : Int)).toNat = a := by
    rw [BitVec.ofInt_natCast, BitVec.toNat_ofNat]; exact Nat.mod_eq_of_lt (by omega)
  have h2 : (BitVec.ofInt 64 (b : Int)).toNat = b := by
    rw [BitVec.ofInt_natCast, BitVec.toNat_ofNat]; exact Nat.mod_eq_of_lt (by omega)
  show IntKind.u64.wrap ((BitVec.ofInt 64 (a : Int) &&& ~~~ BitVec.ofInt 64 (b : Int)).toNat : Int) = _
  have h3 : (BitVec.ofInt 64 (a : Int) &&& ~~~ BitVec.ofInt 64 (b : Int)).toNat = minus a b := by
    refine Nat.eq_of_testBit_eq fun i => ?_
    rw [minus_bit, BitVec.testBit_toNat, BitVec.getLsbD_and, BitVec.getLsbD_not, ← BitVec.testBit_toNat, ← BitVec.testBit_toNat, h1, h2]
    by_cases hi : i < 64
    · rw [decide_eq_true hi, Bool.true_and]
    · rw [decide_eq_false hi, Nat.testBit_lt_two_pow (x := a) (i := i) (Nat.lt_of_lt_of_le (show a < 2 ^ 64 from ha) (Nat.pow_le_pow_right (by decide) (by omega)))]
      rfl
  rw [h3, IntKind.wrap_u64]
  omega
theorem ctz_low {s : Nat} (h0 : s ≠ 0) (h : s < 2 ^ 64) : s.testBit (ctz 64 s) = true ∧ (∀ j, j < ctz 64 s → s.testBit j = false) ∧ ctz 64 s < 64 := by
  have hc : ctz 64 s = ctzFrom 64 s := by unfold ctz; rw [if_neg h0]
  obtain ⟨m, hm, hk⟩ := ctzFrom_spec 64 s (by omega) h
  rw [hc]
  generalize ctzFrom 64 s = k at *
  subst hm
  refine ⟨?_, fun j hj => ?_, hk⟩
  · rw [Nat.testBit_two_pow_mul, decide_eq_true (Nat.le_refl k), Nat.sub_self, Nat.testBit_zero]
    simp
  · rw [Nat.testBit_two_pow_mul, decide_eq_false (by omega)]
    rfl
theorem filter_first {p q : Nat → Bool} {k : Nat} (hp : p k = true) (hl : ∀ j, j < k → p j = false) (hq : ∀ j, q j = (p j && !decide (j = k))) : ∀ d, (List.range (k + 1 + d)).filter p = k :: (List.range (k + 1 + d)).filter q
  | 0 => by
    have h1 : (List.range k).filter p = [] := List.filter_eq_nil_iff.2 fun j hj => by rw [hl j (List.mem_range.1 hj)]; decide
    have h2 : (List.range k).filter q = [] := List.filter_eq_nil_iff.2 fun j hj => by rw [hq, hl j (List.mem_range.1 hj)]; exact Bool.false_ne_true
    rw [Nat.add_zero, List.range_succ, List.filter_append, List.filter_append, h1, h2]
    simp [hp, hq]
  | d + 1 => by
    have ih := filter_first hp hl hq d
    rw [← Nat.add_assoc, List.range_succ, List.filter_append, List.filter_append, ih]
    have : q (k + 1 + d) = p (k + 1 + d) := by rw [hq, decide_eq_false (by omega)]; simp
    simp [List.filter_cons, this]
theorem eachL_zero : eachL 0 = [] := by
  unfold eachL
  rw [List.filter_eq_nil_iff.2 (fun j _ => by rw [Nat.zero_testBit]; decide)]
  rfl
theorem eachL_cons {s : Nat} (h0 : s ≠ 0) (h : s < 2 ^ 64) : eachL s = (ctz 64 s : Int) :: eachL (minus s (2 ^ ctz 64 s)) := by
  obtain ⟨h1, h2, h3⟩ := ctz_low h0 h
  generalize ctz 64 s = k at *
  obtain ⟨d, hd⟩ : ∃ d, 64 = k + 1 + d := ⟨64 - (k + 1), by omega⟩
  unfold eachL
  rw [hd, filter_first (p := fun i => s.testBit i) (q := fun i => (minus s (2 ^ k)).testBit i) h1 h2 (fun j => by rw [minus_bit, Nat.testBit_two_pow]; simp [eq_comm])]
  rfl
theorem eachL_mem {s : Nat} {x : Int} (h : s < 2 ^ 64) : x ∈ eachL s ↔ 0 ≤ x ∧ s.testBit x.toNat = true := by
  unfold eachL
  rw [List.mem_map]
  constructor
  · rintro ⟨i, hi, rfl⟩
    exact ⟨by omega, by rw [show ((i : Int)).toNat = i from rfl]; exact (List.mem_filter.1 hi).2⟩
  · rintro ⟨h0, h1⟩
    refine ⟨x.toNat, List.mem_filter.2 ⟨List.mem_range.2 ?_, h1⟩, by omega⟩
    refine Nat.lt_of_not_le fun h2 => ?_
    rw [Nat.testBit_lt_two_pow (Nat.lt_of_lt_of_le h (Nat.pow_le_pow_right (by decide) h2))] at h1
    exact absurd h1 (by decide)
theorem eachL_rise (s : Nat) : (eachL s).Pairwise (· < ·) := by
  unfold eachL
  refine List.Pairwise.map _ (fun a b (h : a < b) => by show (a : Int) < (b : Int); omega) (List.Pairwise.filter _ List.pairwise_lt_range)
theorem eachL_len (s : Nat) : (eachL s).length ≤ 64 := by
  unfold eachL
  rw [List.length_map]
  exact Nat.le_trans (List.length_filter_le _ _) (by rw [List.length_range]; omega)
end Go.Proofs.YtplidcbfbonjlaaDoor
