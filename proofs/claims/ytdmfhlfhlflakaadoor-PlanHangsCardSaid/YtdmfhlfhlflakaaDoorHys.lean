/-
  hyper's sets and parts: plain, and walked.
-/
import Derived.Laws.Bits64b
import Derived.Lib.TrailingZeros
import Derived.Test.YtdmfhlfhlflakaaDoorPlIdx2
import Derived.Test.YtdmfhlfhlflakaaDoorPlOrd
import Derived.Test.YtdmfhlfhlflakaaDoorPlFew
namespace Go.Proofs.YtdmfhlfhlflakaaDoor
/-! ## XHySet -/
section
open Go.Lib
set_option linter.unusedVariables false

theorem wrapU {x : Int} (h : 0 ≤ x) (h' : x ≤ 18446744073709551615) : IntKind.u64.wrap x = x := by
  rw [IntKind.wrap_u64]
  omega
/-- The set of a row's vertices. -/
def setL (e : List Int) : Nat := e.foldl (fun s v => s ||| 2 ^ v.toNat) 0
/-- What one set has and another one has not. -/
def minus (s t : Nat) : Nat := s ^^^ (s &&& t)
/-- A set's elements, rising. -/
def eachL (s : Nat) : List Int := ((List.range 64).filter fun i => s.testBit i).map fun (i : Nat) => (i : Int)

theorem setL_snoc (e : List Int) (v : Int) : setL (e ++ [v]) = setL e ||| 2 ^ v.toNat := by
  unfold setL
  rw [List.foldl_append]
  rfl
theorem fold_bit (i : Nat) : ∀ (e : List Int) (s : Nat), (∀ x ∈ e, 0 ≤ x) → (e.foldl (fun s v => s ||| 2 ^ v.toNat) s).testBit i = (s.testBit i || decide ((i : Int) ∈ e))
  | [], s, _ => by simp
  | v :: e, s, h => by
    have hv := h v List.mem_cons_self
    rw [List.foldl_cons, fold_bit i e _ (fun x hx => h x (List.mem_cons_of_mem _ hx)), Nat.testBit_or, Nat.testBit_two_pow, Bool.or_assoc]
    congr 1
    rw [Bool.eq_iff_iff]
    simp only [Bool.or_eq_true, decide_eq_true_eq, List.mem_cons]
    constructor
    · rintro (h1 | h1)
      · exact .inl (by omega)
      · exact .inr h1
    · rintro (h1 | h1)
      · exact .inl (by omega)
      · exact .inr h1
theorem setL_bit {e : List Int} (h : ∀ x ∈ e, 0 ≤ x) (i : Nat) : (setL e).testBit i = decide ((i : Int) ∈ e) := by
  unfold setL
  rw [fold_bit i e 0 h]
  simp
theorem fold_lt (n : Nat) : ∀ (e : List Int) (s : Nat), s < 2 ^ n → (∀ x ∈ e, 0 ≤ x ∧ x < n) → e.foldl (fun s v => s ||| 2 ^ v.toNat) s < 2 ^ n
  | [], s, hs, _ => hs
  | v :: e, s, hs, h => by
    have hv := h v List.mem_cons_self
    rw [List.foldl_cons]
    exact fold_lt n e _ (Nat.or_lt_two_pow hs (Nat.pow_lt_pow_right (by decide) (by omega))) (fun x hx => h x (List.mem_cons_of_mem _ hx))
theorem setL_lt {n : Nat} {e : List Int} (h : ∀ x ∈ e, 0 ≤ x ∧ x < n) : setL e < 2 ^ n := fold_lt n e 0 (Nat.two_pow_pos n) h
theorem minus_bit (s t i : Nat) : (minus s t).testBit i = (s.testBit i && !t.testBit i) := by
  unfold minus
  rw [Nat.testBit_xor, Nat.testBit_and]
  cases s.testBit i <;> cases t.testBit i <;> rfl
theorem minus_lt {n s : Nat} (t : Nat) (h : s < 2 ^ n) : minus s t < 2 ^ n := by
  refine Nat.lt_pow_two_of_testBit _ fun i hi => ?_
  rw [minus_bit, Nat.testBit_lt_two_pow (Nat.lt_of_lt_of_le h (Nat.pow_le_pow_right (by decide) hi))]
  rfl
theorem minus_zero {s t : Nat} : minus s t = 0 ↔ ∀ i, s.testBit i = true → t.testBit i = true := by
  constructor
  · intro h i hs
    have := minus_bit s t i
    rw [h, Nat.zero_testBit, hs] at this
    cases ht : t.testBit i
    · rw [ht] at this; exact absurd this (by decide)
    · rfl
  · intro h
    refine Nat.eq_of_testBit_eq fun i => ?_
    rw [minus_bit, Nat.zero_testBit]
    cases hs : s.testBit i
    · rfl
    · rw [h i hs]; rfl
theorem and_zero {s t : Nat} : s &&& t = 0 ↔ ∀ i, s.testBit i = true → t.testBit i = false := by
  constructor
  · intro h i hs
    have := Nat.testBit_and s t i
    rw [h, Nat.zero_testBit, hs] at this
    simpa using this.symm
  · intro h
    refine Nat.eq_of_testBit_eq fun i => ?_
    rw [Nat.testBit_and, Nat.zero_testBit]
    cases hs : s.testBit i
    · rfl
    · rw [h i hs]; rfl
theorem or_grows {s t : Nat} (h : minus s t ≠ 0) : t < t ||| s := by
  have h1 : t ≤ t ||| s := Nat.left_le_or
  rcases Nat.lt_or_eq_of_le h1 with h2 | h2
  · exact h2
  · exfalso
    refine h (minus_zero.2 fun i hi => ?_)
    rw [h2, Nat.testBit_or, hi, Bool.or_true]
theorem bits_andNot_u64_nat (a b : Nat) (ha : a < 18446744073709551616) (hb : b < 18446744073709551616) : bits .andNot .u64 (a : Int) (b : Int) = ((minus a b : Nat) : Int) := by
  have hx : minus a b < 18446744073709551616 := minus_lt (n := 64) b ha
  have h1 : (BitVec.ofInt 64 (a : Int)).toNat = a := by
    rw [BitVec.ofInt_natCast, BitVec.toNat_ofNat]; exact Nat.mod_eq_of_lt (by omega)
  have h2 : (BitVec.ofInt 64 (b : Int)).toNat = b := by
    rw [BitVec.ofInt_natCast, BitVec.toNat_ofNat]; exact Nat.mod_eq_of_lt (by omega)
  show IntKind.u64.wrap ((BitVec.ofInt 64 (a : Int) &&& ~~~ BitVec.ofInt 64 (b : Int)).toNat : Int) = _
  have h3 : (BitVec.ofInt 64 (a : Int) &&& ~~~ BitVec.ofInt 64 (b : Int)).toNat = minus a b := by
    refine Nat.eq_of_testBit_eq fun i => ?_
    rw [minus_bit, BitVec.testBit_toNat, BitVec.getLsbD_and, BitVec.getLsbD_not, ← BitVec.testBit_toNat, ← BitVec.testBit_toNat, h1, h2]
    by_cases hi : i < 64
    · rw [decide_eq_true hi, Bool.true_and]
    · rw [decide_eq_false hi, Nat.testBit_lt_two_pow (x := a) (i := i) (Nat.lt_of_lt_of_le (show a < 2 ^ 64 from ha) (Nat.pow_le_pow_right (by decide) (by omega)))]
      rfl
  rw [h3, IntKind.wrap_u64]
  omega
theorem ctz_low {s : Nat} (h0 : s ≠ 0) (h : s < 2 ^ 64) : s.testBit (ctz 64 s) = true ∧ (∀ j, j < ctz 64 s → s.testBit j = false) ∧ ctz 64 s < 64 := by
  have hc : ctz 64 s = ctzFrom 64 s := by unfold ctz; rw [if_neg h0]
  obtain ⟨m, hm, hk⟩ := ctzFrom_spec 64 s (by omega) h
  rw [hc]
  generalize ctzFrom 64 s = k at *
  subst hm
  refine ⟨?_, fun j hj => ?_, hk⟩
  · rw [Nat.testBit_two_pow_mul, decide_eq_true (Nat.le_refl k), Nat.sub_self, Nat.testBit_zero]
    simp
  · rw [Nat.testBit_two_pow_mul, decide_eq_false (by omega)]
    rfl
theorem filter_first {p q : Nat → Bool} {k : Nat} (hp : p k = true) (hl : ∀ j, j < k → p j = false) (hq : ∀ j, q j = (p j && !decide (j = k))) : ∀ d, (List.range (k + 1 + d)).filter p = k :: (List.range (k + 1 + d)).filter q
  | 0 => by
    have h1 : (List.range k).filter p = [] := List.filter_eq_nil_iff.2 fun j hj => by rw [hl j (List.mem_range.1 hj)]; decide
    have h2 : (List.range k).filter q = [] := List.filter_eq_nil_iff.2 fun j hj => by rw [hq, hl j (List.mem_range.1 hj)]; exact Bool.false_ne_true
    rw [Nat.add_zero, List.range_succ, List.filter_append, List.filter_append, h1, h2]
    simp [hp, hq]
  | d + 1 => by
    have ih := filter_first hp hl hq d
    rw [← Nat.add_assoc, List.range_succ, List.filter_append, List.filter_append, ih]
    have : q (k + 1 + d) = p (k + 1 + d) := by rw [hq, decide_eq_false (by omega)]; simp
    simp [List.filter_cons, this]
theorem eachL_zero : eachL 0 = [] := by
  unfold eachL
  rw [List.filter_eq_nil_iff.2 (fun j _ => by rw [Nat.zero_testBit]; decide)]
  rfl
theorem eachL_cons {s : Nat} (h0 : s ≠ 0) (h : s < 2 ^ 64) : eachL s = (ctz 64 s : Int) :: eachL (minus s (2 ^ ctz 64 s)) := by
  obtain ⟨h1, h2, h3⟩ := ctz_low h0 h
  generalize ctz 64 s = k at *
  obtain ⟨d, hd⟩ : ∃ d, 64 = k + 1 + d := ⟨64 - (k + 1), by omega⟩
  unfold eachL
  rw [hd, filter_first (p := fun i => s.testBit i) (q := fun i => (minus s (2 ^ k)).testBit i) h1 h2 (fun j => by rw [minus_bit, Nat.testBit_two_pow]; simp [eq_comm])]
  rfl
theorem eachL_mem {s : Nat} {x : Int} (h : s < 2 ^ 64) : x ∈ eachL s ↔ 0 ≤ x ∧ s.testBit x.toNat = true := by
  unfold eachL
  rw [List.mem_map]
  constructor
  · rintro ⟨i, hi, rfl⟩
    exact ⟨by omega, by rw [show ((i : Int)).toNat = i from rfl]; exact (List.mem_filter.1 hi).2⟩
  · rintro ⟨h0, h1⟩
    refine ⟨x.toNat, List.mem_filter.2 ⟨List.mem_range.2 ?_, h1⟩, by omega⟩
    refine Nat.lt_of_not_le fun h2 => ?_
    rw [Nat.testBit_lt_two_pow (Nat.lt_of_lt_of_le h (Nat.pow_le_pow_right (by decide) h2))] at h1
    exact absurd h1 (by decide)
theorem eachL_rise (s : Nat) : (eachL s).Pairwise (· < ·) := by
  unfold eachL
  refine List.Pairwise.map _ (fun a b (h : a < b) => by show (a : Int) < (b : Int); omega) (List.Pairwise.filter _ List.pairwise_lt_range)
theorem eachL_len (s : Nat) : (eachL s).length ≤ 64 := by
  unfold eachL
  rw [List.length_map]
  exact Nat.le_trans (List.length_filter_le _ _) (by rw [List.length_range]; omega)
end
/-! ## XHyPaP -/
section
set_option linter.unusedVariables false

/-- What one comes to from a vertex, edge by edge. -/
inductive Reach (ls : List (List Int)) (v : Int) : Int → Prop
  | refl : Reach ls v v
  | step {x y : Int} {e : List Int} : Reach ls v x → e ∈ ls → x ∈ e → y ∈ e → Reach ls v y
theorem Reach.trans {ls : List (List Int)} {u v w : Int} (h : Reach ls u v) (k : Reach ls v w) : Reach ls u w := by
  induction k with
  | refl => exact h
  | step _ he hx hy ih => exact .step ih he hx hy
theorem Reach.symm {ls : List (List Int)} {u v : Int} (h : Reach ls u v) : Reach ls v u := by
  induction h with
  | refl => exact .refl
  | step _ he hx hy ih => exact Reach.trans (.step .refl he hy hx) ih
/-- All edges have vertices alone. -/
def VertsOk (ls : List (List Int)) : Prop := ∀ e ∈ ls, ∀ x ∈ e, 0 ≤ x ∧ x < (64 : Nat)
theorem Reach.bound {ls : List (List Int)} {v x : Int} (hv : VertsOk ls) (h0 : 0 ≤ v ∧ v < (64 : Nat)) (h : Reach ls v x) : 0 ≤ x ∧ x < (64 : Nat) := by
  cases h with
  | refl => exact h0
  | step _ he _ hy => exact hv _ he _ hy
/-- A set that is growing to a part. -/
structure PartI (ls : List (List Int)) (v : Nat) (P : Nat) : Prop where
  lt : P < 2 ^ 64
  has : P.testBit v = true
  all : ∀ i, P.testBit i = true → Reach ls v i
theorem PartI.start (ls : List (List Int)) {v : Nat} (h : v < 64) : PartI ls v (2 ^ v) :=
  ⟨Nat.pow_lt_pow_right (by decide) h, by rw [Nat.testBit_two_pow]; simp, fun i hi => by
    rw [Nat.testBit_two_pow] at hi
    obtain rfl : v = i := of_decide_eq_true hi
    exact .refl⟩
theorem PartI.grow {ls : List (List Int)} {v P : Nat} (h : PartI ls v P) (hv : VertsOk ls) {e : List Int} (he : e ∈ ls) (hm : setL e &&& P ≠ 0) : PartI ls v (P ||| setL e) := by
  have h0 : ∀ x ∈ e, 0 ≤ x := fun x hx => (hv e he x hx).1
  refine ⟨Nat.or_lt_two_pow h.lt (setL_lt (hv e he)), by rw [Nat.testBit_or, h.has]; rfl, fun i hi => ?_⟩
  rw [Nat.testBit_or, Bool.or_eq_true] at hi
  rcases hi with hi | hi
  · exact h.all i hi
  · rw [setL_bit h0] at hi
    have hi := of_decide_eq_true hi
    apply Classical.byContradiction
    intro hn
    refine hm (and_zero.2 fun j hj => ?_)
    rw [setL_bit h0] at hj
    have hj := of_decide_eq_true hj
    cases hp : P.testBit j with
    | false => rfl
    | true => exact (hn (.step (h.all j hp) he hj hi)).elim
theorem PartI.done {ls : List (List Int)} {v P : Nat} (h : PartI ls v P) (hv : VertsOk ls) (hl : v < 64) (hc : ∀ e ∈ ls, setL e &&& P = 0 ∨ minus (setL e) P = 0) (i : Nat) : P.testBit i = true ↔ Reach ls v i := by
  refine ⟨h.all i, fun hr => ?_⟩
  suffices hs : ∀ x : Int, Reach ls v x → P.testBit x.toNat = true from hs i hr
  intro x hx
  induction hx with
  | refl => exact h.has
  | step hr he hx hy ih =>
    rename_i a b e
    have h0 : ∀ x ∈ e, 0 ≤ x := fun x hx => (hv e he x hx).1
    have ha := h0 _ hx
    have hb := h0 _ hy
    rcases hc e he with h1 | h1
    · have := and_zero.1 h1 a.toNat (by rw [setL_bit h0, Int.toNat_of_nonneg ha]; exact decide_eq_true hx)
      rw [ih] at this
      cases this
    · exact minus_zero.1 h1 b.toNat (by rw [setL_bit h0, Int.toNat_of_nonneg hb]; exact decide_eq_true hy)
theorem PartI.measure {ls : List (List Int)} {v P : Nat} (h : PartI ls v P) (hv : VertsOk ls) {e : List Int} (he : e ∈ ls) (hm : setL e &&& P ≠ 0) (hg : minus (setL e) P ≠ 0) : 2 ^ 64 - (P ||| setL e) < 2 ^ 64 - P := by
  have h1 := or_grows hg
  have h2 := (h.grow hv he hm).lt
  omega
theorem and_bit {s n : Nat} : s &&& 2 ^ n ≠ 0 ↔ s.testBit n = true := by
  constructor
  · intro h
    apply Classical.byContradiction
    intro hn
    refine h (and_zero.2 fun i hi => ?_)
    rw [Nat.testBit_two_pow]
    refine decide_eq_false fun e => ?_
    subst e
    exact hn hi
  · intro h h0
    have := and_zero.1 h0 n h
    rw [Nat.testBit_two_pow] at this
    simp at this
open Classical
/-- A vertex's part, rising. -/
noncomputable def partL (ls : List (List Int)) (v : Nat) : List Int := ((List.range 64).filter fun (i : Nat) => decide (Reach ls v (i : Int))).map fun (i : Nat) => (i : Int)
/-- The parts of the first vertices, each told at its least one. -/
noncomputable def partsTo (ls : List (List Int)) (k : Nat) : List (List Int) := ((List.range k).filter fun v => decide (∀ u : Nat, u < v → ¬ Reach ls u v)).map (partL ls)
theorem partL_is {ls : List (List Int)} {v P : Nat} (h : ∀ i : Nat, P.testBit i = true ↔ Reach ls v i) : eachL P = partL ls v := by
  unfold eachL partL
  congr 1
  refine List.filter_congr fun i _ => ?_
  rw [Bool.eq_iff_iff, decide_eq_true_iff]
  exact h i
theorem partL_mem {ls : List (List Int)} {v : Nat} (hv : VertsOk ls) (hl : v < 64) {x : Int} : x ∈ partL ls v ↔ Reach ls v x := by
  unfold partL
  rw [List.mem_map]
  constructor
  · rintro ⟨i, hi, rfl⟩
    exact of_decide_eq_true (List.mem_filter.1 hi).2
  · intro h
    have hb := Reach.bound hv ⟨by omega, by omega⟩ h
    exact ⟨x.toNat, List.mem_filter.2 ⟨List.mem_range.2 (by omega), decide_eq_true (by rw [Int.toNat_of_nonneg hb.1]; exact h)⟩, by omega⟩
theorem partL_bound (ls : List (List Int)) (v : Nat) : ∀ x ∈ partL ls v, 0 ≤ x ∧ x < 64 := by
  intro x hx
  obtain ⟨i, hi, rfl⟩ := List.mem_map.1 hx
  have := List.mem_range.1 (List.mem_filter.1 hi).1
  omega
theorem partL_len (ls : List (List Int)) (v : Nat) : (partL ls v).length ≤ 64 := by
  unfold partL
  rw [List.length_map]
  exact Nat.le_trans (List.length_filter_le _ _) (by rw [List.length_range]; omega)
theorem partsTo_len (ls : List (List Int)) (k : Nat) : (partsTo ls k).length ≤ k := by
  unfold partsTo
  rw [List.length_map]
  exact Nat.le_trans (List.length_filter_le _ _) (by rw [List.length_range]; omega)
/-- What is met when the parts of the first vertices are told. -/
structure MetI (ls : List (List Int)) (k M : Nat) : Prop where
  lt : M < 2 ^ 64
  met : ∀ i : Nat, M.testBit i = true ↔ ∃ u : Nat, u < k ∧ Reach ls u i
theorem MetI.start (ls : List (List Int)) : MetI ls 0 0 := ⟨by decide, fun i => by rw [Nat.zero_testBit]; simp⟩
theorem MetI.skip {ls : List (List Int)} {k M : Nat} (h : MetI ls k M) (hm : M.testBit k = true) : MetI ls (k + 1) M ∧ partsTo ls (k + 1) = partsTo ls k := by
  obtain ⟨u, hu, hr⟩ := (h.met k).1 hm
  refine ⟨⟨h.lt, fun i => ?_⟩, ?_⟩
  · rw [h.met i]
    constructor
    · rintro ⟨a, ha, hi⟩
      exact ⟨a, by omega, hi⟩
    · rintro ⟨a, ha, hi⟩
      by_cases e : a = k
      · subst e; exact ⟨u, hu, hr.trans hi⟩
      · exact ⟨a, by omega, hi⟩
  · unfold partsTo
    rw [List.range_succ, List.filter_append]
    simp only [List.filter_cons, List.filter_nil]
    rw [if_neg (by rw [decide_eq_true_iff]; exact fun h => h u hu hr), List.append_nil]
theorem MetI.take {ls : List (List Int)} {k M P : Nat} (h : MetI ls k M) (hm : M.testBit k = false) (hp : P < 2 ^ 64) (hP : ∀ i : Nat, P.testBit i = true ↔ Reach ls k i) : MetI ls (k + 1) (M ||| P) ∧ partsTo ls (k + 1) = partsTo ls k ++ [partL ls k] := by
  refine ⟨⟨Nat.or_lt_two_pow h.lt hp, fun i => ?_⟩, ?_⟩
  · rw [Nat.testBit_or, Bool.or_eq_true, h.met i, hP i]
    constructor
    · rintro (⟨a, ha, hi⟩ | hi)
      · exact ⟨a, by omega, hi⟩
      · exact ⟨k, by omega, hi⟩
    · rintro ⟨a, ha, hi⟩
      by_cases e : a = k
      · subst e; exact .inr hi
      · exact .inl ⟨a, by omega, hi⟩
  · have hn : ∀ u : Nat, u < k → ¬ Reach ls u k := fun u hu hr => by
      rw [(h.met k).2 ⟨u, hu, hr⟩] at hm
      cases hm
    unfold partsTo
    rw [List.range_succ, List.filter_append, List.map_append]
    simp only [List.filter_cons, List.filter_nil]
    rw [if_pos (by rw [decide_eq_true_iff]; exact hn)]
    rfl
end
/-! ## XHyW -/
section
open Go.RowKit Go.Lib Go.Shelf
set_option linter.unusedVariables false
set_option linter.unusedSimpArgs false

/-- TrailingZeros64's table. -/
def TabW (w : World) : Prop := ∀ j, j < deBruijn64tab.length → w.cell? ⟨1, j, none⟩ = some (.int .u8 (deBruijn64tab.getD j 0))
theorem TabW.later {w w' : World} (h : TabW w) (hb : Below w.heap.size w w') : TabW w' := fun j hj => cell_next hb (h j hj)
theorem tz64_key (x a : Nat) (hx : x < 18446744073709551616) (hx0 : x ≠ 0) (hlow : x &&& (18446744073709551616 - x) = a) :
    IntKind.u64.wrap (bits BinOp.and IntKind.u64 (x : Int) (IntKind.u64.wrap (-(x : Int))) * 285870213051353865) / 288230376151711744 = ((a * 285870213051353865 % 18446744073709551616 / 288230376151711744 : Nat) : Int) := by
  have e1 : IntKind.u64.wrap (-(x : Int)) = ((18446744073709551616 - x : Nat) : Int) := by rw [IntKind.wrap_u64]; omega
  rw [e1, bits_and_u64_nat x _ hx (by omega), hlow, IntKind.wrap_u64]
  omega
set_option maxHeartbeats 1000000 in
theorem tz_core (x k idx : Nat) (w : World) (hx0 : ((x : Int) == 0) = false)
    (key : IntKind.u64.wrap (bits BinOp.and IntKind.u64 (x : Int) (IntKind.u64.wrap (-(x : Int))) * 285870213051353865) / 288230376151711744 = (idx : Int))
    (hi : idx < 64) (hk : k < 64) (hcell : w.cell? ⟨1, idx, none⟩ = some (.int .u8 k)) :
    Calls Tryd.prog 116 #[.int .u64 x] w fun e w' => e = .returned (.int .i64 k) ∧ w' = w := by
  go_enter Tryd.func116, Tryd.ntmps116
  go_wp2_with (simp only [key])
  go_ret
  exact ⟨rfl, rfl⟩
theorem tz_any (x : Nat) (hx : x < 18446744073709551616) (hx0 : x ≠ 0) (w : World) (hT : TabW w) :
    Calls Tryd.prog 116 #[.int .u64 x] w fun e w' => e = .returned (.int .i64 (ctz 64 x)) ∧ w' = w := by
  obtain ⟨hlow, hk⟩ := lowest_bit 64 x hx0 hx
  obtain ⟨hi, htab⟩ := deBruijn64_at _ hk
  have hcell := hT _ hi
  rw [htab] at hcell
  exact tz_core x _ _ w (by rw [beq_eq_false_iff_ne]; omega) (tz64_key x _ hx hx0 hlow) hi hk hcell

theorem or_bit {s n : Nat} (hs : s < 2 ^ 64) (hn : n < 64) : bits .or .u64 (s : Int) (IntKind.u64.wrap (2 ^ n)) = ((s ||| 2 ^ n : Nat) : Int) := by
  have hp : (2 : Nat) ^ n < 2 ^ 64 := Nat.pow_lt_pow_right (by decide) hn
  have hw : IntKind.u64.wrap (2 ^ n) = ((2 ^ n : Nat) : Int) := by
    rw [show ((2 : Int) ^ n) = ((2 ^ n : Nat) : Int) from by push_cast; rfl]
    generalize 2 ^ n = q at hp ⊢
    exact wrapU (by omega) (by omega)
  rw [hw, bits_or_u64_nat s (2 ^ n) hs hp]
theorem andNot_bit {s n : Nat} (hs : s < 2 ^ 64) (hn : n < 64) : bits .andNot .u64 (s : Int) (IntKind.u64.wrap (2 ^ n)) = ((minus s (2 ^ n) : Nat) : Int) := by
  have hp : (2 : Nat) ^ n < 2 ^ 64 := Nat.pow_lt_pow_right (by decide) hn
  have hw : IntKind.u64.wrap (2 ^ n) = ((2 ^ n : Nat) : Int) := by
    rw [show ((2 : Int) ^ n) = ((2 ^ n : Nat) : Int) from by push_cast; rfl]
    generalize 2 ^ n = q at hp ⊢
    exact wrapU (by omega) (by omega)
  rw [hw, bits_andNot_u64_nat s (2 ^ n) hs hp]

set_option maxHeartbeats 1000000 in
theorem of_any (v : Value) (e : List Int) (w : World) (h : SlI .i64 w v e) (hb : ∀ x ∈ e, 0 ≤ x ∧ x < (64 : Nat)) :
    Calls Tryd.prog 87 #[v] w fun en w' => en = .returned (.int .u64 ((setL e : Nat) : Int)) ∧ w' = w := by
  have hlt : ∀ k, setL (e.take k) < 2 ^ 64 := fun k => setL_lt fun x hx => hb x (List.mem_of_mem_take hx)
  obtain ⟨a, c, rfl, h1, h2, h3, h4⟩ := h.open
  have HX := Lib.hid (And.intro h4 (And.intro hb hlt))
  have hm : e.length ≤ 9223372036854775807 := by omega
  clear h h1 h2 h3 h4 hb hlt
  go_enter Tryd.func87, Tryd.ntmps87
  go_wp2
  go_loop [3, 8] (fun s i => ∃ k : Nat, k ≤ e.length ∧ i = .int .i64 k ∧ s = .int .u64 ((setL (e.take k) : Nat) : Int)) (fun _ i => e.length - (intOf i).toNat)
  case atStart => exact ⟨0, Nat.zero_le _, rfl, rfl⟩
  case round =>
    obtain ⟨k, hk, rfl, rfl⟩ := hrel
    by_cases hlt : k < e.length
    · obtain ⟨b, o, rfl, hbw, hc⟩ := HX.out.1 (by omega)
      have c1 := hc k hlt
      have hx := HX.out.2.1 e[k] (List.getElem_mem hlt)
      have hs := HX.out.2.2 k
      have hst : setL (e.take (k + 1)) = setL (e.take k) ||| 2 ^ (e[k]).toNat := by
        rw [List.take_succ_eq_append_getElem hlt, setL_snoc]
      obtain ⟨x, hxe⟩ : ∃ x, e[k] = x := ⟨_, rfl⟩
      rw [hxe] at c1 hx hst
      obtain ⟨n, rfl⟩ : ∃ n : Nat, x = n := ⟨x.toNat, by omega⟩
      rw [show ((n : Int)).toNat = n from rfl] at hst
      obtain ⟨s, hse⟩ : ∃ s, setL (e.take k) = s := ⟨_, rfl⟩
      rw [hse] at hs hst ⊢
      have hn64 : n < 64 := by omega
      have hor := or_bit hs hn64
      have HST := Lib.hid hst
      clear hc hxe hse hst hx
      go_wp2
      go_round
      case rel => first | exact ⟨k + 1, by omega, by go_num, by rw [HST.out]⟩ | ((repeat apply Exists.intro); refine ⟨?_, rfl⟩; exact ⟨k + 1, by omega, by go_num, by rw [HST.out]⟩)
      case measure => simp [intOf]; omega
    · obtain rfl : k = e.length := by omega
      rw [List.take_length]
      go_wp2
      go_ret
      exact ⟨rfl, rfl⟩

theorem info_set : (Tryd.prog.info? 106).map (fun i => (i.zero, i.size, i.bytes)) = some (some (.int .u64 0), 1, 8) := by kernel_rfl
/-- The edges as sets. -/
def setsV (ls : List (List Int)) : List Value := ls.map fun e => .int .u64 ((setL e : Nat) : Int)
set_option maxRecDepth 100000 in
set_option maxHeartbeats 2000000 in
theorem sets_any (m : Int) (ev : Value) (ls : List (List Int)) (w : World) (h : SlRK .i64 w ev ls) (hv : VertsOk ls) (hl : ls.length ≤ 1000000) :
    Calls Tryd.prog 88 #[hypV m ev] w fun e w' => ∃ v', e = .returned v' ∧ w'.ownsRow w.heap.size 106 1 v' ls.length (setsV ls) ∧ Below w.heap.size w w' := by
  obtain ⟨i0, hi, hz0, hz1, hz2⟩ := info_parts info_set
  have hb0 := later_alloc w (.cells #[.int .i64 m, ev] 24)
  have H := Lib.hid (And.intro (h.later hb0) (And.intro hv (And.intro hl (box_new w #[.int .i64 m, ev] 24))))
  obtain ⟨ae, ce, rfl, -⟩ := h.open
  have HB := Lib.hid hb0
  clear h hv hl hb0
  go_enter Tryd.func88, Tryd.ntmps88
  go_wp2_with fail
  go_loopw [3, 9] (fun v i wr => ∃ k : Nat, k ≤ ls.length ∧ i = .int .i64 k ∧ wr.ownsRow (w.heap.size + 1) 106 1 v k (setsV (ls.take k)) ∧ Below (w.heap.size + 1) (w.alloc (.cells #[.int .i64 m, .slice ae ls.length ce] 24)) wr) (fun _ i _ => ls.length - (intOf i).toNat)
  case atStart => exact ⟨0, Nat.zero_le _, rfl, World.ownsRow_nil _ _ _ _, Below.refl _ _⟩
  case round =>
    obtain ⟨k, hk, rfl, hown, hb⟩ := hrel
    have hb' : Below (w.alloc (.cells #[.int .i64 m, .slice ae ls.length ce] 24)).heap.size (w.alloc (.cells #[.int .i64 m, .slice ae ls.length ce] 24)) wr := by rw [World.size_alloc]; exact hb
    by_cases hlt : k < ls.length
    · obtain ⟨_, _, e1, _, _, _, g4⟩ := (H.out.1.later hb').open
      obtain ⟨be, oe, e2, hbe, gc⟩ := g4 (by omega)
      obtain ⟨rv, ce1, hrv⟩ := gc k hlt
      injection e1 with e1a e1b e1c
      subst e1a e1c
      subst e2
      have hOf := of_any rv _ wr hrv (H.out.2.1 _ (rowN_mem hlt))
      have HOf := Lib.hid hOf
      have hst : setsV (ls.take (k + 1)) = setsV (ls.take k) ++ [.int .u64 ((setL (rowN ls k) : Nat) : Int)] := by
        unfold setsV
        rw [List.take_succ_eq_append_getElem hlt, List.map_append, rowN_at hlt]
        rfl
      have hlen : (setsV (ls.take k)).length = k := by unfold setsV; rw [List.length_map, List.length_take]; omega
      obtain ⟨ar, cr, rfl, -⟩ := hrv.open
      obtain ⟨s, hs⟩ : ∃ s, setL (rowN ls k) = s := ⟨_, rfl⟩
      rw [hs] at HOf hst
      have hk6 : k ≤ 1000000 := by have := H.out.2.2.1; omega
      have HST := Lib.hid (And.intro hst (And.intro hlt hb))
      obtain ⟨av, cv, rfl⟩ := owns_shape2 hown
      have hsz : w.heap.size + 1 ≤ wr.heap.size := by have := hb.size; rw [World.size_alloc] at this; exact this
      clear gc g4 e1b hrv hOf hs hst hb hb' hbe
      go_wp2_with fail
      refine HOf.out.mono ?_
      rintro e w2 ⟨rfl, rfl⟩
      go_wp2_with (at_builtin; refine wpList_append_own _ rfl (.tmp 13) (.tmp 16) 108 rfl (w.heap.size + 1) 106 i0 _ 1 8 Tryd.underlying108 hi hz0 hz1 hz2 rfl (by decide) _ _ _ rfl (hown.alloc _) ⟨w2.heap.size, 0, none⟩ 1 1 [.int .u64 s] rfl rfl (cells_new _ _ _) (by simp [Value.oneCell']) (by unfold maxLen; omega) (by omega) (by simp; omega) ?_; intro v6 w6 hown6 hgrow6 _; obtain ⟨g6, cap6, rfl⟩ := ownsRow_succ hown6)
      have hB6 : Below (w.heap.size + 1) (w.alloc (.cells #[.int .i64 m, .slice (some ⟨be, oe, none⟩) ls.length ce] 24)) w6 := ((HST.out.2.2.alloc (by omega) _).grown hgrow6 (by simp; omega) (fun k e => owns_above hown k e))
      have HR := Lib.hid (And.intro hown6 hB6)
      clear hown hown6 hgrow6 hB6
      go_roundw
      case rel => first | exact ⟨k + 1, HST.out.2.1, by go_num, by rw [HST.out.1]; exact HR.out.1, HR.out.2⟩ | ((repeat apply Exists.intro); refine ⟨?_, rfl⟩; exact ⟨k + 1, HST.out.2.1, by go_num, by rw [HST.out.1]; exact HR.out.1, HR.out.2⟩)
      case measure => simp [intOf]; have := HST.out.2.1; omega
    · obtain rfl : k = ls.length := by omega
      rw [List.take_length] at hown
      obtain ⟨av, cv, rfl⟩ := owns_shape2 hown
      have HR := Lib.hid (And.intro (owns_down hown (Nat.le_succ _)) (HB.out.trans (hb'.mono (by simp))))
      clear hown hb hb'
      go_wp2_with fail
      go_ret
      exact ⟨_, rfl, HR.out.1, HR.out.2⟩
end
/-! ## XHyEach -/
section
open Go.RowKit Go.Shelf Go.BigFrame Go.Maps Go.Lib
set_option linter.unusedVariables false
set_option linter.unusedSimpArgs false
attribute [local go_sem] Oper.semAt_some

/-- What the body keeps: the iterator's box and the table. -/
def KpX (X : Nat) (A C : World) : Prop := A.heap.size ≤ C.heap.size ∧ ∀ b, (b = X ∨ b = 1) → b < A.heap.size → C.heap[b]? = A.heap[b]?
theorem KpX.trans {X : Nat} {A B C : World} (h : KpX X A B) (k : KpX X B C) : KpX X A C := ⟨Nat.le_trans h.1 k.1, fun b hb hl => (k.2 b hb (Nat.lt_of_lt_of_le hl h.1)).trans (h.2 b hb hl)⟩
theorem KpX.tab {X : Nat} {A C : World} (h : KpX X A C) (hT : TabW A) : TabW C := fun j hj => by
  have h1 := hT j hj
  have hl : 1 < A.heap.size := World.block_lt_of_cell? _ _ h1
  have h2 := h.2 _ (.inr rfl) hl
  unfold World.cell? at h1 ⊢
  simp only [h2]
  exact h1
theorem KpX.box {X : Nat} {A C : World} {o : Obj} (h : KpX X A C) (hX : A.heap[X]? = some o) : C.heap[X]? = some o := (h.2 X (.inl rfl) (lt_of_block hX)).trans hX
/-- What the iterator writes: its box. -/
def ChX (X : Nat) (A B : World) : Prop := Wrote (fun b => b = X) A B ∧ ∀ (b : Nat) (o : Obj), A.heap[b]? = some o → o.isCells = false → B.heap[b]? = some o
/-- What the iterator's box holds. -/
def setAt (X : Nat) (w : World) : Nat := match w.cell? ⟨X, 0, none⟩ with | some (.int _ n) => n.toNat | _ => 0

set_option maxRecDepth 100000 in
set_option maxHeartbeats 4000000 in
theorem each_seq (n : Nat) (hn : 1 ≤ n) (s X : Nat) (hs : s < 2 ^ 64) (w : World) (hX : w.heap[X]? = some (.cells #[.int .u64 (s : Int)] 106 (0, 0))) (hT : TabW w) :
    SeqX n Tryd.prog 115 #[.pointer (some ⟨X, 0, none⟩)] encI (KpX X) (ChX X) (fun xs => xs = eachL s) (fun _ => True) 65 (fun _ => True) w := fun l J XX W hW hJa hXa hY h0 => by
  have HJA := Lib.hid hJa
  have HXA := Lib.hid hXa
  have HY := Lib.hid hY
  have HX0 := Lib.hid (kept hW hX)
  have HT0 := Lib.hid (hT.later hW)
  have HS := Lib.hid hs
  clear hJa hXa hY hW hX hT hs
  refine callsIn_of_wp Tryd.func115 rfl trivial ?_ rfl
  simp only [Tryd.ntmps115, List.size_toArray, List.length_cons, List.length_nil, Nat.reduceAdd, Nat.reduceSub, Array.replicate_succ, Array.replicate_zero, List.push_toArray, List.append_toArray, List.nil_append, List.cons_append]
  gi_wp2
  gi_loopw [3] (fun d wr => ∃ (pre : List Int) (t : Nat), pre ++ eachL t = eachL s ∧ t < 2 ^ 64 ∧ wr.heap[X]? = some (.cells #[.int .u64 (t : Int)] 106 (0, 0)) ∧ TabW wr ∧ J pre wr) (fun _ wr => (eachL (setAt X wr)).length)
  case atStart => exact ⟨[], s, rfl, HS.out, HX0.out, HT0.out, h0⟩
  case round =>
    obtain ⟨pre, t, hpre, ht, hX, hT, hJ⟩ := hrel
    have c0 : wr.cell? ⟨X, 0, none⟩ = some (.int .u64 (t : Int)) := by simpa using box_cell (i := 0) hX
    have hm : setAt X wr = t := by unfold setAt; rw [c0]; rfl
    by_cases h0 : t = 0
    · subst h0
      rw [eachL_zero, List.append_nil] at hpre
      have HH := Lib.hid (And.intro hpre hJ)
      clear hpre hX hT hJ hm ht
      gi_wp2
      go_end0
      exact ⟨⟨_, rfl⟩, .inl ⟨_, HH.out.1, HH.out.2, trivial⟩⟩
    · have hc := eachL_cons h0 ht
      obtain ⟨-, -, hk64⟩ := ctz_low h0 ht
      have hTz := tz_any t ht h0 wr hT
      obtain ⟨k, hk⟩ : ∃ k, ctz 64 t = k := ⟨_, rfl⟩
      rw [hk] at hc hk64 hTz
      have hand := andNot_bit ht hk64
      have hne : ((t : Int) == 0) = false := by rw [beq_eq_false_iff_ne]; omega
      have hne2 : ((t : Int) != 0) = true := by rw [bne_iff_ne]; omega
      rw [hc] at hpre
      have hpl : pre.length < 65 := by have h1 := eachL_len s; rw [← hpre, List.length_append] at h1; simp at h1; omega
      obtain ⟨fn, tmps, assign, body, hy, hR⟩ := HY.out pre k wr hJ hpl
      dsimp only [encI] at hy
      have htl : minus t (2 ^ k) < 2 ^ 64 := minus_lt (n := 64) _ ht
      have HH := Lib.hid (And.intro hpre (And.intro hX (And.intro hT (And.intro hm (And.intro hc (And.intro htl hTz))))))
      have HR := Lib.hid hR
      clear hpre hX hT hJ hm hc htl hTz hk hpl hR ht
      gi_wp2_with (refine ⟨trivial, ?_⟩; gi_at_call 116; refine (callsIn_wide.2 HH.out.2.2.2.2.2.2).mono ?_; rintro e w1 ⟨rfl, rfl⟩)
      refine HR.out.mono ?_
      rintro en W3 (⟨rfl, hJ3, hk3⟩ | ⟨rfl, hX3⟩)
      · have hX3 := hk3.box HH.out.2.1
        have c3 : W3.cell? ⟨X, 0, none⟩ = some (.int .u64 (t : Int)) := by simpa using box_cell (i := 0) hX3
        have f3 : W3.frozen? ⟨X, 0, none⟩ = false := box_frozen (i := 0) hX3
        have HZ := Lib.hid (And.intro hX3 (And.intro (hk3.tab HH.out.2.2.1) hJ3))
        have hk0 : ¬ (k : Int) < 0 := by omega
        clear hX3 hk3 hJ3
        gi_wp2
        refine wpIn_wide.2 ?_
        go_region
        gi_wp2
        have hXs : (W3.setCell ⟨X, 0, none⟩ (.int .u64 ((minus t (2 ^ k) : Nat) : Int))).heap[X]? = some (.cells #[.int .u64 ((minus t (2 ^ k) : Nat) : Int)] 106 (0, 0)) := by simpa using box_set (i := 0) HZ.out.1 (.int .u64 ((minus t (2 ^ k) : Nat) : Int))
        have hGX : 1 ≠ X := fun e => by
          have h1 := HZ.out.2.1 0 (by decide)
          rw [e, c3] at h1
          cases h1
        refine ⟨⟨pre ++ [(k : Int)], minus t (2 ^ k), by rw [List.append_assoc]; exact HH.out.1, HH.out.2.2.2.2.2.1, hXs, fun j hj => ?_, HJA.out _ _ _ HZ.out.2.2 ⟨(Wrote.set (S := fun b => b = X) (b := X) (Wrote.of_below (later_refl _)) rfl _).trans (Wrote.of_below (later_drew _)), fun b o hb ho => (heap_setCell_other W3 ⟨X, 0, none⟩ b _ (fun e => by have e1 : b = X := e; subst e1; rw [HZ.out.1] at hb; cases hb; cases ho)).trans hb⟩⟩, ?_⟩
        · have h1 := HZ.out.2.1 j hj
          have h2 := heap_setCell_other W3 ⟨X, 0, none⟩ 1 (.int .u64 ((minus t (2 ^ k) : Nat) : Int)) hGX
          unfold World.cell? at h1 ⊢
          rw [show ((W3.setCell ⟨X, 0, none⟩ (.int .u64 ((minus t (2 ^ k) : Nat) : Int))).drew).heap = (W3.setCell ⟨X, 0, none⟩ (.int .u64 ((minus t (2 ^ k) : Nat) : Int))).heap from rfl]
          simp only [h2]
          exact h1
        · have hsv : setAt X (W3.setCell ⟨X, 0, none⟩ (.int .u64 ((minus t (2 ^ k) : Nat) : Int))).drew = minus t (2 ^ k) := by
            have h1 := box_cell (i := 0) hXs
            unfold setAt
            rw [show ((W3.setCell ⟨X, 0, none⟩ (.int .u64 ((minus t (2 ^ k) : Nat) : Int))).drew).cell? ⟨X, 0, none⟩ = (W3.setCell ⟨X, 0, none⟩ (.int .u64 ((minus t (2 ^ k) : Nat) : Int))).cell? ⟨X, 0, none⟩ from rfl, h1]
            rfl
          rw [hsv, HH.out.2.2.2.1, HH.out.2.2.2.2.1]
          simp
      · gi_wp2
        refine bodyPost_ret (results_none rfl _ _ _) rfl ?_
        exact ⟨⟨_, rfl⟩, .inr ⟨_, trivial, hX3⟩⟩

/-- What Collect's range keeps. -/
def EaI (w : World) (X T base : Nat) (pre : List Int) (V : World) : Prop :=
  ∃ v, V.heap[T]? = some (.cells #[v] 25 (0, 0)) ∧ V.ownsRow base 3 1 v pre.length (pre.map (.int .i64)) ∧ base ≤ V.heap.size ∧ Wrote (fun b => b = X) w V
theorem wrote_grown {S : Nat → Prop} {w A B : World} {row : Option Nat} (h : Wrote S w A) (hg : A.grownBy B row) (hr : ∀ r, row = some r → w.heap.size ≤ r) : Wrote S w B :=
  ⟨hg.os.trans h.os, hg.tape.trans h.tape, hg.output.trans h.output, Nat.le_trans h.size hg.size, fun b hb hS => (hg.block b (Nat.lt_of_lt_of_le hb h.size) (fun e => by have := hr b e.symm; omega)).trans (h.block b hb hS)⟩
theorem eaI_kept {w : World} {X T base D : Nat} (hD : w.heap.size ≤ D) : OwnFrom D (EaI w X T base) := by
  rintro pre A B' row ⟨v, h1, h2, h3, h4⟩ hg hr
  exact ⟨v, box_kept h1 hg hr, ownsRow_kept h2 hg hr, Nat.le_trans h3 hg.size, wrote_grown h4 hg (fun r e => Nat.le_trans hD (hr r e).1)⟩
theorem eaI_wrote {w : World} {X T base : Nat} {pre : List Int} {A B : World} (hX : X < w.heap.size) (hT : w.heap.size ≤ T) (hb : w.heap.size ≤ base) (h : EaI w X T base pre A) (hC : ChX X A B) : EaI w X T base pre B := by
  obtain ⟨hC, -⟩ := hC
  obtain ⟨v, g1, g2, g3, g4⟩ := h
  refine ⟨v, (hC.block _ (lt_of_block g1) (by omega)).trans g1, ?_, Nat.le_trans g3 hC.size, g4.trans hC⟩
  obtain ⟨k1, k2⟩ := g2
  refine ⟨k1, ?_⟩
  rcases k2 with k2 | ⟨g', cap, cur, hv, hgb, hh, rest⟩
  · exact .inl k2
  · exact .inr ⟨g', cap, cur, hv, hgb, (hC.block _ (lt_of_block hh) (by omega)).trans hh, rest⟩

set_option maxRecDepth 100000 in
set_option maxHeartbeats 4000000 in
theorem appendSeq_each (s X : Nat) (hs : s < 2 ^ 64) (w : World) (hX : w.heap[X]? = some (.cells #[.int .u64 (s : Int)] 106 (0, 0))) (hT : TabW w) :
    Calls Tryd.prog 114 #[.slice none 0 0, .func (.func 115) #[] #[.pointer (some ⟨X, 0, none⟩)]] w fun e w' => ∃ v', e = .returned v' ∧ w'.ownsRow w.heap.size 3 1 v' (eachL s).length ((eachL s).map (.int .i64)) ∧ Wrote (fun b => b = X) w w' := by
  obtain ⟨j0, hj, jz0, jz1, jz2⟩ := info_parts info_int
  have hb0 := later_alloc w (.cells #[.slice none 0 0] 25)
  have hXw := lt_of_block hX
  have hGw : 1 < w.heap.size := World.block_lt_of_cell? _ _ (hT 0 (by decide))
  have hseq := each_seq 5 (by omega) s X hs (w.alloc (.cells #[.slice none 0 0] 25)) (kept hb0 hX) (hT.later hb0)
  have hT0 := box_new w #[.slice none 0 0] 25
  refine (callsIn_wide (n := 6)).1 ?_
  refine callsIn_of_wp_marks Tryd.func114 rfl trivial ?_ rfl
  simp only [Tryd.ntmps114, List.size_toArray, List.length_cons, List.length_nil, Nat.reduceAdd, Nat.reduceSub, Array.replicate_succ, Array.replicate_zero, List.push_toArray, List.append_toArray, List.nil_append, List.cons_append]
  refine wpIn_wide.2 ?_
  go_wp2_with fail
  refine (wpIn_wide (n := 6)).1 ?_
  refine wpIn_range_stops (by omega) (gf := 115) (lb := #[.pointer (some ⟨X, 0, none⟩)]) rfl (enters_of Tryd.func115 (by kernel_rfl) rfl)
    hseq (fun A B h b => ⟨fun st e => h.2 b _ e rfl, fun d e => h.2 b _ e rfl⟩) (fun h k => KpX.trans h k) (fun V l o o' hl ho hc hw' => ⟨by simp, fun b hb _ => World.putObj_heap_other (by simp at hl; rcases hb with hb | hb <;> omega)⟩)
    (Below.refl _ _) (fun _ => rfl) (EaI w X w.heap.size (w.heap.size + 1)) (fun _ _ _ => False) (eaI_kept (by simp)) (fun c => fun _ _ _ _ h => h.elim) (fun _ _ _ _ _ _ _ => trivial)
    (fun s A B hI hW => eaI_wrote hXw (Nat.le_refl _) (by omega) hI hW)
    ⟨_, hT0, World.ownsRow_nil _ _ _ _, by simp, Wrote.of_below hb0⟩
    (fun x a' V => a' = { tmps := #[.slice none 0 0, .func (.func 115) #[] #[.pointer (some ⟨X, 0, none⟩)], .pointer (some ⟨w.heap.size, 0, none⟩), undef, .slice none 0 0, .int .i64 x, .func (.func 115) #[] #[.pointer (some ⟨X, 0, none⟩)], .int .i64 x, undef, undef, undef, undef, undef], defers := [] })
    (fun x a' => fun _ A B' row h hg hr => h) ?assign ?body ?done (fun D c pre V hD hS hx hd => hx.elim)
  case assign =>
    intro l pre x V KQ hI hK
    simp only [encI]
    gi_wp2
    exact hK _ _ (keeps_later (later_refl V) _) ⟨Nat.le_refl _, fun b _ _ => rfl⟩ hI rfl
  case body =>
    rintro l pre x a' V hl ⟨v, h1, h2, h3, h4⟩ rfl hpl
    have hs4 := h4.size
    obtain ⟨av, cv, rfl⟩ := owns_shape2 h2
    have t0 := box_cell (i := 0) h1
    have f0 := box_frozen (i := 0) h1
    simp at t0
    have hTV := lt_of_block h1
    gi_wp2_with (first
      | (gi_at_builtin; refine wpListIn_append_own _ rfl (.tmp 8) (.tmp 10) 25 rfl (w.heap.size + 1) 3 j0 _ 1 8 Tryd.underlying25 hj jz0 jz1 jz2 rfl (by decide) _ _ _ rfl (h2.alloc _) ⟨V.heap.size, 0, none⟩ 1 1 [.int .i64 x] rfl rfl (cells_new _ _ _) (by simp [Value.oneCell']) (by unfold maxLen; omega) (by omega) (by simp; omega) ?_; intro v6 w6 hown6 hgrow6 _; obtain ⟨g6, cap6, rfl⟩ := ownsRow_succ hown6; have hT6 := box_grown (h2.alloc _) hgrow6 (box_alloc h1 _) (by decide); have t6 := box_cell (i := 0) hT6; have f6 := box_frozen (i := 0) hT6; simp at t6))
    have hk := later_alloc V (.cells #[.int .i64 x] 3)
    have hbel : Below w.heap.size V (w6.setCell ⟨w.heap.size, 0, none⟩ (.slice (some ⟨g6, 0, none⟩) (pre.length + 1) cap6)) :=
      below_set ((hk.mono h4.size).grown hgrow6 (by have := h4.size; simp; omega) (fun k e => Nat.le_trans (Nat.le_succ _) (owns_above h2 k e))) (Nat.le_refl _)
    refine ⟨?_, ⟨hbel.size, fun b hb _ => hbel.block b (by rcases hb with hb | hb <;> omega)⟩, ⟨_, box_set hT6 _, ?_, ?_, ?_⟩⟩
    · have k1 : KeepsOthers V _ := ((KeepsOthers.alloc V _).trans (KeepsOthers.of_grownBy hgrow6 (own_isCells (h2.alloc _)))).trans (KeepsOthers.setCell _ ⟨w.heap.size, 0, none⟩ (.slice (some ⟨g6, 0, none⟩) (pre.length + 1) cap6))
      exact k1.from _
    · have h9 := own_set (i := 0) hown6 hT6 (by decide) (.slice (some ⟨g6, 0, none⟩) (pre.length + 1) cap6)
      simpa using h9
    · exact Nat.le_trans h3 hbel.size
    · exact ⟨hbel.os.trans h4.os, hbel.tape.trans h4.tape, hbel.output.trans h4.output, Nat.le_trans h4.size hbel.size, fun b hb hS => (hbel.block b hb).trans (h4.block b hb hS)⟩
  case done =>
    rintro D ys V hD rfl hI - hdef
    obtain ⟨v9, g1, g2, g3', g4⟩ := id hI
    obtain ⟨av, cv, rfl⟩ := owns_shape2 g2
    have t0 := box_cell (i := 0) g1
    simp at t0
    refine ‹∀ (a : Act) (w_1 : World), _ → _› _ _ ?_
    go_wp2
    refine ⟨by simp, .inl ⟨_, _, rfl, run_takeDeferred hdef, ?_⟩⟩
    refine ⟨_, results_tmp rfl _ _ _, _, rfl, ?_, wrote_grown g4 (grownBy_putObj' V D _) (fun r e => by cases e; simp at hD; omega)⟩
    exact owns_down (ownsRow_kept (B := w.heap.size + 1) g2 (grownBy_putObj' V D _) (fun r e => by cases e; exact ⟨by simpa using hD, _, hdef, rfl⟩)) (Nat.le_succ _)
end
/-! ## XHyParts -/
section
open Go.RowKit Go.Shelf Go.Lib
set_option linter.unusedVariables false
set_option linter.unusedSimpArgs false

theorem hypB_yes {m : Int} {ls : List (List Int)} (h : hypB m ls = true) : 0 ≤ m ∧ m ≤ 32 ∧ ls.length ≤ 40 ∧ ∀ e ∈ ls, ∀ x ∈ e, 0 ≤ x ∧ x < m := by
  unfold hypB sizesB at h
  simp only [Bool.and_eq_true, decide_eq_true_eq] at h
  obtain ⟨⟨⟨h1, h2⟩, h3⟩, h4⟩ := h
  refine ⟨h1, h2, by omega, fun e he x hx => ?_⟩
  obtain ⟨j, hj, rfl⟩ := List.getElem_of_mem he
  unfold allR at h4
  have h5 := List.all_eq_true.1 h4 j (List.mem_range.2 hj)
  rw [rowN_at hj] at h5
  unfold edgeB vertsB allI at h5
  rw [Bool.and_eq_true] at h5
  obtain ⟨i, hi, rfl⟩ := List.getElem_of_mem hx
  have h6 := List.all_eq_true.1 h5.1 i (List.mem_range.2 hi)
  rw [getD_at hi] at h6
  simp only [Bool.and_eq_true, decide_eq_true_eq] at h6
  exact h6
theorem hypB_ok {m : Int} {ls : List (List Int)} (h : hypB m ls = true) : VertsOk ls := fun e he x hx => by
  obtain ⟨h1, h2, h3, h4⟩ := hypB_yes h
  have := h4 e he x hx
  exact ⟨this.1, by show x < 64; omega⟩
/-- What stands while parts are told. -/
structure PaW (w : World) (m : Int) (ev v : Value) (ps : List (Value × List Int)) (W : World) : Prop where
  bel : Below w.heap.size w W
  box : HB W w.heap.size m ev
  own : OwnR (w.heap.size + 1) W v ps
theorem PaW.later {w W W' : World} {m : Int} {ev v : Value} {ps : List (Value × List Int)} (h : PaW w m ev v ps W) (hb : Below W.heap.size W W') : PaW w m ev v ps W' :=
  ⟨later_trans h.bel hb, kept hb h.box, h.own.later hb⟩
theorem eachF_any (s : Nat) (w : World) : Calls Tryd.prog 90 #[.int .u64 (s : Int)] w fun e w' => e = .returned (.func (.func 115) #[] #[.pointer (some ⟨w.heap.size, 0, none⟩)]) ∧ w' = w.alloc (.cells #[.int .u64 (s : Int)] 106) := by
  have hmf : ∀ (fn : Fn) (first cap : Array Value) (w : World), (Instr.makeFunc fn first cap).run Tryd.prog w = .ok (.func fn first cap) w := fun _ _ _ _ => rfl
  go_enter Tryd.func90, Tryd.ntmps90
  go_wp2
  go_ret
  exact ⟨rfl, rfl⟩
theorem collect_each (s X : Nat) (hs : s < 2 ^ 64) (w : World) (hX : w.heap[X]? = some (.cells #[.int .u64 (s : Int)] 106 (0, 0))) (hT : TabW w) :
    Calls Tryd.prog 89 #[.func (.func 115) #[] #[.pointer (some ⟨X, 0, none⟩)]] w fun e w' => ∃ v', e = .returned v' ∧ w'.ownsRow w.heap.size 3 1 v' (eachL s).length ((eachL s).map (.int .i64)) ∧ Wrote (fun b => b = X) w w' := by
  have hA := appendSeq_each s X hs w hX hT
  clear hs hX hT
  go_enter Tryd.func89, Tryd.ntmps89
  go_wp2_with fail
  refine hA.mono ?_
  rintro e w' ⟨v', rfl, h1, h2⟩
  obtain ⟨a, c, rfl⟩ := owns_shape2 h1
  have H := Lib.hid (And.intro h1 h2)
  clear h1 h2 hA
  go_wp2_with fail
  go_ret
  exact ⟨_, rfl, H.out.1, H.out.2⟩

theorem one_slI (w : World) {x : Int} (hx : (Lit.int .i64 x).wf = true) : SlI .i64 (w.alloc (.cells #[.int .i64 x] 3)) (.slice (some ⟨w.heap.size, 0, none⟩) 1 1) [x] := by
  refine ⟨⟨some ⟨w.heap.size, 0, none⟩, 1, rfl, by simp, (by unfold maxLen; omega), (fun h => by cases h), fun _ => ⟨_, _, rfl, (by simp), fun i u hu => ?_⟩⟩, fun y hy => by obtain rfl := List.mem_singleton.1 hy; exact hx⟩
  match i, hu with
  | 0, hu =>
    have e : Value.int .i64 x = u := by simpa using hu
    rw [← e]
    simp
  | i + 1, hu => simp at hu
theorem one_any (k : Nat) (hk : k < 64) (w : World) : Calls Tryd.prog 87 #[.slice (some ⟨w.heap.size, 0, none⟩) 1 1] (w.alloc (.cells #[.int .i64 (k : Int)] 3)) fun e w' => e = .returned (.int .u64 ((2 ^ k : Nat) : Int)) ∧ w' = w.alloc (.cells #[.int .i64 (k : Int)] 3) := by
  have h := of_any _ [(k : Int)] _ (one_slI w (x := k) (WalkArith.wf_i64 (by omega))) (fun x hx => by obtain rfl := List.mem_singleton.1 hx; exact ⟨by omega, by show (k : Int) < 64; omega⟩)
  have e : setL [(k : Int)] = 2 ^ k := by unfold setL; simp
  rw [e] at h
  exact h
theorem int_zero (d : Nat) : (d = 0 → (((d : Int) == 0) = true ∧ ((d : Int) != 0) = false)) ∧ (d ≠ 0 → (((d : Int) == 0) = false ∧ ((d : Int) != 0) = true)) :=
  ⟨fun h => by subst h; exact ⟨rfl, rfl⟩, fun h => ⟨by rw [beq_eq_false_iff_ne]; omega, by rw [bne_iff_ne]; omega⟩⟩

set_option maxRecDepth 100000 in
set_option maxHeartbeats 8000000 in
theorem Parts_any (m : Int) (ev : Value) (ls : List (List Int)) (w : World) (h : SlRK .i64 w ev ls) (hT : TabW w) (hok : hypB m ls = true) :
    Calls Tryd.prog 40 #[hypV m ev] w fun e w' => ∃ v', e = .returned v' ∧ SlRK .i64 w' v' (partsTo ls m.toNat) ∧ Below w.heap.size w w' := by
  obtain ⟨i0, hi, hz0, hz1, hz2⟩ := info_parts info_rowI
  have hb0 := later_alloc w (.cells #[.int .i64 m, ev] 24)
  have hC := hyperCheck_any m ev ls _ (h.later hb0)
  rw [if_pos hok] at hC
  obtain ⟨hm0, hm32, hl40, -⟩ := hypB_yes hok
  have hv := hypB_ok hok
  obtain ⟨n, rfl⟩ : ∃ n : Nat, m = n := ⟨m.toNat, by omega⟩
  have hn32 : n ≤ 32 := by omega
  obtain ⟨m, hm⟩ : ∃ m : Int, (n : Int) = m := ⟨_, rfl⟩
  rw [hm] at hC hb0 ⊢
  have H := Lib.hid (And.intro h (And.intro hT (And.intro hv (And.intro hl40 hm))))
  have HC := Lib.hid hC
  have HX := Lib.hid (box_new w #[.int .i64 m, ev] 24)
  have HB0 := Lib.hid hb0
  obtain ⟨ae, ce, rfl, -⟩ := h.open
  rw [← hm, show ((n : Int)).toNat = n from rfl]
  clear h hT hok hb0 hC hm0 hm32 hl40 hv
  rw [hm]
  clear hm
  go_enter Tryd.func40, Tryd.ntmps40
  go_wp2_with fail
  refine HC.out.mono ?_
  rintro e w1 ⟨rfl, hb1⟩
  have hX1 := kept hb1 HX.out
  have H1 := Lib.hid (And.intro hX1 (later_trans HB0.out hb1))
  have c0 : w1.cell? ⟨w.heap.size, 0, none⟩ = some (.int .i64 (n : Int)) := by rw [H.out.2.2.2.2]; simpa using box_cell (i := 0) hX1
  clear hb1 hX1
  go_wp2_with fail
  go_loopw [3, 4, 14] (fun v M i wr => ∃ (k : Nat) (s : Nat) (ps : List (Value × List Int)), k ≤ n ∧ i = .int .i64 k ∧ M = .int .u64 (s : Int) ∧ MetI ls k s ∧ ps.map Prod.snd = partsTo ls k ∧ PaW w m (.slice ae ls.length ce) v ps wr) (fun _ _ i _ => n - (intOf i).toNat)
  case atStart => exact ⟨0, 0, [], Nat.zero_le _, rfl, rfl, MetI.start _, rfl, ⟨H1.out.2, H1.out.1, ⟨World.ownsRow_nil _ _ _ _, fun p hp => by cases hp⟩⟩⟩
  case round =>
    obtain ⟨k, M, ps, hk, rfl, rfl, hM, hps, hW⟩ := hrel
    obtain ⟨av, cv, rfl⟩ := owns_shape2 hW.own.own
    by_cases hlt : k < n
    · have hk64 : k < 64 := by omega
      have hpsl : ps.length ≤ k := by have := congrArg List.length hps; rw [List.length_map] at this; rw [this]; exact partsTo_len _ _
      have HK := Lib.hid (And.intro hM (And.intro hps (And.intro hW (And.intro hlt hpsl))))
      have hnI : (k : Int) < n := by omega
      clear hM hps hW
      go_wp2_with fail
      rename_i hK1
      refine wp_scope_again 0 (fun μ a' W => ∃ (P : Nat), μ = 2 ^ 64 - P ∧ M.testBit k = false ∧ PartI ls k P ∧ PaW w m (.slice ae ls.length ce) (.slice av ps.length cv) ps W ∧ ∃ (u8 u15 u16 u17 u18 u19 u20 u21 u22 u23 u24 u25 u26 u27 u28 u29 u30 u31 u32 u33 u34 u35 u36 u37 u38 u39 u40 u41 u42 u43 u44 u45 u46 u47 u48 u49 u50 u51 u52 u53 u54 u55 u56 : Value), a' = { tmps := #[hypV m (.slice ae ls.length ce), .pointer (some ⟨w.heap.size, 0, none⟩), .slice none 0 0, .slice av ps.length cv, .int .u64 (M : Int), .int .i64 (k : Int), .int .u64 (P : Int), undef, u8, .agg #[.int .i64 m, .slice ae ls.length ce], .int .i64 0, .bool false, .pointer (some ⟨w.heap.size, 0, none⟩), .int .i64 (n : Int), .int .i64 (k : Int), u15, u16, u17, u18, u19, u20, u21, u22, u23, u24, u25, u26, u27, u28, u29, u30, u31, u32, u33, u34, u35, u36, u37, u38, u39, u40, u41, u42, u43, u44, u45, u46, u47, u48, u49, u50, u51, u52, u53, u54, u55, u56, undef], defers := [] }) rfl ?pass (fun again => ?first)
      case first =>
        have hOne := fun W => one_any k hk64 W
        have hq64 : 2 ^ k < 2 ^ 64 := Nat.pow_lt_pow_right (by decide) hk64
        have hPS := PartI.start ls hk64
        have hbit := and_bit (s := M) (n := k)
        obtain ⟨q, hq⟩ : ∃ q, 2 ^ k = q := ⟨_, rfl⟩
        rw [hq] at hq64 hPS hbit
        simp only [hq] at hOne
        have hand := bits_and_u64_nat M q HK.out.1.lt hq64
        obtain ⟨d, hd⟩ : ∃ d, M &&& q = d := ⟨_, rfl⟩
        rw [hd] at hand hbit
        have HO := Lib.hid (And.intro hOne (And.intro hPS hbit))
        clear hOne hq64 hPS hbit hq hd
        by_cases hd0 : d = 0
        · obtain ⟨z1, z2⟩ := (int_zero d).1 hd0
          have HD := Lib.hid hd0
          clear hd0
          go_wp2_with fail
          refine (HO.out.1 wr).mono ?_
          rintro e w2 ⟨rfl, rfl⟩
          have h2 := HO.out.1 (wr.alloc (.cells #[.int .i64 (k : Int)] 3))
          rw [World.size_alloc] at h2
          have HO2 := Lib.hid h2
          clear h2
          go_wp2_with fail
          refine HO2.out.mono ?_
          rintro e w3 ⟨rfl, rfl⟩
          go_wp2_with fail
          apply wp_label
          rename_i hK
          refine hK _ _ (again _ _ _ ⟨q, rfl, Bool.eq_false_iff.2 (fun h => HO.out.2.2.2 h HD.out), HO.out.2.1, HK.out.2.2.1.later (later_trans (later_alloc _ _) (later_alloc _ _)), _, _, _, _, _, _, _, _, _, _, _, _, _, _, _, _, _, _, _, _, _, _, _, _, _, _, _, _, _, _, _, _, _, _, _, _, _, _, _, _, _, _, _, rfl⟩)
        · obtain ⟨z1, z2⟩ := (int_zero d).2 hd0
          have HD := Lib.hid (HK.out.1.skip (HO.out.2.2.1 hd0))
          clear hd0
          go_wp2_with fail
          refine (HO.out.1 wr).mono ?_
          rintro e w2 ⟨rfl, rfl⟩
          go_wp2_with fail
          simp only [Exit.jump]
          refine hK1 _ _ ?_
          go_wp2_with fail
          go_roundw
          case rel => exact ⟨k + 1, M, ps, hlt, by go_num, rfl, HD.out.1, by rw [HD.out.2]; exact HK.out.2.1, HK.out.2.2.1.later (later_alloc _ _)⟩
          case measure => simp [intOf]; omega
      case pass =>
        rintro μ a' W ⟨P, rfl, hMk, hP, hW, u8, u15, u16, u17, u18, u19, u20, u21, u22, u23, u24, u25, u26, u27, u28, u29, u30, u31, u32, u33, u34, u35, u36, u37, u38, u39, u40, u41, u42, u43, u44, u45, u46, u47, u48, u49, u50, u51, u52, u53, u54, u55, u56, rfl⟩
        have hb0 := box_cell (i := 0) hW.box
        have hb1 := box_cell (i := 1) hW.box
        simp at hb0 hb1
        have HP := Lib.hid (And.intro hP hW)
        have HBit := Lib.hid hMk
        have HSets := Lib.hid (sets_any m (.slice ae ls.length ce) ls W (H.out.1.later hW.bel) H.out.2.2.1 (by have := H.out.2.2.2.1; omega))
        clear hP hW hMk
        go_wp2_with fail
        refine HSets.out.mono ?_
        rintro e w2 ⟨sv, rfl, hsv, hb2⟩
        obtain ⟨asv, csv, rfl⟩ := owns_shape2 hsv
        have H2 := Lib.hid (And.intro hsv (HP.out.2.later hb2))
        have hb2' := Lib.hid hb2
        clear hsv hb2 hb0 hb1
        go_wp2_with fail
        go_loop [6, 29] (fun p i => ∃ j : Nat, j ≤ ls.length ∧ p = .int .u64 (P : Int) ∧ i = .int .i64 j ∧ ∀ r, r < j → setL (rowN ls r) &&& P = 0 ∨ minus (setL (rowN ls r)) P = 0) (fun _ i => ls.length - (intOf i).toNat)
        case atStart => exact ⟨0, Nat.zero_le _, rfl, rfl, fun r hr => by omega⟩
        case round =>
          obtain ⟨j, hj, rfl, rfl, hcl⟩ := hrel
          have hl40 := H.out.2.2.2.1
          by_cases hjl : j < ls.length
          · obtain ⟨g, cap, hgc⟩ : ∃ g cap, Value.slice asv ls.length csv = .slice (some ⟨g, 0, none⟩) ls.length cap := by
              obtain ⟨l', hl'⟩ : ∃ l', ls.length = l' + 1 := ⟨ls.length - 1, by omega⟩
              have h1 := H2.out.1
              rw [hl'] at h1 ⊢
              exact ownsRow_succ h1
            injection hgc with hga hgb hgc
            subst hga hgc
            obtain ⟨cs, fs⟩ := owns_cell H2.out.1 (j := j) (u := .int .u64 ((setL (rowN ls j) : Nat) : Int)) (by unfold setsV; rw [List.getElem?_map, List.getElem?_eq_getElem hjl, rowN_at hjl]; rfl)
            have hmem := rowN_mem hjl
            have hSlt : setL (rowN ls j) < 2 ^ 64 := setL_lt (H.out.2.2.1 _ hmem)
            have hgrow := fun h1 => HP.out.1.grow H.out.2.2.1 hmem h1
            have hmeas := fun h1 h2 => HP.out.1.measure H.out.2.2.1 hmem h1 h2
            have hcl1 : (setL (rowN ls j) &&& P = 0 ∨ minus (setL (rowN ls j)) P = 0) → ∀ r, r < j + 1 → setL (rowN ls r) &&& P = 0 ∨ minus (setL (rowN ls r)) P = 0 := fun h1 r hr => by
              by_cases e : r = j
              · subst e; exact h1
              · exact hcl r (by omega)
            obtain ⟨S, hS⟩ : ∃ S, setL (rowN ls j) = S := ⟨_, rfl⟩
            rw [hS] at cs hSlt hcl1
            simp only [hS] at hgrow hmeas
            have hand := bits_and_u64_nat S P hSlt HP.out.1.lt
            have hnot := bits_andNot_u64_nat S P hSlt HP.out.1.lt
            have hor := bits_or_u64_nat P S HP.out.1.lt hSlt
            obtain ⟨d1, hd1⟩ : ∃ d1, S &&& P = d1 := ⟨_, rfl⟩
            obtain ⟨d2, hd2⟩ : ∃ d2, minus S P = d2 := ⟨_, rfl⟩
            obtain ⟨d3, hd3⟩ : ∃ d3, P ||| S = d3 := ⟨_, rfl⟩
            rw [hd1] at hand hcl1
            rw [hd2] at hnot hcl1
            rw [hd3] at hor
            simp only [hd1, hd2, hd3] at hgrow hmeas
            have HJ := Lib.hid (And.intro hcl1 (And.intro hgrow hmeas))
            have hjI : (j : Int) < ls.length := by omega
            clear hcl hcl1 hgrow hmeas hS hd1 hd2 hd3 hmem hSlt hgb
            by_cases e1 : d1 = 0
            · obtain ⟨z1, z2⟩ := (int_zero d1).1 e1
              have HE := Lib.hid e1
              clear e1
              go_wp2_with fail
              go_round
              case rel => first | exact ⟨j + 1, by omega, rfl, by go_num, HJ.out.1 (.inl HE.out)⟩ | ((repeat apply Exists.intro); refine ⟨?_, rfl⟩; exact ⟨j + 1, by omega, rfl, by go_num, HJ.out.1 (.inl HE.out)⟩)
              case measure => simp [intOf]; omega
            · obtain ⟨z1, z2⟩ := (int_zero d1).2 e1
              by_cases e2 : d2 = 0
              · obtain ⟨z3, z4⟩ := (int_zero d2).1 e2
                have HE := Lib.hid e2
                clear e1 e2
                go_wp2_with fail
                go_round
                case rel => first | exact ⟨j + 1, by omega, rfl, by go_num, HJ.out.1 (.inr HE.out)⟩ | ((repeat apply Exists.intro); refine ⟨?_, rfl⟩; exact ⟨j + 1, by omega, rfl, by go_num, HJ.out.1 (.inr HE.out)⟩)
                case measure => simp [intOf]; omega
              · obtain ⟨z3, z4⟩ := (int_zero d2).2 e2
                have HE := Lib.hid (And.intro e1 e2)
                clear e1 e2
                go_wp2_with fail
                apply wp_goto
                show _ ∧ _
                refine ⟨rfl, 2 ^ 64 - d3, HJ.out.2.2 HE.out.1 HE.out.2, d3, rfl, HBit.out, HJ.out.2.1 HE.out.1, H2.out.2, _, _, _, _, _, _, _, _, _, _, _, _, _, _, _, _, _, _, _, _, _, _, _, _, _, _, _, _, _, _, _, _, _, _, _, _, _, _, _, _, _, _, _, rfl⟩
          · obtain rfl : j = ls.length := by omega
            have hor := bits_or_u64_nat M P HK.out.1.lt HP.out.1.lt
            obtain ⟨d3, hd3⟩ : ∃ d3, M ||| P = d3 := ⟨_, rfl⟩
            rw [hd3] at hor
            have hdone := HP.out.1.done H.out.2.2.1 (by omega) (fun e he => by
              obtain ⟨r, hr, rfl⟩ := List.getElem_of_mem he
              have := hcl r hr
              rw [rowN_at hr] at this
              exact this)
            have HD := Lib.hid (And.intro hd3 (And.intro hdone H2.out.2))
            have hpsl := HK.out.2.2.2.2
            clear hcl hd3 hdone
            go_wp2_with fail
            refine (eachF_any P _).mono ?_
            rintro e w3 ⟨rfl, rfl⟩
            have hCl := collect_each P w2.heap.size HP.out.1.lt _ (box_new w2 #[.int .u64 (P : Int)] 106) ((H.out.2.1.later HD.out.2.2.bel).later (later_alloc _ _))
            rw [partL_is HD.out.2.1] at hCl
            have HCl := Lib.hid hCl
            clear hCl
            go_wp2_with fail
            refine HCl.out.mono ?_
            rintro e w4 ⟨v4, rfl, hv4, hw4⟩
            have hb4 : Below w2.heap.size w2 w4 := (later_alloc w2 _).trans (hw4.below (fun b hb => by omega) (by simp))
            have hW4 := HD.out.2.2.later hb4
            have hsz := hW4.bel.size
            have hsz2 : w.heap.size < w4.heap.size := lt_of_block hW4.box
            obtain ⟨a4, c4, rfl⟩ := owns_shape2 hv4
            have hv4' : w4.ownsRow (w.heap.size + 1) 3 1 (.slice a4 (partL ls k).length c4) (partL ls k).length ((partL ls k).map (.int .i64)) := owns_down hv4 (by have h1 := lt_of_block HD.out.2.2.box; simp; omega)
            have hown := hW4.own.own
            have H4 := Lib.hid (And.intro hW4 hv4')
            clear hv4 hw4 hb4 hW4 hv4'
            go_wp2_with (at_builtin; refine wpList_append_own _ rfl (.tmp 50) (.tmp 54) 22 rfl (w.heap.size + 1) 25 i0 _ 1 24 Tryd.underlying22 hi hz0 hz1 hz2 rfl (by decide) _ _ _ rfl (hown.alloc _) ⟨w4.heap.size, 0, none⟩ 1 1 [.slice a4 (partL ls k).length c4] rfl rfl (cells_new _ _ _) (by simp [Value.oneCell']) (by unfold maxLen; omega) (by omega) (by simp; omega) ?_; intro v6 w6 hown6 hgrow6 _; obtain ⟨g6, cap6, rfl⟩ := ownsRow_succ hown6)
            have hNx := OwnR.next H4.out.1.own (later_refl w4) H4.out.2 rfl (fun x hx => WalkArith.wf_i64 (by have := partL_bound ls k x hx; omega)) hown6 hgrow6
            have hMt := HK.out.1.take HBit.out HP.out.1.lt HD.out.2.1
            rw [HD.out.1] at hMt
            have hW6 : PaW w m (.slice ae ls.length ce) (.slice (some ⟨g6, 0, none⟩) (ps.length + 1) cap6) (ps ++ [(.slice a4 (partL ls k).length c4, partL ls k)]) w6 :=
              ⟨(later_trans H4.out.1.bel (later_alloc w4 _)).grown hgrow6 (by simp; omega) (fun k e => Nat.le_trans (Nat.le_succ _) (owns_above hown k e)), box_grown (hown.alloc _) hgrow6 (box_alloc H4.out.1.box _) (by decide), hNx⟩
            have HR := Lib.hid (And.intro hW6 hMt)
            clear hown hown6 hgrow6 hNx hMt hW6
            refine hK1 _ _ ?_
            go_wp2_with fail
            go_roundw
            case rel => first | exact ⟨k + 1, d3, _, HK.out.2.2.2.1, by go_num, rfl, HR.out.2.1, by rw [HR.out.2.2, List.map_append, HK.out.2.1]; rfl, HR.out.1⟩ | ((repeat apply Exists.intro); refine ⟨?_, rfl⟩; exact ⟨k + 1, d3, _, HK.out.2.2.2.1, by go_num, rfl, HR.out.2.1, by rw [HR.out.2.2, List.map_append, HK.out.2.1]; rfl, HR.out.1⟩)
            case measure => simp [intOf]; omega
    · obtain rfl : k = n := by omega
      have HR := Lib.hid (And.intro hps hW)
      clear hM hps hW
      go_wp2_with fail
      go_ret
      exact ⟨_, rfl, by rw [← HR.out.1]; exact HR.out.2.own.slR, HR.out.2.bel⟩
end
end Go.Proofs.YtdmfhlfhlflakaaDoor
