/-
  The document's numbers as rows of digits: the plain law; all functions walked.
-/
import Derived.Test.YtdmfhlfhlflakaaDoorPlRows
import Derived.Test.YtdmfhlfhlflakaaDoorPlBnd
import Derived.Test.YtdmfhlfhlflakaaDoorPlApp
import Derived.Test.YtdmfhlfhlflakaaDoorPlLim0
import Derived.Deep.RegionHeld3
import Derived.Deep.RegionLaw
import Derived.Deep.DeepCutAuto
namespace Go.Proofs.YtdmfhlfhlflakaaDoor
/-! ## XDigP -/
section
set_option linter.unusedVariables false

/-- Rows of digits. -/
def Dg (l : List Int) : Prop := ∀ x ∈ l, 0 ≤ x ∧ x < 65536
def dv : List Int → Nat
  | [] => 0
  | x :: l => x.toNat + 65536 * dv l
theorem dv_app : ∀ (l : List Int) (x : Int), dv (l ++ [x]) = dv l + 65536 ^ l.length * x.toNat
  | [], x => by simp [dv]
  | y :: l, x => by
    show y.toNat + 65536 * dv (l ++ [x]) = _
    rw [dv_app l x]
    show _ = (y.toNat + 65536 * dv l) + 65536 ^ (l.length + 1) * x.toNat
    rw [Nat.pow_succ, Nat.mul_add, Nat.mul_comm (65536 ^ l.length) 65536, Nat.mul_assoc]
    omega
theorem dv_take (l : List Int) (i : Nat) : dv (l.take (i + 1)) = dv (l.take i) + 65536 ^ i * (l.getD i 0).toNat := by
  rcases Nat.lt_or_ge i l.length with h | h
  · rw [List.take_succ_eq_append_getElem h, dv_app, List.length_take, Nat.min_eq_left (by omega), getD_at h]
  · rw [List.take_of_length_le (by omega), List.take_of_length_le (by omega)]
    have : l.getD i 0 = 0 := by simp [List.getD, List.getElem?_eq_none h]
    rw [this]; simp
theorem Dg.getD {l : List Int} (h : Dg l) (i : Nat) : 0 ≤ l.getD i 0 ∧ l.getD i 0 < 65536 := by
  rcases Nat.lt_or_ge i l.length with h1 | h1
  · rw [getD_at h1]; exact h _ (List.getElem_mem h1)
  · have : l.getD i 0 = 0 := by simp [List.getD, List.getElem?_eq_none h1]
    rw [this]; decide
theorem Dg.take {l : List Int} (h : Dg l) (k : Nat) : Dg (l.take k) := fun x hx => h x (List.mem_of_mem_take hx)
theorem Dg.app {l : List Int} {x : Int} (h : Dg l) (h0 : 0 ≤ x) (h1 : x < 65536) : Dg (l ++ [x]) := fun y hy => by
  rcases List.mem_append.1 hy with hy | hy
  · exact h y hy
  · obtain rfl := List.mem_singleton.1 hy; exact ⟨h0, h1⟩
theorem Dg.nil : Dg [] := fun x hx => by cases hx
theorem Dg.wf {l : List Int} (h : Dg l) : ∀ x ∈ l, (Lit.int .u64 x).wf = true := fun x hx => by
  have := h x hx
  exact WalkArith.wf_u64 (by omega)
theorem dv_lt : ∀ {l : List Int}, Dg l → dv l < 65536 ^ l.length
  | [], _ => by simp [dv]
  | x :: l, h => by
    have h1 := dv_lt (l := l) (fun y hy => h y (List.mem_cons_of_mem _ hy))
    have h2 := h x List.mem_cons_self
    show x.toNat + 65536 * dv l < 65536 ^ (l.length + 1)
    rw [Nat.pow_succ]
    omega

/-- A number's digits. -/
def digs (N : Nat) : List Int := if h : N = 0 then [] else ((N % 65536 : Nat) : Int) :: digs (N / 65536)
  decreasing_by omega
theorem digs_zero : digs 0 = [] := by unfold digs; simp
theorem digs_pos {N : Nat} (h : N ≠ 0) : digs N = ((N % 65536 : Nat) : Int) :: digs (N / 65536) := by
  rw [digs, dif_neg h]
theorem digs_dg (N : Nat) : Dg (digs N) := by
  induction N using Nat.strongRecOn with
  | _ N ih =>
    by_cases h : N = 0
    · subst h; rw [digs_zero]; exact Dg.nil
    · rw [digs_pos h]
      intro x hx
      rcases List.mem_cons.1 hx with rfl | hx
      · omega
      · exact ih (N / 65536) (by omega) x hx
theorem dv_digs (N : Nat) : dv (digs N) = N := by
  induction N using Nat.strongRecOn with
  | _ N ih =>
    by_cases h : N = 0
    · subst h; rw [digs_zero]; rfl
    · rw [digs_pos h]
      show (((N % 65536 : Nat) : Int)).toNat + 65536 * dv (digs (N / 65536)) = N
      rw [ih (N / 65536) (by omega)]
      omega
theorem digs_len (k : Nat) : ∀ N : Nat, (digs N).length ≤ k ↔ N < 65536 ^ k := by
  induction k with
  | zero =>
    intro N
    by_cases h : N = 0
    · subst h; rw [digs_zero]; simp
    · rw [digs_pos h]; simp; omega
  | succ k ih =>
    intro N
    by_cases h : N = 0
    · subst h; rw [digs_zero]; simp; exact Nat.pos_of_ne_zero (by simp)
    · rw [digs_pos h]
      have := ih (N / 65536)
      rw [List.length_cons, Nat.pow_succ]
      constructor
      · intro h1
        have h2 := this.1 (by omega)
        have := (Nat.div_lt_iff_lt_mul (show 0 < 65536 by decide)).1 h2
        exact this
      · intro h1
        have := this.2 ((Nat.div_lt_iff_lt_mul (show 0 < 65536 by decide)).2 h1)
        omega
theorem digs_at (i : Nat) : ∀ N : Nat, (digs N).getD i 0 = ((N / 65536 ^ i % 65536 : Nat) : Int) := by
  induction i with
  | zero =>
    intro N
    by_cases h : N = 0
    · subst h; rw [digs_zero]; rfl
    · rw [digs_pos h]; simp [List.getD]
  | succ i ih =>
    intro N
    by_cases h : N = 0
    · subst h; rw [digs_zero]; simp [List.getD]
    · rw [digs_pos h]
      have := ih (N / 65536)
      rw [Nat.div_div_eq_div_mul, Nat.mul_comm, ← Nat.pow_succ] at this
      rw [← this]
      simp [List.getD]
/-- Digits whose last one is no nought are a number's. -/
theorem canon : ∀ {l : List Int}, Dg l → (∀ n, l.length = n + 1 → l.getD n 0 ≠ 0) → l = digs (dv l)
  | [], _, _ => by show [] = digs 0; rw [digs_zero]
  | x :: l, h, hn => by
    have hx := h x List.mem_cons_self
    have ih := canon (l := l) (fun y hy => h y (List.mem_cons_of_mem _ hy)) (fun n hl => by
      have := hn (n + 1) (by simp [hl])
      simpa [List.getD] using this)
    have hd : dv (x :: l) = x.toNat + 65536 * dv l := rfl
    have h0 : dv (x :: l) ≠ 0 := by
      intro h0
      rw [hd] at h0
      have hl : dv l = 0 := by omega
      rw [hl, digs_zero] at ih
      subst ih
      have := hn 0 rfl
      simp [List.getD] at this
      omega
    rw [digs_pos h0, hd]
    have e1 : (x.toNat + 65536 * dv l) % 65536 = x.toNat := by omega
    have e2 : (x.toNat + 65536 * dv l) / 65536 = dv l := by omega
    rw [e1, e2, ← ih]
    congr 1
    omega

/-- How many digits are left without noughts at the end, of the first k. -/
def trimTo (l : List Int) : Nat → Nat
  | 0 => 0
  | k + 1 => if l.getD k 0 = 0 then trimTo l k else k + 1
theorem trimTo_le (l : List Int) : ∀ k, trimTo l k ≤ k
  | 0 => Nat.le_refl _
  | k + 1 => by
    have := trimTo_le l k
    unfold trimTo
    split <;> omega
theorem trimTo_zero {l : List Int} {k : Nat} (h : l.getD k 0 = 0) : trimTo l (k + 1) = trimTo l k := by
  show (if _ then _ else _) = _
  rw [if_pos h]
theorem trimTo_stop {l : List Int} {k : Nat} (h : l.getD k 0 ≠ 0) : trimTo l (k + 1) = k + 1 := by
  show (if _ then _ else _) = _
  rw [if_neg h]
theorem trim_digs {l : List Int} (h : Dg l) : ∀ k, k ≤ l.length → l.take (trimTo l k) = digs (dv (l.take k))
  | 0, _ => by
    show l.take 0 = _
    rw [List.take_zero]; show [] = digs 0; rw [digs_zero]
  | k + 1, hk => by
    by_cases h0 : l.getD k 0 = 0
    · rw [trimTo_zero h0, trim_digs h k (by omega), dv_take, h0]
      simp
    · rw [trimTo_stop h0]
      refine canon (h.take _) fun n hn => ?_
      rw [List.length_take] at hn
      obtain rfl : n = k := by omega
      rw [getD_at (by rw [List.length_take]; omega), List.getElem_take, ← getD_at]
      exact h0

/-! sums -/
def plusC (xs ys : List Int) : Nat → Int
  | 0 => 0
  | i + 1 => (xs.getD i 0 + ys.getD i 0 + plusC xs ys i) / 65536
def plusO (xs ys : List Int) : Nat → List Int
  | 0 => []
  | i + 1 => plusO xs ys i ++ [(xs.getD i 0 + ys.getD i 0 + plusC xs ys i) % 65536]
theorem plusC_bound {xs ys : List Int} (hx : Dg xs) (hy : Dg ys) : ∀ i, 0 ≤ plusC xs ys i ∧ plusC xs ys i ≤ 1
  | 0 => by show (0 : Int) ≤ 0 ∧ (0 : Int) ≤ 1; decide
  | i + 1 => by
    have ih := plusC_bound hx hy i
    have h1 := hx.getD i
    have h2 := hy.getD i
    show 0 ≤ (xs.getD i 0 + ys.getD i 0 + plusC xs ys i) / 65536 ∧ _ / 65536 ≤ 1
    omega
theorem plusO_len (xs ys : List Int) : ∀ i, (plusO xs ys i).length = i
  | 0 => rfl
  | i + 1 => by show (plusO xs ys i ++ [_]).length = _; rw [List.length_append, plusO_len xs ys i]; rfl
theorem plusO_dg {xs ys : List Int} : ∀ i, Dg (plusO xs ys i)
  | 0 => Dg.nil
  | i + 1 => (plusO_dg i).app (Int.emod_nonneg _ (by decide)) (Int.emod_lt_of_pos _ (by decide))
theorem plus_val {xs ys : List Int} (hx : Dg xs) (hy : Dg ys) : ∀ i, dv (plusO xs ys i) + 65536 ^ i * (plusC xs ys i).toNat = dv (xs.take i) + dv (ys.take i)
  | 0 => rfl
  | i + 1 => by
    have ih := plus_val hx hy i
    have hc := plusC_bound hx hy i
    have h1 := hx.getD i
    have h2 := hy.getD i
    rw [dv_take, dv_take]
    show dv (plusO xs ys i ++ [_]) + 65536 ^ (i + 1) * (((xs.getD i 0 + ys.getD i 0 + plusC xs ys i) / 65536)).toNat = _
    rw [dv_app, plusO_len, Nat.pow_succ]
    obtain ⟨x, hx'⟩ : ∃ x : Nat, xs.getD i 0 = x := ⟨(xs.getD i 0).toNat, by omega⟩
    obtain ⟨y, hy'⟩ : ∃ y : Nat, ys.getD i 0 = y := ⟨(ys.getD i 0).toNat, by omega⟩
    obtain ⟨c, hc'⟩ : ∃ c : Nat, plusC xs ys i = c := ⟨(plusC xs ys i).toNat, by omega⟩
    rw [hx', hy', hc']
    rw [hc'] at ih
    have e1 : (((x : Int) + y + c) % 65536).toNat = (x + y + c) % 65536 := by omega
    have e2 : (((x : Int) + y + c) / 65536).toNat = (x + y + c) / 65536 := by omega
    rw [e1, e2]
    simp only [Int.toNat_natCast] at ih ⊢
    have e3 : 65536 ^ i * 65536 * ((x + y + c) / 65536) + 65536 ^ i * ((x + y + c) % 65536) = 65536 ^ i * (x + y + c) := by
      rw [Nat.mul_assoc, ← Nat.mul_add, Nat.div_add_mod]
    have e4 : 65536 ^ i * (x + y + c) = 65536 ^ i * x + 65536 ^ i * y + 65536 ^ i * c := by rw [Nat.mul_add, Nat.mul_add]
    omega
theorem plus_done {xs ys : List Int} (hx : Dg xs) (hy : Dg ys) {i : Nat} (h1 : xs.length ≤ i) (h2 : ys.length ≤ i) (hc : plusC xs ys i = 0) : dv (plusO xs ys i) = dv xs + dv ys := by
  have := plus_val hx hy i
  rw [hc, List.take_of_length_le h1, List.take_of_length_le h2] at this
  simpa using this
theorem plusC_end {xs ys : List Int} (hx : Dg xs) (hy : Dg ys) {i : Nat} (h1 : xs.length ≤ i) (h2 : ys.length ≤ i) : plusC xs ys (i + 1) = 0 := by
  have hc := plusC_bound hx hy i
  have e1 : xs.getD i 0 = 0 := by simp [List.getD, List.getElem?_eq_none h1]
  have e2 : ys.getD i 0 = 0 := by simp [List.getD, List.getElem?_eq_none h2]
  show (xs.getD i 0 + ys.getD i 0 + plusC xs ys i) / 65536 = 0
  rw [e1, e2]
  omega

/-! times a digit -/
def partC (xs : List Int) (d : Int) : Nat → Int
  | 0 => 0
  | i + 1 => (xs.getD i 0 * d + partC xs d i) / 65536
def partO (xs : List Int) (d : Int) : Nat → List Int
  | 0 => []
  | i + 1 => partO xs d i ++ [(xs.getD i 0 * d + partC xs d i) % 65536]
theorem mul_dig {x d c : Int} (h0 : 0 ≤ x) (h1 : x < 65536) (h2 : 0 ≤ d) (h4 : 0 ≤ c) (h5 : c ≤ d) : 0 ≤ x * d ∧ x * d + c ≤ 65536 * d := by
  refine ⟨Int.mul_nonneg h0 h2, ?_⟩
  have := Int.mul_le_mul_of_nonneg_right (show x ≤ 65535 by omega) h2
  omega
theorem partC_bound {xs : List Int} {d : Int} (hx : Dg xs) (h2 : 0 ≤ d) : ∀ i, 0 ≤ partC xs d i ∧ partC xs d i ≤ d
  | 0 => by show (0 : Int) ≤ 0 ∧ (0 : Int) ≤ d; omega
  | i + 1 => by
    have ih := partC_bound hx h2 i
    have h1 := hx.getD i
    have := mul_dig h1.1 h1.2 h2 ih.1 ih.2
    show 0 ≤ (xs.getD i 0 * d + partC xs d i) / 65536 ∧ _ / 65536 ≤ d
    omega
theorem partO_len (xs : List Int) (d : Int) : ∀ i, (partO xs d i).length = i
  | 0 => rfl
  | i + 1 => by show (partO xs d i ++ [_]).length = _; rw [List.length_append, partO_len xs d i]; rfl
theorem partO_dg {xs : List Int} {d : Int} : ∀ i, Dg (partO xs d i)
  | 0 => Dg.nil
  | i + 1 => (partO_dg i).app (Int.emod_nonneg _ (by decide)) (Int.emod_lt_of_pos _ (by decide))
theorem part_val {xs : List Int} {d : Int} (hx : Dg xs) (h2 : 0 ≤ d) : ∀ i, dv (partO xs d i) + 65536 ^ i * (partC xs d i).toNat = d.toNat * dv (xs.take i)
  | 0 => by show 0 + 1 * 0 = _; simp [dv]
  | i + 1 => by
    have ih := part_val hx h2 i
    have hc := partC_bound hx h2 i
    have h1 := hx.getD i
    rw [dv_take]
    show dv (partO xs d i ++ [_]) + 65536 ^ (i + 1) * (((xs.getD i 0 * d + partC xs d i) / 65536)).toNat = _
    rw [dv_app, partO_len, Nat.pow_succ]
    obtain ⟨x, hx'⟩ : ∃ x : Nat, xs.getD i 0 = x := ⟨(xs.getD i 0).toNat, by omega⟩
    obtain ⟨y, rfl⟩ : ∃ y : Nat, d = y := ⟨d.toNat, by omega⟩
    obtain ⟨c, hc'⟩ : ∃ c : Nat, partC xs y i = c := ⟨(partC xs y i).toNat, by omega⟩
    rw [hx', hc']
    rw [hc'] at ih
    have e0 : ((x : Int) * y + c) = ((x * y + c : Nat) : Int) := by push_cast; rfl
    rw [e0]
    have e1 : (((x * y + c : Nat) : Int) % 65536).toNat = (x * y + c) % 65536 := by omega
    have e2 : (((x * y + c : Nat) : Int) / 65536).toNat = (x * y + c) / 65536 := by omega
    rw [e1, e2]
    simp only [Int.toNat_natCast] at ih ⊢
    have e3 : 65536 ^ i * 65536 * ((x * y + c) / 65536) + 65536 ^ i * ((x * y + c) % 65536) = 65536 ^ i * (x * y + c) := by
      rw [Nat.mul_assoc, ← Nat.mul_add, Nat.div_add_mod]
    have e4 : 65536 ^ i * (x * y + c) = 65536 ^ i * (x * y) + 65536 ^ i * c := by rw [Nat.mul_add]
    have e5 : y * (dv (xs.take i) + 65536 ^ i * x) = y * dv (xs.take i) + 65536 ^ i * (x * y) := by rw [Nat.mul_add]; congr 1; rw [Nat.mul_left_comm, Nat.mul_comm y x]
    rw [e5]
    omega
theorem part_done {xs : List Int} {d : Int} (hx : Dg xs) (h2 : 0 ≤ d) {i : Nat} (h1 : xs.length ≤ i) (hc : partC xs d i = 0) : dv (partO xs d i) = d.toNat * dv xs := by
  have := part_val hx h2 i
  rw [hc, List.take_of_length_le h1] at this
  simpa using this
theorem partC_far {xs : List Int} {d : Int} {i : Nat} (h1 : xs.length ≤ i) : partC xs d (i + 1) = partC xs d i / 65536 := by
  have e1 : xs.getD i 0 = 0 := by simp [List.getD, List.getElem?_eq_none h1]
  show (xs.getD i 0 * d + partC xs d i) / 65536 = _
  rw [e1, Int.zero_mul, Int.zero_add]
theorem partC_end {xs : List Int} {d : Int} (hx : Dg xs) (h2 : 0 ≤ d) (h3 : d < 4294967296) : partC xs d (xs.length + 2) = 0 := by
  have hc := partC_bound hx h2 xs.length
  rw [partC_far (by omega), partC_far (Nat.le_refl _)]
  omega
/-- Rows whose elements may be greater than a digit. -/
def Lw (l : List Int) : Prop := ∀ x ∈ l, 0 ≤ x ∧ x < 4294967296
theorem Dg.lw {l : List Int} (h : Dg l) : Lw l := fun x hx => by have := h x hx; omega
theorem Lw.getD {l : List Int} (h : Lw l) {i : Nat} (hi : i < l.length) : 0 ≤ l.getD i 0 ∧ l.getD i 0 < 4294967296 := by
  rw [getD_at hi]; exact h _ (List.getElem_mem hi)
theorem dv_lw : ∀ {l : List Int}, Lw l → dv l + 65538 ≤ 65538 * 65536 ^ l.length
  | [], _ => by simp [dv]
  | x :: l, h => by
    have h1 := dv_lw (l := l) (fun y hy => h y (List.mem_cons_of_mem _ hy))
    have h2 := h x List.mem_cons_self
    show x.toNat + 65536 * dv l + 65538 ≤ 65538 * 65536 ^ (l.length + 1)
    rw [Nat.pow_succ]
    omega
theorem times_len {xs ys : List Int} (hx : Dg xs) (hy : Lw ys) : (digs (dv xs * dv ys)).length ≤ xs.length + ys.length + 2 := by
  refine (digs_len _ _).2 ?_
  have h1 := dv_lt hx
  have h2 := dv_lw hy
  rw [show xs.length + ys.length + 2 = xs.length + (ys.length + 2) from by omega, Nat.pow_add, Nat.pow_add 65536 ys.length 2]
  refine Nat.lt_of_lt_of_le (Nat.mul_lt_mul_of_lt_of_le h1 (show dv ys ≤ 65536 ^ ys.length * 65536 ^ 2 by
    rw [Nat.mul_comm]
    have : 65538 * 65536 ^ ys.length ≤ 65536 ^ 2 * 65536 ^ ys.length := Nat.mul_le_mul_right _ (by decide)
    omega) (Nat.mul_pos (Nat.pos_of_ne_zero (by simp)) (by decide))) (Nat.le_refl _)
theorem plus_len {a b k : Nat} (h1 : a < 65536 ^ k) (h2 : b < 65536 ^ k) : (digs (a + b)).length ≤ k + 1 := by
  refine (digs_len _ _).2 ?_
  rw [Nat.pow_succ]
  omega
theorem dv_drop {ys : List Int} {j : Nat} (h : j < ys.length) : dv (ys.drop j) = (ys.getD j 0).toNat + 65536 * dv (ys.drop (j + 1)) := by
  rw [List.drop_eq_getElem_cons h, getD_at h]; rfl
end
/-! ## XDig -/
section
open Go.RowKit Go.Shelf
set_option linter.unusedVariables false
set_option linter.unusedSimpArgs false

theorem info_u64w : (Tryd.prog.info? 33).map (fun i => (i.zero, i.size, i.bytes)) = some (some (.int .u64 0), 1, 8) := by kernel_rfl
/-- A slice's length. -/
def slen : Value → Nat
  | .slice _ n _ => n
  | _ => 0

set_option maxHeartbeats 400000 in
theorem trim_any (v : Value) (xs : List Int) (w : World) (h : SlI .u64 w v xs) :
    Calls Tryd.prog 109 #[v] w fun e w' => ∃ v', e = .returned v' ∧ SlI .u64 w v' (xs.take (trimTo xs xs.length)) ∧ w' = w := by
  have H := Lib.hid h
  obtain ⟨a, c, rfl, h1, h2, h3, h4⟩ := h.open
  have HX := Lib.hid h4
  have hm : xs.length ≤ 9223372036854775807 := by omega
  obtain ⟨n, hn⟩ : ∃ n, xs.length = n := ⟨_, rfl⟩
  have HN := Lib.hid hn
  rw [hn] at h1 hm ⊢
  clear h h3 h4 hn
  go_enter Tryd.func109, Tryd.ntmps109
  go_wp2
  go_loop [0] (fun s => ∃ k : Nat, k ≤ n ∧ s = .slice a k c ∧ trimTo xs k = trimTo xs n) (fun s => slen s)
  case atStart => exact ⟨n, Nat.le_refl _, rfl, rfl⟩
  case round =>
    obtain ⟨k, hk, rfl, ht⟩ := hrel
    have hcut := SlI.cut2 (k := .u64) H.out (m := k) (by rw [HN.out]; exact hk)
    cases k with
    | zero =>
      have HT : Hid (SlI .u64 w (.slice a 0 c) (xs.take (trimTo xs n))) := Lib.hid (by rw [← ht]; exact hcut)
      clear ht hcut
      go_wp2
      go_ret
      exact ⟨_, rfl, HT.out, rfl⟩
    | succ k =>
      have hkx : k < xs.length := by rw [HN.out]; omega
      obtain ⟨b, o, rfl, hb, hc⟩ := HX.out (by omega)
      have c1 := hc k hkx
      rw [← getD_at hkx] at c1
      have hwk : IntKind.i64.wrap (k : Int) = k := wrap_i64 (by omega) (by omega)
      have hkI : (k : Int) < (k : Int) + 1 := by omega
      have hkc : k ≤ c := by omega
      by_cases hz : xs.getD k 0 = 0
      · have HT : Hid (trimTo xs k = trimTo xs n) := Lib.hid (by rw [← ht, trimTo_zero hz])
        rw [hz] at c1
        clear ht hcut hc hz hkx
        go_wp2
        go_round
        case rel => first | exact ⟨k, by omega, rfl, HT.out⟩ | ((repeat apply Exists.intro); refine ⟨?_, rfl⟩; exact ⟨k, by omega, rfl, HT.out⟩)
        case measure => simp [slen]
      · have HT : Hid (SlI .u64 w (.slice (some ⟨b, o, none⟩) (k + 1) c) (xs.take (trimTo xs n))) := Lib.hid (by rw [← ht, trimTo_stop hz]; exact hcut)
        obtain ⟨y, hy⟩ : ∃ y, xs.getD k 0 = y := ⟨_, rfl⟩
        rw [hy] at c1 hz
        have hzb : (y == 0) = false := by rw [beq_eq_false_iff_ne]; exact hz
        clear ht hcut hc hy hkx
        go_wp2
        go_ret
        exact ⟨_, rfl, HT.out, rfl⟩

set_option maxHeartbeats 400000 in
theorem at_any (v : Value) (xs : List Int) (i : Int) (w : World) (h : SlI .u64 w v xs) (h0 : 0 ≤ i) :
    Calls Tryd.prog 110 #[v, .int .i64 i] w fun e w' => e = .returned (.int .u64 (xs.getD i.toNat 0)) ∧ w' = w := by
  obtain ⟨a, c, rfl, h1, h2, h3, h4⟩ := h.open
  obtain ⟨k, rfl⟩ : ∃ k : Nat, i = k := ⟨i.toNat, by omega⟩
  rw [Int.toNat_natCast]
  by_cases hlt : k < xs.length
  · obtain ⟨b, o, rfl, hb, hc⟩ := h4 (by omega)
    have c1 := hc k hlt
    rw [← getD_at hlt] at c1
    obtain ⟨y, hy⟩ : ∃ y, xs.getD k 0 = y := ⟨_, rfl⟩
    rw [hy] at c1 ⊢
    clear h h3 h4 hc hy h0
    go_enter Tryd.func110, Tryd.ntmps110
    go_wp2
    go_ret
    exact ⟨rfl, rfl⟩
  · have hz : xs.getD k 0 = 0 := by simp [List.getD, List.getElem?_eq_none (show xs.length ≤ k by omega)]
    rw [hz]
    clear h h3 h4 hz h0
    go_enter Tryd.func110, Tryd.ntmps110
    go_wp2
    go_ret
    exact ⟨rfl, rfl⟩

/-- A number as one digit. -/
def smallL (n : Int) : List Int := if n = 0 then [] else [n]
theorem smallL_dv {n : Int} (h : 0 ≤ n) : dv (smallL n) = n.toNat := by
  unfold smallL
  split
  · next h => subst h; rfl
  · simp [dv]
theorem smallL_lw {n : Int} (h : 0 ≤ n) (h1 : n < 4294967296) : Lw (smallL n) := by
  unfold smallL
  split
  · intro x hx; cases hx
  · intro x hx
    obtain rfl := List.mem_singleton.1 hx
    exact ⟨h, h1⟩
theorem smallL_len (n : Int) : (smallL n).length ≤ 1 := by unfold smallL; split <;> simp
theorem smallL_trim (n : Int) : [n].take (trimTo [n] 1) = smallL n := by
  unfold smallL
  by_cases h : n = 0
  · subst h; rfl
  · rw [if_neg h, trimTo_stop (by simpa [List.getD] using h)]; rfl
theorem smallL_digs {n : Nat} (h : n < 65536) : smallL n = digs n := by
  unfold smallL
  by_cases h0 : n = 0
  · subst h0; rw [digs_zero]; rfl
  · rw [if_neg (by omega), digs_pos h0, show n / 65536 = 0 from by omega, digs_zero, show n % 65536 = n from by omega]

set_option maxHeartbeats 400000 in
theorem Small_any (n : Int) (w : World) (h0 : 0 ≤ n) (h1 : n ≤ 18446744073709551615) :
    Calls Tryd.prog 73 #[.int .u64 n] w fun e w' => ∃ v', e = .returned v' ∧ SlI .u64 w' v' (smallL n) ∧ Below w.heap.size w w' := by
  have hS : SlI .u64 (w.alloc (.cells #[.int .u64 n] 33)) (.slice (some ⟨w.heap.size, 0, none⟩) 1 1) [n] := by
    refine SlI.of_owns (xs := [n]) (ownsRow_one w (.int .u64 n) 33) (fun x hx => ?_)
    obtain rfl := List.mem_singleton.1 hx
    exact WalkArith.wf_u64 ⟨h0, h1⟩
  have hT := trim_any _ [n] _ hS
  rw [show [n].length = 1 from rfl, smallL_trim] at hT
  have HT := Lib.hid hT
  clear hS hT
  go_enter Tryd.func73, Tryd.ntmps73
  go_wp2_with fail
  refine HT.out.mono ?_
  rintro e w' ⟨v', rfl, hv, rfl⟩
  have HV := Lib.hid hv
  clear hv
  go_wp2_with fail
  go_ret
  exact ⟨_, rfl, HV.out, later_alloc _ _⟩

set_option maxRecDepth 100000 in
set_option maxHeartbeats 4000000 in
theorem Plus_any (u v : Value) (xs ys : List Int) (w : World) (hu : SlI .u64 w u xs) (hv : SlI .u64 w v ys) (hx : Dg xs) (hy : Dg ys) (hlx : xs.length ≤ 1000000) (hly : ys.length ≤ 1000000) :
    Calls Tryd.prog 84 #[u, v] w fun e w' => ∃ v', e = .returned v' ∧ SlI .u64 w' v' (digs (dv xs + dv ys)) ∧ Below w.heap.size w w' := by
  obtain ⟨i0, hi, hz0, hz1, hz2⟩ := info_parts info_u64w
  have H := Lib.hid (And.intro hu (And.intro hv (And.intro hx hy)))
  obtain ⟨a, c, rfl, -⟩ := hu.open
  obtain ⟨a', c', rfl, -⟩ := hv.open
  clear hu hv hx hy
  go_enter Tryd.func84, Tryd.ntmps84
  go_wp2_with fail
  go_loopw [5, 6, 7] (fun s cr i wr => ∃ k : Nat, k ≤ max xs.length ys.length + 1 ∧ i = .int .i64 k ∧ cr = .int .u64 (plusC xs ys k) ∧ wr.ownsRow w.heap.size 33 1 s k ((plusO xs ys k).map (.int .u64)) ∧ Below w.heap.size w wr) (fun _ _ i _ => max xs.length ys.length + 1 - (intOf i).toNat)
  case atStart => exact ⟨0, Nat.zero_le _, rfl, rfl, World.ownsRow_nil _ _ _ _, Below.refl _ _⟩
  case round =>
    obtain ⟨k, hk, rfl, rfl, ho, hb⟩ := hrel
    obtain ⟨av, cv, rfl⟩ := owns_shape2 ho
    obtain ⟨mx, hmx⟩ : ∃ mx, max xs.length ys.length = mx := ⟨_, rfl⟩
    rw [hmx] at hk ⊢
    have hcb := plusC_bound H.out.2.2.1 H.out.2.2.2 k
    have hend : xs.length ≤ k → ys.length ≤ k → k = mx + 1 → plusC xs ys k = 0 := fun g1 g2 g3 => by subst g3; exact plusC_end H.out.2.2.1 H.out.2.2.2 (by omega) (by omega)
    have hdone : Hid (xs.length ≤ k → ys.length ≤ k → plusC xs ys k = 0 → dv (plusO xs ys k) = dv xs + dv ys) := Lib.hid (plus_done H.out.2.2.1 H.out.2.2.2)
    have hst : plusC xs ys (k + 1) = (xs.getD k 0 + ys.getD k 0 + plusC xs ys k) / 65536 := rfl
    have hsO : plusO xs ys (k + 1) = plusO xs ys k ++ [(xs.getD k 0 + ys.getD k 0 + plusC xs ys k) % 65536] := rfl
    have hxb := H.out.2.2.1.getD k
    have hyb := H.out.2.2.2.getD k
    have hA1 := at_any _ xs k wr (H.out.1.later hb) (by omega)
    have hA2 := at_any _ ys k wr (H.out.2.1.later hb) (by omega)
    rw [Int.toNat_natCast] at hA1 hA2
    obtain ⟨x, hx⟩ : ∃ x, xs.getD k 0 = x := ⟨_, rfl⟩
    obtain ⟨y, hy⟩ : ∃ x, ys.getD k 0 = x := ⟨_, rfl⟩
    obtain ⟨cc, hcc⟩ : ∃ x, plusC xs ys k = x := ⟨_, rfl⟩
    rw [hx] at hA1 hxb hst hsO
    rw [hy] at hA2 hyb hst hsO
    rw [hcc] at hcb hend hst hsO ⊢
    rw [hcc] at hdone
    have hmx2 : xs.length ≤ mx ∧ ys.length ≤ mx ∧ mx ≤ 1000000 := by omega
    have HA := Lib.hid (And.intro hA1 (And.intro hA2 (And.intro hst (And.intro hsO hb))))
    have HO := Lib.hid (And.intro ho hcc)
    by_cases hgo : k < xs.length ∨ k < ys.length ∨ 0 < cc
    · have hkm : k ≤ mx := by
        rcases Nat.lt_or_ge mx k with g | g
        · have := hend (by omega) (by omega) (by omega); omega
        · exact g
      have hwn1 : IntKind.u64.wrap (x + y) = x + y := wrap_u64 (by omega) (by omega)
      have hwn2 : IntKind.u64.wrap (x + y + cc) = x + y + cc := wrap_u64 (by omega) (by omega)
      obtain ⟨q, hq⟩ : ∃ q, (x + y + cc) / 65536 = q := ⟨_, rfl⟩
      obtain ⟨r, hr⟩ : ∃ r, (x + y + cc) % 65536 = r := ⟨_, rfl⟩
      have htd : (x + y + cc).tdiv 65536 = q := by rw [Int.tdiv_eq_ediv_of_nonneg (by omega)]; exact hq
      have htm : (x + y + cc).tmod 65536 = r := by rw [Int.tmod_eq_emod_of_nonneg (by omega)]; exact hr
      have hwq : IntKind.u64.wrap q = q := wrap_u64 (by omega) (by omega)
      have hwr : IntKind.u64.wrap r = r := wrap_u64 (by omega) (by omega)
      have HQ := Lib.hid (And.intro hq hr)
      have hxl : xs.length ≤ mx := hmx2.1
      have hyl : ys.length ≤ mx := hmx2.2.1
      have hml := hmx2.2.2
      have hcc0 : 0 ≤ cc := hcb.1
      clear hend hdone hst hsO hA1 hA2 hx hy hcc hq hr hmx2 hcb hmx
      go_upto_region 4 with fail
      go_cut [22] (fun s22 wx => s22 = .bool true ∧ wx = wr)
      case first =>
        by_cases g1 : k < xs.length
        · have g1i : (k : Int) < xs.length := by omega
          go_wp2_with fail
          go_meet
          exact ⟨rfl, rfl⟩
        · have g1i : ¬ (k : Int) < xs.length := by omega
          by_cases g2 : k < ys.length
          · have g2i : (k : Int) < ys.length := by omega
            go_wp2_with fail
            go_meet
            exact ⟨rfl, rfl⟩
          · have g2i : ¬ (k : Int) < ys.length := by omega
            have g3 : 0 < cc := by omega
            go_wp2_with fail
            go_meet
            exact ⟨rfl, rfl⟩
      case rest =>
        obtain ⟨rfl, rfl⟩ := hcut
        clear hgo
        go_wp2_with fail
        refine HA.out.1.mono ?_
        rintro e w2 ⟨rfl, rfl⟩
        go_wp2_with fail
        refine HA.out.2.1.mono ?_
        rintro e w3 ⟨rfl, rfl⟩
        have hoo := HO.out.1
        have hbs := HA.out.2.2.2.2.size
        go_wp2_with (at_builtin; refine wpList_append_own _ rfl (.tmp 34) (.tmp 37) 81 rfl w.heap.size 33 i0 _ 1 8 Tryd.underlying81 hi hz0 hz1 hz2 rfl (by decide) _ _ _ rfl (hoo.alloc _) ⟨_, 0, none⟩ 1 1 [.int .u64 r] rfl rfl (cells_new _ _ _) (by simp [Value.oneCell']) (by unfold maxLen; omega) (by omega) (by simp; omega) ?_; intro v6 w6 hown6 hgrow6 _; obtain ⟨g6, cap6, rfl⟩ := ownsRow_succ hown6)
        have hbb := HA.out.2.2.2.2
        have hA := later_trans hbb (later_alloc _ (.cells #[.int .u64 r] 33))
        have hF : w6.ownsRow w.heap.size 33 1 (.slice (some ⟨g6, 0, none⟩) (k + 1) cap6) (k + 1) ((plusO xs ys (k + 1)).map (.int .u64)) := by
          rw [HA.out.2.2.2.1, HQ.out.2, List.map_append]; exact hown6
        have HF := Lib.hid (And.intro hF (hA.grown hgrow6 hA.size (fun q e => owns_above hoo q e)))
        have HC : Hid (q = plusC xs ys (k + 1)) := Lib.hid (by rw [HA.out.2.2.1, HQ.out.1])
        clear hown6 hgrow6 hoo hA hF hbb
        go_roundw
        case rel => first | exact ⟨k + 1, by omega, by go_num, by rw [HC.out], HF.out.1, HF.out.2⟩ | ((repeat apply Exists.intro); refine ⟨?_, rfl⟩; exact ⟨k + 1, by omega, by go_num, by rw [HC.out], HF.out.1, HF.out.2⟩)
        case measure => simp [intOf]; omega
    · have hcc0 : ¬ 0 < cc := by omega
      have hxl : ¬ k < xs.length := by omega
      have hyl : ¬ k < ys.length := by omega
      have hxi : ¬ (k : Int) < xs.length := by omega
      have hyi : ¬ (k : Int) < ys.length := by omega
      have hS : SlI .u64 wr (.slice av k cv) (plusO xs ys k) := SlI.of_owns ho (plusO_dg k).wf
      have hT := trim_any _ _ wr hS
      have hTd := trim_digs (plusO_dg (xs := xs) (ys := ys) k) _ (Nat.le_refl _)
      rw [List.take_length, hdone.out (by omega) (by omega) (by omega)] at hTd
      rw [hTd] at hT
      have HT := Lib.hid hT
      clear hend hdone hst hsO hA1 hA2 hx hy hcc hmx2 hcb hmx hS hT hTd hgo ho
      have HB := Lib.hid hb
      go_wp2_with fail
      refine HT.out.mono ?_
      rintro e w2 ⟨v', rfl, hv', rfl⟩
      have HV := Lib.hid hv'
      clear hv'
      go_wp2_with fail
      go_ret
      exact ⟨_, rfl, HV.out, HB.out⟩
end
/-! ## XDig2 -/
section
open Go.RowKit Go.Shelf
set_option linter.unusedVariables false
set_option linter.unusedSimpArgs false

theorem trim_digs_id (N : Nat) : (digs N).take (trimTo (digs N) (digs N).length) = digs N := by
  have := trim_digs (digs_dg N) _ (Nat.le_refl _)
  rw [List.take_length, dv_digs] at this
  exact this
theorem dg_cons {l : List Int} (h : Dg l) : Dg (0 :: l) := fun x hx => by
  rcases List.mem_cons.1 hx with rfl | hx
  · decide
  · exact h x hx
theorem times_step {xs ys part : List Int} {j : Nat} (hj : j < ys.length) (hp : dv part = (ys.getD j 0).toNat * dv xs) : dv (0 :: digs (dv xs * dv (ys.drop (j + 1)))) + dv part = dv xs * dv (ys.drop j) := by
  show (0 : Int).toNat + 65536 * dv (digs _) + dv part = _
  rw [dv_digs, hp, dv_drop hj, Nat.mul_add, Nat.mul_left_comm (dv xs) 65536, Nat.mul_comm (dv xs) (ys.getD j 0).toNat]
  show 0 + _ + _ = _
  omega
theorem lw_drop {ys : List Int} (h : Lw ys) (j : Nat) : Lw (ys.drop j) := fun x hx => h x (List.mem_of_mem_drop hx)

set_option maxRecDepth 100000 in
set_option maxHeartbeats 4000000 in
theorem Times_any (u v : Value) (xs ys : List Int) (w : World) (hu : SlI .u64 w u xs) (hv : SlI .u64 w v ys) (hx : Dg xs) (hy : Lw ys) (hlx : xs.length ≤ 100000) (hly : ys.length ≤ 100000) :
    Calls Tryd.prog 72 #[u, v] w fun e w' => ∃ v', e = .returned v' ∧ SlI .u64 w' v' (digs (dv xs * dv ys)) ∧ Below w.heap.size w w' := by
  obtain ⟨i0, hi, hz0, hz1, hz2⟩ := info_parts info_u64w
  have H := Lib.hid (And.intro hu (And.intro hv (And.intro hx hy)))
  obtain ⟨a, c, rfl, -⟩ := hu.open
  obtain ⟨a', c', rfl, -⟩ := hv.open
  have hw0 : IntKind.i64.wrap ((ys.length : Int) - 1) = (ys.length : Int) - 1 := wrap_i64 (by omega) (by omega)
  have hlen : ∀ j, (digs (dv xs * dv (ys.drop j))).length ≤ 200002 := fun j => by
    have h1 := times_len hx (lw_drop hy j)
    have h2 : (ys.drop j).length ≤ ys.length := by rw [List.length_drop]; omega
    omega
  have HL := Lib.hid hlen
  clear hu hv hx hy hlen
  go_enter Tryd.func72, Tryd.ntmps72
  go_wp2_with fail
  go_loopw [5, 6] (fun s i wr => ∃ j : Nat, j ≤ ys.length ∧ i = .int .i64 ((j : Int) - 1) ∧ SlI .u64 wr s (digs (dv xs * dv (ys.drop j))) ∧ Below w.heap.size w wr) (fun _ i _ => (intOf i + 1).toNat)
  case atStart => exact ⟨ys.length, Nat.le_refl _, rfl, by rw [List.drop_length]; show SlI _ _ _ (digs (dv xs * 0)); rw [Nat.mul_zero, digs_zero]; exact SlI.nil _ _, Below.refl _ _⟩
  case round =>
    obtain ⟨j, hj, rfl, ho, hb⟩ := hrel
    obtain ⟨ao, co, rfl, -⟩ := ho.open
    cases j with
    | zero =>
      have hT := trim_any _ _ wr ho
      rw [trim_digs_id] at hT
      have HT := Lib.hid (And.intro hT hb)
      have hdr : ys.drop 0 = ys := rfl
      obtain ⟨ln, hln⟩ : ∃ ln, (digs (dv xs * dv (ys.drop 0))).length = ln := ⟨_, rfl⟩
      rw [hln] at HT ⊢
      rw [show (((0 : Nat) : Int) - 1) = -1 from rfl]
      clear ho hb hT hln hdr
      go_wp2_with fail
      refine HT.out.1.mono ?_
      rintro e w2 ⟨v', rfl, hv', rfl⟩
      have HV := Lib.hid hv'
      clear hv'
      go_wp2_with fail
      go_ret
      exact ⟨_, rfl, HV.out, HT.out.2⟩
    | succ j =>
      rw [show (((j + 1 : Nat) : Int) - 1) = (j : Int) from by omega]
      have hjy : j < ys.length := by omega
      obtain ⟨M, hM⟩ : ∃ M, dv xs * dv (ys.drop (j + 1)) = M := ⟨_, rfl⟩
      rw [hM] at ho ⊢
      have hlM : (digs M).length ≤ 200002 := by rw [← hM]; exact HL.out (j + 1)
      obtain ⟨ln, hln⟩ : ∃ ln, (digs M).length = ln := ⟨_, rfl⟩
      have HSl : Hid (SlS 1 (wr.alloc (.cells #[.int .u64 0] 33)) (.slice ao ln co) ln ((digs M).map (Value.int .u64))) := Lib.hid (by
        have := (ho.1.later (later_alloc wr (.cells #[.int .u64 0] 33))).slS
        rw [List.length_map, hln] at this
        exact this)
      have HO1 := Lib.hid (ownsRow_one wr (.int .u64 0) 33)
      rw [hln] at hlM ⊢
      obtain ⟨d, hd⟩ : ∃ d, ys.getD j 0 = d := ⟨_, rfl⟩
      have hdb := H.out.2.2.2.getD hjy
      rw [hd] at hdb
      have HJ := Lib.hid (And.intro hb (And.intro hM (And.intro hln (And.intro hd hjy))))
      have hjI : (j : Int) < ys.length := by omega
      have hbs := hb.size
      clear ho hb hM hln hd hj
      go_wp2_with (at_builtin; refine wpList_append_sl _ rfl (.tmp 18) (.tmp 19) 81 rfl wr.heap.size 33 i0 (.int .u64 0) 1 8 Tryd.underlying81 hi hz0 hz1 hz2 rfl (by decide) _ _ _ rfl HO1.out _ _ _ rfl HSl.out (ints_oneCell _ _) (by unfold maxLen; omega) (by omega) (by simp) ?_; intro v6 w6 hown6 hgrow6; obtain ⟨a6, c6, rfl⟩ := owns_shape2 hown6)
      have hb6 : Below wr.heap.size wr w6 := ((Below.refl wr.heap.size wr).alloc (Nat.le_refl _) (.cells #[.int .u64 0] 33)).grown hgrow6 (by simp) (fun k e => by cases e; exact Nat.le_refl _)
      have hO6 : SlI .u64 w6 (.slice a6 (1 + ln) c6) (0 :: digs M) := SlI.of_owns (xs := 0 :: digs M) hown6 (dg_cons (digs_dg M)).wf
      have H6 := Lib.hid (And.intro hb6 hO6)
      have hb6s := hb6.size
      obtain ⟨_, _, e1, _, _, _, f4⟩ := H.out.2.1.open
      obtain ⟨b, o, e2, hbw, fc⟩ := f4 (by omega)
      injection e1 with e1a e1b e1c
      subst e1a
      subst e2
      have cy0 := fc j hjy
      rw [← getD_at hjy, HJ.out.2.2.2.1] at cy0
      have hcy : Hid (∀ W, Below w6.heap.size w6 W → W.cell? ⟨b, o + j, none⟩ = some (.int .u64 d)) := Lib.hid (fun W hb => cell_next (later_trans HJ.out.1 (later_trans H6.out.1 hb)) cy0)
      have hAt : Hid (∀ (k : Nat) W, Below w6.heap.size w6 W → Calls Tryd.prog 110 #[.slice a xs.length c, .int .i64 (k : Int)] W fun e w' => e = .returned (.int .u64 (xs.getD k 0)) ∧ w' = W) := Lib.hid (fun k W hb => by
        have := at_any _ xs (k : Int) W (SlI.later H.out.1 (later_trans HJ.out.1 (later_trans H6.out.1 hb))) (by omega)
        rw [Int.toNat_natCast] at this
        exact this)
      clear hown6 hgrow6 hb6 hO6 fc f4 cy0 e1b e1c
      go_wp2_with fail
      go_loopw [7, 8, 9] (fun cr s i W => ∃ k : Nat, k ≤ xs.length + 2 ∧ i = .int .i64 k ∧ cr = .int .u64 (partC xs d k) ∧ W.ownsRow w6.heap.size 33 1 s k ((partO xs d k).map (.int .u64)) ∧ Below w6.heap.size w6 W) (fun _ _ i _ => xs.length + 2 - (intOf i).toNat)
      case atStart => exact ⟨0, Nat.zero_le _, rfl, rfl, World.ownsRow_nil _ _ _ _, later_refl _⟩
      case round =>
        obtain ⟨k, hk, rfl, rfl, hp, hbp⟩ := hrel
        obtain ⟨ap, cp, rfl⟩ := owns_shape2 hp
        have hcb := partC_bound H.out.2.2.1 hdb.1 k
        have hend : k = xs.length + 2 → partC xs d k = 0 := fun g => by subst g; exact partC_end H.out.2.2.1 hdb.1 hdb.2
        have hst : partC xs d (k + 1) = (xs.getD k 0 * d + partC xs d k) / 65536 := rfl
        have hsO : partO xs d (k + 1) = partO xs d k ++ [(xs.getD k 0 * d + partC xs d k) % 65536] := rfl
        have hxb := H.out.2.2.1.getD k
        have hmd := mul_dig hxb.1 hxb.2 hdb.1 hcb.1 hcb.2
        have hA1 := hAt.out k
        obtain ⟨x, hx⟩ : ∃ x, xs.getD k 0 = x := ⟨_, rfl⟩
        obtain ⟨cc, hcc⟩ : ∃ x, partC xs d k = x := ⟨_, rfl⟩
        rw [hx] at hA1 hxb hst hsO hmd
        rw [hcc] at hcb hend hst hsO hmd ⊢
        obtain ⟨p, hpd⟩ : ∃ p, x * d = p := ⟨_, rfl⟩
        rw [hpd] at hst hsO hmd
        have cy := hcy.out _ hbp
        have HA := Lib.hid (And.intro hA1 (And.intro hst (And.intro hsO (And.intro hbp (And.intro hp hcc)))))
        by_cases hgo : k < xs.length ∨ 0 < cc
        · have hkm : k ≤ xs.length + 1 := by
            rcases Nat.lt_or_ge (xs.length + 1) k with g | g
            · have := hend (by omega); omega
            · exact g
          have hp0 : 0 ≤ p := hmd.1
          have hpm : p + cc ≤ 281474976645120 + 65536 := by omega
          have hcc0 : 0 ≤ cc := hcb.1
          have hwn1 : IntKind.u64.wrap p = p := wrap_u64 (by omega) (by omega)
          have hwn2 : IntKind.u64.wrap (p + cc) = p + cc := wrap_u64 (by omega) (by omega)
          obtain ⟨q, hq⟩ : ∃ q, (p + cc) / 65536 = q := ⟨_, rfl⟩
          obtain ⟨r, hr⟩ : ∃ r, (p + cc) % 65536 = r := ⟨_, rfl⟩
          have htd : (p + cc).tdiv 65536 = q := by rw [Int.tdiv_eq_ediv_of_nonneg (by omega)]; exact hq
          have htm : (p + cc).tmod 65536 = r := by rw [Int.tmod_eq_emod_of_nonneg (by omega)]; exact hr
          have hwq : IntKind.u64.wrap q = q := wrap_u64 (by omega) (by omega)
          have hwr : IntKind.u64.wrap r = r := wrap_u64 (by omega) (by omega)
          have HQ := Lib.hid (And.intro hq (And.intro hr hpd))
          clear hend hst hsO hA1 hx hcc hq hr hcb hmd hp hbp
          go_upto_region 9 with fail
          go_cut [28] (fun s28 wx => s28 = .bool true ∧ wx = wr)
          case first =>
            by_cases g1 : k < xs.length
            · have g1i : (k : Int) < xs.length := by omega
              go_wp2_with fail
              go_meet
              exact ⟨rfl, rfl⟩
            · have g1i : ¬ (k : Int) < xs.length := by omega
              have g3 : 0 < cc := by omega
              go_wp2_with fail
              go_meet
              exact ⟨rfl, rfl⟩
          case rest =>
            obtain ⟨rfl, rfl⟩ := hcut
            clear hgo
            go_upto_region 11 with fail
            go_cut [10] (fun s10 wx => s10 = .int .u64 (p + cc) ∧ Below wc.heap.size wc wx)
            case first =>
              have HKeep : Hid (∀ W, Below wc.heap.size wc W → W.cell? ⟨b, o + j, none⟩ = some (.int .u64 d)) := Lib.hid (fun W hb => cell_next hb cy)
              go_region_held3 (fun W => W.cell? ⟨b, o + j, none⟩ = some (.int .u64 d))
                (first | exact HKeep.out _ (later_refl _) | exact HKeep.out _ (later_drew _) | assumption)
                (first
                  | (go_at_call 110; refine (HA.out.1 _ (later_trans HA.out.2.2.2.1 (later_drew _))).mono ?_; rintro e wP ⟨rfl, rfl⟩))
              all_goals (go_wp2_with fail)
              all_goals go_meet
              all_goals exact ⟨rfl, later_drew _⟩
            case rest =>
              obtain ⟨rfl, hbx⟩ := hcut
              have hoo := owns_later HA.out.2.2.2.2.1 hbx
              have hbb := later_trans HA.out.2.2.2.1 hbx
              have hbs2 := hbb.size
              have HBB := Lib.hid hbb
              clear hbx hbb cy
              go_wp2_with (at_builtin; refine wpList_append_own _ rfl (.tmp 41) (.tmp 44) 81 rfl w6.heap.size 33 i0 _ 1 8 Tryd.underlying81 hi hz0 hz1 hz2 rfl (by decide) _ _ _ rfl (hoo.alloc _) ⟨_, 0, none⟩ 1 1 [.int .u64 r] rfl rfl (cells_new _ _ _) (by simp [Value.oneCell']) (by unfold maxLen; omega) (by omega) (by simp; omega) ?_; intro v7 w7 hown7 hgrow7 _; obtain ⟨g7, cap7, rfl⟩ := ownsRow_succ hown7)
              have hA := later_trans HBB.out (later_alloc _ (.cells #[.int .u64 r] 33))
              have hF : w7.ownsRow w6.heap.size 33 1 (.slice (some ⟨g7, 0, none⟩) (k + 1) cap7) (k + 1) ((partO xs d (k + 1)).map (.int .u64)) := by
                rw [HA.out.2.2.1, HQ.out.2.1, List.map_append]; exact hown7
              have HF := Lib.hid (And.intro hF (hA.grown hgrow7 hA.size (fun q e => owns_above hoo q e)))
              have HC : Hid (q = partC xs d (k + 1)) := Lib.hid (by rw [HA.out.2.1, HQ.out.1])
              clear hown7 hgrow7 hoo hA hF
              go_roundw
              case rel => first | exact ⟨k + 1, by omega, by go_num, by rw [HC.out], HF.out.1, HF.out.2⟩ | ((repeat apply Exists.intro); refine ⟨?_, rfl⟩; exact ⟨k + 1, by omega, by go_num, by rw [HC.out], HF.out.1, HF.out.2⟩)
              case measure => simp [intOf]; omega
        · have hcc0 : ¬ 0 < cc := by omega
          have hxl : ¬ k < xs.length := by omega
          have hxi : ¬ (k : Int) < xs.length := by omega
          have hpv := part_done H.out.2.2.1 hdb.1 (i := k) (by omega) (by rw [hcc]; omega)
          have hlo : (digs M).length = ln := HJ.out.2.2.1
          have hP := Plus_any _ _ (0 :: digs M) (partO xs d k) wr (H6.out.2.later hbp) (SlI.of_owns (n := k) hp (partO_dg k).wf) (dg_cons (digs_dg M)) (partO_dg k) (by rw [List.length_cons, hlo]; omega) (by rw [partO_len]; omega)
          have hts := times_step (xs := xs) (ys := ys) (part := partO xs d k) hjy (by rw [hpv, HJ.out.2.2.2.1])
          rw [HJ.out.2.1] at hts
          rw [hts] at hP
          have HP := Lib.hid (And.intro hP (later_trans HJ.out.1 (later_trans H6.out.1 hbp)))
          have hwj : IntKind.i64.wrap ((j : Int) - 1) = (j : Int) - 1 := wrap_i64 (by omega) (by omega)
          clear hend hst hsO hA1 hx hcc hcb hmd hgo hp hbp hpv hP hts hlo cy
          go_wp2_with fail
          refine HP.out.1.mono ?_
          rintro e w8 ⟨v8, rfl, hv8, hb8⟩
          obtain ⟨a8, c8, rfl, -⟩ := hv8.open
          have H8 := Lib.hid (And.intro hv8 (later_trans HP.out.2 hb8))
          clear hv8 hb8
          go_wp2_with fail
          go_roundw
          case rel => first | exact ⟨j, by omega, rfl, H8.out.1, H8.out.2⟩ | ((repeat apply Exists.intro); refine ⟨?_, rfl⟩; exact ⟨j, by omega, rfl, H8.out.1, H8.out.2⟩)
          case measure => simp [intOf] <;> omega
end
/-! ## XDig3 -/
section
open Go.RowKit Go.Shelf
set_option linter.unusedVariables false
set_option linter.unusedSimpArgs false

/-- What Number hands back. -/
def numV (N : Nat) : Value := if N < 340282366920938463463374607431768211456 then .tuple #[wv N, .bool true] else .tuple #[.agg #[.int .u64 0, .int .u64 0], .bool false]
/-- Some digits, from the k-th one on. -/
def numP (N s k : Nat) : Nat := N / 65536 ^ (s - k) % 65536 ^ k
theorem numP_step {N s k : Nat} (h : k + 1 ≤ s) : numP N s (k + 1) = numP N s k * 65536 + N / 65536 ^ (s - (k + 1)) % 65536 := by
  unfold numP
  obtain ⟨M, hM⟩ : ∃ M, N / 65536 ^ (s - (k + 1)) = M := ⟨_, rfl⟩
  have e : N / 65536 ^ (s - k) = M / 65536 := by
    rw [← hM, Nat.div_div_eq_div_mul, ← Nat.pow_succ]
    congr 2
    omega
  rw [hM, e, Nat.pow_succ, Nat.mul_comm (65536 ^ k), Nat.mod_mul, Nat.mul_comm 65536 (M / 65536 % 65536 ^ k)]
  omega
theorem numP_lt (N s k : Nat) : numP N s k < 65536 ^ k := Nat.mod_lt _ (Nat.pos_of_ne_zero (by simp))
theorem num_end {N : Nat} (h : N < 340282366920938463463374607431768211456) : wv N = .agg #[.int .u64 ((numP N 8 4 : Nat) : Int), .int .u64 ((numP N 4 4 : Nat) : Int)] := by
  have e1 : numP N 8 4 = N / 18446744073709551616 := by
    unfold numP
    show N / 65536 ^ 4 % 65536 ^ 4 = _
    rw [show (65536 : Nat) ^ 4 = 18446744073709551616 from rfl]
    omega
  have e2 : numP N 4 4 = N % 18446744073709551616 := by
    unfold numP
    show N / 65536 ^ 0 % 65536 ^ 4 = _
    rw [show (65536 : Nat) ^ 4 = 18446744073709551616 from rfl]
    simp
  rw [e1, e2]; rfl

set_option maxRecDepth 100000 in
set_option maxHeartbeats 4000000 in
theorem Number_any (v : Value) (xs : List Int) (w : World) (h : SlI .u64 w v xs) (hx : Dg xs) :
    Calls Tryd.prog 74 #[v] w fun e w' => e = .returned (numV (dv xs)) ∧ Below w.heap.size w w' := by
  obtain ⟨N, hN⟩ : ∃ N, dv xs = N := ⟨_, rfl⟩
  have hT := fun W (hb : Below w.heap.size w W) => trim_any v xs W (SlI.later h hb)
  have htd := trim_digs hx _ (Nat.le_refl _)
  rw [List.take_length, hN] at htd
  simp only [htd] at hT
  rw [hN]
  have hl8 := digs_len 8 N
  rw [show (65536 : Nat) ^ 8 = 340282366920938463463374607431768211456 from rfl] at hl8
  have HT := Lib.hid hT
  have hb0 := later_alloc w (.cells #[.int .u64 0, .int .u64 0] 35)
  have hbx := box_new w #[.int .u64 0, .int .u64 0] 35
  obtain ⟨av, cv, rfl, -⟩ := h.open
  have H0 := Lib.hid (And.intro hb0 hbx)
  by_cases hlt : N < 340282366920938463463374607431768211456
  · have hV : numV N = .tuple #[.agg #[.int .u64 ((numP N 8 4 : Nat) : Int), .int .u64 ((numP N 4 4 : Nat) : Int)], .bool true] := by unfold numV; rw [if_pos hlt, num_end hlt]
    rw [hV]
    have hle := hl8.2 hlt
    clear hV hl8 hT hb0 hbx h htd hN hx
    go_enter Tryd.func74, Tryd.ntmps74
    go_wp2_with fail
    refine (HT.out _ H0.out.1).mono ?_
    rintro e w' ⟨v', rfl, hv', rfl⟩
    obtain ⟨a2, c2, rfl, -⟩ := hv'.open
    have hvw := fun W (hb : Below (w.alloc (.cells #[.int .u64 0, .int .u64 0] 35)).heap.size (w.alloc (.cells #[.int .u64 0, .int .u64 0] 35)) W) => SlI.later hv' hb
    obtain ⟨ln, hln⟩ : ∃ ln, (digs N).length = ln := ⟨_, rfl⟩
    rw [hln] at hle hvw ⊢
    have hl8n : ¬ 8 < ln := by omega
    have hl8i : ¬ (8 : Int) < ln := by omega
    obtain ⟨W1, hW1⟩ : ∃ W, w.alloc (.cells #[.int .u64 0, .int .u64 0] 35) = W := ⟨_, rfl⟩
    rw [hW1] at H0 hvw ⊢
    have HVw := Lib.hid (And.intro hvw hln)
    have hs1 : w.heap.size < W1.heap.size := lt_of_block H0.out.2
    have hY := box_new W1 #[.int .u64 0, .int .u64 0] 35
    have HY := Lib.hid hY
    clear hv' hvw hln hle hW1 hY
    go_wp2_with fail
    go_loopw [5] (fun i wr => ∃ k : Nat, k ≤ 4 ∧ i = .int .i64 (3 - (k : Int)) ∧ wr.heap[W1.heap.size]? = some (.cells #[.int .u64 ((numP N 8 k : Nat) : Int), .int .u64 ((numP N 4 k : Nat) : Int)] 35 (0, 0)) ∧ Below W1.heap.size W1 wr) (fun i _ => (intOf i + 1).toNat)
    case atStart =>
      refine ⟨0, by omega, rfl, ?_, later_alloc _ _⟩
      have e1 : numP N 8 0 = 0 := by unfold numP; simp [Nat.mod_one]
      have e2 : numP N 4 0 = 0 := by unfold numP; simp [Nat.mod_one]
      rw [e1, e2]
      exact HY.out
    case round =>
      obtain ⟨k, hk, rfl, hbx, hb⟩ := hrel
      obtain ⟨r0, r1, f0, f1, lr⟩ := two_of (kept hb H0.out.2)
      obtain ⟨y0, y1, g0, g1, ly⟩ := two_of hbx
      obtain ⟨i, hi⟩ : ∃ i : Int, 3 - (k : Int) = i := ⟨_, rfl⟩
      rw [hi]
      by_cases hk4 : k = 4
      · have hin : ¬ 0 ≤ i := by omega
        subst hk4
        have HB := Lib.hid (later_trans H0.out.1 hb)
        clear hb hbx hi
        go_wp2_with fail
        refine bodyPost_ret (v := .tuple #[.agg #[.int .u64 ((numP N 8 4 : Nat) : Int), .int .u64 ((numP N 4 4 : Nat) : Int)], .bool true]) (by simp [results, Tryd.results74, go_sem, r0, r1]) rfl ?_
        exact ⟨rfl, below_set (below_set HB.out (Nat.le_refl _)) (Nat.le_refl _)⟩
      · have hi0 : 0 ≤ i := by omega
        have hi3 : i ≤ 3 := by omega
        have s1 := numP_step (N := N) (s := 4) (k := k) (by omega)
        have s2 := numP_step (N := N) (s := 8) (k := k) (by omega)
        have l1 := numP_lt N 4 k
        have l2 := numP_lt N 8 k
        have hp : 65536 ^ k ≤ 65536 ^ 3 := Nat.pow_le_pow_right (by decide) (by omega)
        have d1 := digs_at i.toNat N
        have d2 := digs_at (i + 4).toNat N
        rw [show 4 - (k + 1) = i.toNat from by omega] at s1
        rw [show 8 - (k + 1) = (i + 4).toNat from by omega] at s2
        obtain ⟨q1, hq1⟩ : ∃ q, N / 65536 ^ i.toNat % 65536 = q := ⟨_, rfl⟩
        obtain ⟨q2, hq2⟩ : ∃ q, N / 65536 ^ (i + 4).toNat % 65536 = q := ⟨_, rfl⟩
        rw [hq1] at s1 d1
        rw [hq2] at s2 d2
        have hA1 := fun W hb => at_any _ (digs N) i W (HVw.out.1 W hb) hi0
        have hA2 := fun W hb => at_any _ (digs N) (i + 4) W (HVw.out.1 W hb) (by omega)
        simp only [d1] at hA1
        simp only [d2] at hA2
        obtain ⟨lo, hlo⟩ : ∃ x, numP N 4 k = x := ⟨_, rfl⟩
        obtain ⟨hh, hhi⟩ : ∃ x, numP N 8 k = x := ⟨_, rfl⟩
        rw [hlo] at s1 l1 y1 hbx
        rw [hhi] at s2 l2 y0 hbx
        have hq1b : q1 < 65536 := by rw [← hq1]; exact Nat.mod_lt _ (by decide)
        have hq2b : q2 < 65536 := by rw [← hq2]; exact Nat.mod_lt _ (by decide)
        rw [show (65536 : Nat) ^ 3 = 281474976710656 from rfl] at hp
        have hw1 : IntKind.u64.wrap ((lo : Int) * 65536) = (lo : Int) * 65536 := wrap_u64 (by omega) (by omega)
        have hw2 : IntKind.u64.wrap ((lo : Int) * 65536 + q1) = (lo : Int) * 65536 + q1 := wrap_u64 (by omega) (by omega)
        have hw3 : IntKind.u64.wrap ((hh : Int) * 65536) = (hh : Int) * 65536 := wrap_u64 (by omega) (by omega)
        have hw4 : IntKind.u64.wrap ((hh : Int) * 65536 + q2) = (hh : Int) * 65536 + q2 := wrap_u64 (by omega) (by omega)
        have hwi4 : IntKind.i64.wrap (i + 4) = i + 4 := wrap_i64 (by omega) (by omega)
        have hwi1 : IntKind.i64.wrap (i - 1) = i - 1 := wrap_i64 (by omega) (by omega)
        have HA := Lib.hid (And.intro hA1 (And.intro hA2 (And.intro s1 (And.intro s2 (And.intro hbx (And.intro hb hi))))))
        have HK4 := Lib.hid hk4
        clear hA1 hA2 s1 s2 hbx hb d1 d2 hq1 hq2 hlo hhi l1 l2 hp hi hk4
        go_upto_region 8 with fail
        go_cut [] (fun wx => wx.heap[W1.heap.size]? = some (.cells #[.int .u64 (hh : Int), .int .u64 ((lo : Int) * 65536 + q1)] 35 (0, 0)) ∧ Below W1.heap.size W1 wx)
        case first =>
          go_region_with (go_at_call 110; refine (HA.out.1 _ (later_trans HA.out.2.2.2.2.2.1 (later_drew _))).mono ?_; rintro e wP ⟨rfl, rfl⟩)
          all_goals (go_wp2_with fail)
          all_goals go_meet
          all_goals exact ⟨kept (later_drew _) (by simpa using box_set (i := 1) HA.out.2.2.2.2.1 (.int .u64 ((lo : Int) * 65536 + q1))), later_trans (below_set HA.out.2.2.2.2.2.1 (Nat.le_refl _)) (later_drew _)⟩
        case rest =>
          obtain ⟨hbx, hb⟩ := hcut
          obtain ⟨y0, y1, g0, g1, ly⟩ := two_of hbx
          have HB := Lib.hid (And.intro hbx hb)
          clear hbx hb
          go_upto_region 9 with fail
          have HN1 : Hid ((lo : Int) * 65536 + q1 = ((numP N 4 (k + 1) : Nat) : Int)) := Lib.hid (by rw [HA.out.2.2.1]; omega)
          have HN2 : Hid ((hh : Int) * 65536 + q2 = ((numP N 8 (k + 1) : Nat) : Int)) := Lib.hid (by rw [HA.out.2.2.2.1]; omega)
          go_region_with (go_at_call 110; refine (HA.out.2.1 _ (later_trans HB.out.2 (later_drew _))).mono ?_; rintro e wP ⟨rfl, rfl⟩)
          all_goals (go_wp2_with fail)
          all_goals go_roundw
          all_goals first
            | (simp [intOf]; omega)
            | (refine ⟨k + 1, by have := HK4.out; omega, by have := HA.out.2.2.2.2.2.2; congr 1; push_cast; omega, kept (later_drew _) ?_, later_trans (below_set HB.out.2 (Nat.le_refl _)) (later_drew _)⟩; rw [← HN1.out, ← HN2.out]; simpa using box_set (i := 0) HB.out.1 (.int .u64 ((hh : Int) * 65536 + q2)))
  · have hV : numV N = .tuple #[.agg #[.int .u64 0, .int .u64 0], .bool false] := by unfold numV; rw [if_neg hlt]
    rw [hV]
    have hgt : 8 < (digs N).length := by
      rcases Nat.lt_or_ge 8 (digs N).length with g | g
      · exact g
      · exact absurd (hl8.1 g) hlt
    clear hV hl8 hT hb0 hbx h htd hN hx hlt
    go_enter Tryd.func74, Tryd.ntmps74
    go_wp2_with fail
    refine (HT.out _ H0.out.1).mono ?_
    rintro e w' ⟨v', rfl, hv', rfl⟩
    obtain ⟨a2, c2, rfl, -⟩ := hv'.open
    obtain ⟨ln, hln⟩ : ∃ ln, (digs N).length = ln := ⟨_, rfl⟩
    rw [hln] at hgt ⊢
    have hgti : (8 : Int) < ln := by omega
    obtain ⟨r0, r1, f0, f1, lr⟩ := two_of H0.out.2
    clear hv' hln
    go_wp2_with fail
    refine bodyPost_ret (v := .tuple #[.agg #[.int .u64 0, .int .u64 0], .bool false]) (by simp [results, Tryd.results74, go_sem, r0, r1]) rfl ?_
    exact ⟨rfl, H0.out.1⟩
end
/-! ## XDig4 -/
section
open Go.RowKit Go.Shelf
set_option linter.unusedVariables false
set_option linter.unusedSimpArgs false

theorem dv_append : ∀ (l l' : List Int), dv (l ++ l') = dv l + 65536 ^ l.length * dv l'
  | [], l' => by simp [dv]
  | x :: l, l' => by
    show x.toNat + 65536 * dv (l ++ l') = (x.toNat + 65536 * dv l) + 65536 ^ (l.length + 1) * dv l'
    rw [dv_append l l', Nat.pow_succ, Nat.mul_add, Nat.mul_comm (65536 ^ l.length) 65536, Nat.mul_assoc]
    omega
/-- The first digits of a word. -/
def d4 (w : Nat) : Nat → List Int
  | 0 => []
  | j + 1 => d4 w j ++ [((w / 65536 ^ j % 65536 : Nat) : Int)]
theorem d4_len (w : Nat) : ∀ j, (d4 w j).length = j
  | 0 => rfl
  | j + 1 => by show (d4 w j ++ [_]).length = _; rw [List.length_append, d4_len w j]; rfl
theorem d4_dg (w : Nat) : ∀ j, Dg (d4 w j)
  | 0 => Dg.nil
  | j + 1 => (d4_dg w j).app (by omega) (by omega)
theorem d4_dv (w : Nat) : ∀ j, dv (d4 w j) = w % 65536 ^ j
  | 0 => by show 0 = w % 1; omega
  | j + 1 => by
    show dv (d4 w j ++ [_]) = _
    rw [dv_app, d4_dv w j, d4_len, Int.toNat_natCast, Nat.pow_succ, Nat.mod_mul]
/-- The digits ahead of the k-th word. -/
def preD (l h : Nat) : Nat → List Int
  | 0 => []
  | 1 => d4 l 4
  | _ => d4 l 4 ++ d4 h 4
def wordD (l h : Nat) : Nat → Nat
  | 0 => l
  | _ => h
theorem preD_next (l h : Nat) {k : Nat} (hk : k < 2) : preD l h (k + 1) = preD l h k ++ d4 (wordD l h k) 4 := by
  match k, hk with
  | 0, _ => rfl
  | 1, _ => rfl
theorem preD_len (l h : Nat) {k : Nat} (hk : k ≤ 2) : (preD l h k).length = 4 * k := by
  match k, hk with
  | 0, _ => rfl
  | 1, _ => exact d4_len l 4
  | 2, _ => show (d4 l 4 ++ d4 h 4).length = 8; rw [List.length_append, d4_len, d4_len]
theorem dg_append {l l' : List Int} (h : Dg l) (h' : Dg l') : Dg (l ++ l') := fun x hx => by
  rcases List.mem_append.1 hx with hx | hx
  · exact h x hx
  · exact h' x hx
theorem preD_dg (l h : Nat) : Dg (preD l h 2) := dg_append (d4_dg l 4) (d4_dg h 4)
theorem preD_dv {l h : Nat} (hl : l < 18446744073709551616) (hh : h < 18446744073709551616) : dv (preD l h 2) = h * 18446744073709551616 + l := by
  show dv (d4 l 4 ++ d4 h 4) = _
  rw [dv_append, d4_dv, d4_dv, d4_len, show (65536 : Nat) ^ 4 = 18446744073709551616 from rfl, Nat.mod_eq_of_lt hl, Nat.mod_eq_of_lt hh]
  omega

set_option maxRecDepth 100000 in
set_option maxHeartbeats 4000000 in
theorem Digits_any (l h : Nat) (w : World) (hl : l < 18446744073709551616) (hh : h < 18446744073709551616) :
    Calls Tryd.prog 69 #[.agg #[.int .u64 (h : Int), .int .u64 (l : Int)]] w fun e w' => ∃ v', e = .returned v' ∧ SlI .u64 w' v' (digs (h * 18446744073709551616 + l)) ∧ Below w.heap.size w w' := by
  obtain ⟨i0, hi, hz0, hz1, hz2⟩ := info_parts info_u64w
  have hW : ((w.alloc (.cells #[.int .u64 (h : Int), .int .u64 (l : Int)] 35)).alloc (.cells #[.int .u64 (l : Int), .int .u64 (h : Int)] 33)).heap[w.heap.size + 1]? = some (.cells #[.int .u64 (l : Int), .int .u64 (h : Int)] 33 (0, 0)) := by have h := box_new (w.alloc (.cells #[.int .u64 (h : Int), .int .u64 (l : Int)] 35)) #[.int .u64 (l : Int), .int .u64 (h : Int)] 33; rw [World.size_alloc] at h; exact h
  have hB : Below w.heap.size w ((w.alloc (.cells #[.int .u64 (h : Int), .int .u64 (l : Int)] 35)).alloc (.cells #[.int .u64 (l : Int), .int .u64 (h : Int)] 33)) := later_trans (later_alloc _ _) (later_alloc _ _)
  have hsz : ((w.alloc (.cells #[.int .u64 (h : Int), .int .u64 (l : Int)] 35)).alloc (.cells #[.int .u64 (l : Int), .int .u64 (h : Int)] 33)).heap.size = w.heap.size + 2 := by simp
  have H0 := Lib.hid (And.intro hW (And.intro hB hsz))
  have HL := Lib.hid (And.intro hl hh)
  clear hW hB hsz
  go_enter Tryd.func69, Tryd.ntmps69
  go_wp2_with fail
  go_loopw [3, 12] (fun s i wr => ∃ k : Nat, k ≤ 2 ∧ i = .int .i64 k ∧ wr.ownsRow (w.heap.size + 2) 33 1 s (4 * k) ((preD l h k).map (.int .u64)) ∧ wr.heap[w.heap.size + 1]? = some (.cells #[.int .u64 (l : Int), .int .u64 (h : Int)] 33 (0, 0)) ∧ w.heap.size + 2 ≤ wr.heap.size ∧ Below w.heap.size w wr) (fun _ i _ => 2 - (intOf i).toNat)
  case atStart => exact ⟨0, Nat.zero_le _, rfl, World.ownsRow_nil _ _ _ _, H0.out.1, by rw [H0.out.2.2]; exact Nat.le_refl _, H0.out.2.1⟩
  case round =>
    obtain ⟨k, hk, rfl, ho, hbx, hsz, hb⟩ := hrel
    obtain ⟨ao, co, rfl⟩ := owns_shape2 ho
    by_cases hlt : k < 2
    · obtain ⟨b0, b1, -, -, lB⟩ := two_of hbx
      obtain ⟨wd, hwd⟩ : ∃ wd, wordD l h k = wd := ⟨_, rfl⟩
      have hwb : wd < 18446744073709551616 := by
        rw [← hwd]
        match k, hlt with
        | 0, _ => exact HL.out.1
        | 1, _ => exact HL.out.2
      have cw : wr.cell? ⟨w.heap.size + 1, k, none⟩ = some (.int .u64 (wd : Int)) := by
        rw [← hwd]
        match k, hlt with
        | 0, _ => exact b0
        | 1, _ => exact b1
      have hkI : (k : Int) < 2 := by omega
      have HK := Lib.hid (And.intro ho (And.intro hbx (And.intro hb (And.intro hwd hlt))))
      clear ho hbx hb hwd b0 b1
      go_wp2_with fail
      go_loopw [3, 5, 16] (fun s wv i W => ∃ j : Nat, j ≤ 4 ∧ i = .int .i64 j ∧ wv = .int .u64 ((wd / 65536 ^ j : Nat) : Int) ∧ W.ownsRow (w.heap.size + 2) 33 1 s (4 * k + j) ((preD l h k ++ d4 wd j).map (.int .u64)) ∧ W.heap[w.heap.size + 1]? = some (.cells #[.int .u64 (l : Int), .int .u64 (h : Int)] 33 (0, 0)) ∧ w.heap.size + 2 ≤ W.heap.size ∧ Below w.heap.size w W) (fun _ _ i _ => 4 - (intOf i).toNat)
      case atStart => exact ⟨0, Nat.zero_le _, rfl, by simp, by show World.ownsRow _ _ _ _ _ _ ((preD l h k ++ []).map _); rw [List.append_nil]; exact HK.out.1, HK.out.2.1, hsz, HK.out.2.2.1⟩
      case round =>
        obtain ⟨j, hj, rfl, rfl, ho, hbx, hsz2, hb⟩ := hrel
        obtain ⟨a2, c2, rfl⟩ := owns_shape2 ho
        by_cases hjl : j < 4
        · obtain ⟨r, hr⟩ : ∃ r : Nat, wd / 65536 ^ j % 65536 = r := ⟨_, rfl⟩
          obtain ⟨q, hq⟩ : ∃ q : Nat, wd / 65536 ^ (j + 1) = q := ⟨_, rfl⟩
          obtain ⟨M, hM⟩ : ∃ M, wd / 65536 ^ j = M := ⟨_, rfl⟩
          have hMb : M < 18446744073709551616 := by rw [← hM]; exact Nat.lt_of_le_of_lt (Nat.div_le_self _ _) hwb
          have hqM : M / 65536 = q := by rw [← hM, ← hq, Nat.div_div_eq_div_mul, ← Nat.pow_succ]
          rw [hM] at hr
          have htm : (M : Int).tmod 65536 = r := by rw [Int.tmod_eq_emod_of_nonneg (by omega)]; omega
          have htd : (M : Int).tdiv 65536 = q := by rw [Int.tdiv_eq_ediv_of_nonneg (by omega)]; omega
          have hwr : IntKind.u64.wrap (r : Int) = r := wrap_u64 (by omega) (by omega)
          have hwq : IntKind.u64.wrap (q : Int) = q := wrap_u64 (by omega) (by omega)
          have HJ := Lib.hid (And.intro hr (And.intro hq (And.intro hM (And.intro hbx hb))))
          rw [hM]
          clear hr hq hM hqM hbx hb hMb
          go_wp2_with (at_builtin; refine wpList_append_own _ rfl (.tmp 18) (.tmp 21) 81 rfl (w.heap.size + 2) 33 i0 _ 1 8 Tryd.underlying81 hi hz0 hz1 hz2 rfl (by decide) _ _ _ rfl (ho.alloc _) ⟨_, 0, none⟩ 1 1 [.int .u64 (r : Int)] rfl rfl (cells_new _ _ _) (by simp [Value.oneCell']) (by unfold maxLen; omega) (by omega) (by simp; omega) ?_; intro v7 w7 hown7 hgrow7 _; obtain ⟨g7, cap7, rfl⟩ := ownsRow_succ hown7)
          have hA := later_trans HJ.out.2.2.2.2 (later_alloc _ (.cells #[.int .u64 (r : Int)] 33))
          have hoA := owns_later ho (later_alloc _ (.cells #[.int .u64 (r : Int)] 33))
          have hne : (Value.slice a2 (4 * k + j) c2).ownBlock ≠ some (w.heap.size + 1) := fun e => by have := owns_above hoA _ e; omega
          have hF : w7.ownsRow (w.heap.size + 2) 33 1 (.slice (some ⟨g7, 0, none⟩) (4 * k + j + 1) cap7) (4 * k + j + 1) ((preD l h k ++ d4 wd (j + 1)).map (.int .u64)) := by
            show World.ownsRow _ _ _ _ _ _ ((preD l h k ++ (d4 wd j ++ [((wd / 65536 ^ j % 65536 : Nat) : Int)])).map (.int .u64))
            rw [HJ.out.2.2.1, HJ.out.1, ← List.append_assoc, List.map_append]; exact hown7
          have hbx7 := (hgrow7.block (w.heap.size + 1) (by simp; omega) (fun e => hne e.symm)).trans (box_alloc HJ.out.2.2.2.1 _)
          have HF := Lib.hid (And.intro hF (And.intro hbx7 (And.intro (show w.heap.size + 2 ≤ w7.heap.size from Nat.le_trans (by simp; omega) hgrow7.size) (hA.grown hgrow7 hA.size (fun q e => by have := owns_above hoA q e; omega)))))
          have HC := Lib.hid HJ.out.2.1
          clear hown7 hgrow7 hA hoA hne hF hbx7 ho
          go_roundw
          case rel => first | exact ⟨j + 1, by omega, by go_num, by rw [HC.out], HF.out.1, HF.out.2.1, HF.out.2.2.1, HF.out.2.2.2⟩ | ((repeat apply Exists.intro); refine ⟨?_, rfl⟩; exact ⟨j + 1, by omega, by go_num, by rw [HC.out], HF.out.1, HF.out.2.1, HF.out.2.2.1, HF.out.2.2.2⟩)
          case measure => simp [intOf]; omega
        · obtain rfl : j = 4 := by omega
          have HF := Lib.hid (show wr.ownsRow (w.heap.size + 2) 33 1 (.slice a2 (4 * k + 4) c2) (4 * (k + 1)) ((preD l h (k + 1)).map (.int .u64)) by
            rw [preD_next l h HK.out.2.2.2.2, HK.out.2.2.2.1, show 4 * (k + 1) = 4 * k + 4 from by omega]; exact ho)
          have HB := Lib.hid (And.intro hbx hb)
          clear ho hbx hb
          go_wp2_with fail
          go_roundw
          case rel => first | exact ⟨k + 1, by omega, by go_num, HF.out, HB.out.1, hsz2, HB.out.2⟩ | ((repeat apply Exists.intro); refine ⟨?_, rfl⟩; exact ⟨k + 1, by omega, by go_num, HF.out, HB.out.1, hsz2, HB.out.2⟩)
          case measure => simp [intOf]; omega
    · obtain rfl : k = 2 := by omega
      have hS : SlI .u64 wr (.slice ao (4 * 2) co) (preD l h 2) := SlI.of_owns ho (preD_dg l h).wf
      have hT := trim_any _ _ wr hS
      have hTd := trim_digs (preD_dg l h) _ (Nat.le_refl _)
      rw [List.take_length, preD_dv HL.out.1 HL.out.2] at hTd
      rw [hTd] at hT
      have HT := Lib.hid (And.intro hT hb)
      clear ho hbx hb hS hT hTd
      go_wp2_with fail
      refine HT.out.1.mono ?_
      rintro e w2 ⟨v', rfl, hv', rfl⟩
      have HV := Lib.hid hv'
      clear hv'
      go_wp2_with fail
      go_ret
      exact ⟨_, rfl, HV.out, HT.out.2⟩
end
/-! ## XDig5 -/
section
open Go.RowKit Go.Shelf
set_option linter.unusedVariables false
set_option linter.unusedSimpArgs false

theorem digs_self (N : Nat) : N < 65536 ^ (digs N).length := (digs_len _ N).1 (Nat.le_refl _)
theorem len_less {a b : Nat} (h : (digs a).length < (digs b).length) : a < b := by
  have h1 := digs_self a
  have h2 : ¬ b < 65536 ^ (digs a).length := fun g => by have := (digs_len _ b).2 g; omega
  omega
theorem dv_split (l : List Int) (k : Nat) (hk : k ≤ l.length) : dv l = dv (l.take k) + 65536 ^ k * dv (l.drop k) := by
  have := dv_append (l.take k) (l.drop k)
  rw [List.take_append_drop, List.length_take, Nat.min_eq_left hk] at this
  exact this
theorem dig_less {xs ys : List Int} {k : Nat} (hx : Dg xs) (hy : Dg ys) (hxl : k < xs.length) (hyl : k < ys.length) (hd : xs.drop (k + 1) = ys.drop (k + 1)) (h : xs.getD k 0 < ys.getD k 0) : dv xs < dv ys := by
  rw [dv_split xs k (by omega), dv_split ys k (by omega), dv_drop hxl, dv_drop hyl, hd]
  have h1 := dv_lt (hx.take k)
  rw [List.length_take, Nat.min_eq_left (by omega)] at h1
  have hxb := hx.getD k
  have hyb := hy.getD k
  obtain ⟨x, hx'⟩ : ∃ x, (xs.getD k 0).toNat = x := ⟨_, rfl⟩
  obtain ⟨y, hy'⟩ : ∃ x, (ys.getD k 0).toNat = x := ⟨_, rfl⟩
  have hxy : x + 1 ≤ y := by omega
  rw [hx', hy']
  obtain ⟨D, hD⟩ : ∃ D, 65536 * dv (ys.drop (k + 1)) = D := ⟨_, rfl⟩
  rw [hD]
  have h2 : 65536 ^ k * (x + 1 + D) ≤ 65536 ^ k * (y + D) := Nat.mul_le_mul_left _ (by omega)
  rw [show x + 1 + D = (x + D) + 1 from by omega, Nat.mul_add, Nat.mul_one] at h2
  omega
theorem drop_eq {xs ys : List Int} {k : Nat} (hxl : k < xs.length) (hyl : k < ys.length) (hd : xs.drop (k + 1) = ys.drop (k + 1)) (h : xs.getD k 0 = ys.getD k 0) : xs.drop k = ys.drop k := by
  rw [List.drop_eq_getElem_cons hxl, List.drop_eq_getElem_cons hyl, hd, ← getD_at hxl, ← getD_at hyl, h]

set_option maxRecDepth 100000 in
set_option maxHeartbeats 4000000 in
theorem Compare01_any (a b ah al bh bl : Nat) (w : World) (ha : ah * 18446744073709551616 + al = a) (hb : bh * 18446744073709551616 + bl = b) (h1 : ah < 18446744073709551616) (h2 : al < 18446744073709551616) (h3 : bh < 18446744073709551616) (h4 : bl < 18446744073709551616) :
    Calls Tryd.prog 86 #[.agg #[.int .u64 (ah : Int), .int .u64 (al : Int)], .agg #[.int .u64 (bh : Int), .int .u64 (bl : Int)]] w fun e w' => e = .returned (.int .i64 (cmpI a b)) ∧ Below w.heap.size w w' := by
  have hDa := fun W => Digits_any al ah W h2 h1
  have hDb := fun W => Digits_any bl bh W h4 h3
  rw [ha] at hDa
  rw [hb] at hDb
  have HDa := Lib.hid hDa
  have HDb := Lib.hid hDb
  have hB : Below w.heap.size w ((w.alloc (.cells #[.int .u64 (ah : Int), .int .u64 (al : Int)] 35)).alloc (.cells #[.int .u64 (bh : Int), .int .u64 (bl : Int)] 35)) := later_trans (later_alloc _ _) (later_alloc _ _)
  have hx0 := box_alloc (box_new w #[.int .u64 (ah : Int), .int .u64 (al : Int)] 35) (.cells #[.int .u64 (bh : Int), .int .u64 (bl : Int)] 35)
  have hx1 : ((w.alloc (.cells #[.int .u64 (ah : Int), .int .u64 (al : Int)] 35)).alloc (.cells #[.int .u64 (bh : Int), .int .u64 (bl : Int)] 35)).heap[w.heap.size + 1]? = some (.cells #[.int .u64 (bh : Int), .int .u64 (bl : Int)] 35 (0, 0)) := by have h := box_new (w.alloc (.cells #[.int .u64 (ah : Int), .int .u64 (al : Int)] 35)) #[.int .u64 (bh : Int), .int .u64 (bl : Int)] 35; rw [World.size_alloc] at h; exact h
  have H0 := Lib.hid (And.intro hB (And.intro hx0 hx1))
  have hal : (digs a).length ≤ 8 := (digs_len 8 a).2 (by rw [show (65536 : Nat) ^ 8 = 340282366920938463463374607431768211456 from rfl]; omega)
  have hbl : (digs b).length ≤ 8 := (digs_len 8 b).2 (by rw [show (65536 : Nat) ^ 8 = 340282366920938463463374607431768211456 from rfl]; omega)
  obtain ⟨la, hla⟩ : ∃ n, (digs a).length = n := ⟨_, rfl⟩
  obtain ⟨lb, hlb⟩ : ∃ n, (digs b).length = n := ⟨_, rfl⟩
  have HLn := Lib.hid (And.intro hla hlb)
  rw [hla] at hal
  rw [hlb] at hbl
  clear hDa hDb hB hx0 hx1 ha hb h1 h2 h3 h4 hla hlb
  go_enter Tryd.func86, Tryd.ntmps86
  go_upto_region 1 with fail
  obtain ⟨W1, hW1⟩ : ∃ W, (w.alloc (.cells #[.int .u64 (ah : Int), .int .u64 (al : Int)] 35)).alloc (.cells #[.int .u64 (bh : Int), .int .u64 (bl : Int)] 35) = W := ⟨_, rfl⟩
  rw [hW1] at H0
  try rw [hW1]
  clear hW1
  obtain ⟨c0, c1, -, -, lc⟩ := two_of H0.out.2.1
  obtain ⟨d0, d1, -, -, ld⟩ := two_of H0.out.2.2
  have HKeep : Hid (∀ W, Below W1.heap.size W1 W → (W.cell? ⟨w.heap.size, 0, none⟩ = some (.int .u64 (ah : Int)) ∧ W.cell? ⟨w.heap.size, 1, none⟩ = some (.int .u64 (al : Int))) ∧ W.cell? ⟨w.heap.size + 1, 0, none⟩ = some (.int .u64 (bh : Int)) ∧ W.cell? ⟨w.heap.size + 1, 1, none⟩ = some (.int .u64 (bl : Int))) := Lib.hid (fun W hb => ⟨⟨cell_next hb c0, cell_next hb c1⟩, cell_next hb d0, cell_next hb d1⟩)
  go_cut [5, 6] (fun s5 s6 wx => (∃ p q, s5 = .slice p la q) ∧ (∃ p q, s6 = .slice p lb q) ∧ SlI .u64 wx s5 (digs a) ∧ SlI .u64 wx s6 (digs b) ∧ Below W1.heap.size W1 wx)
  case first =>
    go_region_held3 (fun W => (W.cell? ⟨w.heap.size, 0, none⟩ = some (.int .u64 (ah : Int)) ∧ W.cell? ⟨w.heap.size, 1, none⟩ = some (.int .u64 (al : Int))) ∧ W.cell? ⟨w.heap.size + 1, 0, none⟩ = some (.int .u64 (bh : Int)) ∧ W.cell? ⟨w.heap.size + 1, 1, none⟩ = some (.int .u64 (bl : Int)))
      (first | exact HKeep.out _ (later_refl _) | exact HKeep.out _ (later_drew _) | exact HKeep.out _ hb2 | exact HKeep.out _ hbA | exact HKeep.out _ hbB | assumption)
      (first
        | (go_at_call 69; have hq := hbB; with_reducible refine (HDa.out _).mono ?_; rintro e wA ⟨vA, rfl, hvA, hA1⟩; have hb2 : Below W1.heap.size W1 wA := (later_trans hbB hA1))
        | (go_at_call 69; have hq := hbA; with_reducible refine (HDb.out _).mono ?_; rintro e wB ⟨vB, rfl, hvB, hB1⟩; have hb2 : Below W1.heap.size W1 wB := (later_trans hbA hB1))
        | (go_at_call 69; with_reducible refine (HDa.out _).mono ?_; rintro e wA ⟨vA, rfl, hvA, hA1⟩; have hbA : Below W1.heap.size W1 wA := (later_trans (later_drew _) hA1))
        | (go_at_call 69; with_reducible refine (HDb.out _).mono ?_; rintro e wB ⟨vB, rfl, hvB, hB1⟩; have hbB : Below W1.heap.size W1 wB := (later_trans (later_drew _) hB1)))
    all_goals (go_wp2_with fail)
    all_goals go_meet
    all_goals (obtain ⟨pA, qA, eA, -⟩ := hvA.open; obtain ⟨pB, qB, eB, -⟩ := hvB.open; rw [HLn.out.1] at eA; rw [HLn.out.2] at eB)
    all_goals first
      | exact ⟨⟨pA, qA, eA⟩, ⟨pB, qB, eB⟩, hvA.later hB1, hvB, hb2⟩
      | exact ⟨⟨pA, qA, eA⟩, ⟨pB, qB, eB⟩, hvA, hvB.later hA1, hb2⟩
  case rest =>
    obtain ⟨⟨pA, qA, rfl⟩, ⟨pB, qB, rfl⟩, hvA, hvB, hbx⟩ := hcut
    have HV := Lib.hid (And.intro hvA (And.intro hvB (later_trans H0.out.1 hbx)))
    clear hvA hvB hbx c0 c1 d0 d1
    by_cases hll : la = lb
    · subst hll
      have hne : ((la : Int) != la) = false := by simp
      have hwl : IntKind.i64.wrap ((la : Int) - 1) = (la : Int) - 1 := wrap_i64 (by omega) (by omega)
      go_wp2_with fail
      go_loopw [7] (fun i wr => ∃ k : Nat, k ≤ la ∧ i = .int .i64 ((k : Int) - 1) ∧ (digs a).drop k = (digs b).drop k ∧ Below wc.heap.size wc wr) (fun i _ => (intOf i + 1).toNat)
      case atStart => exact ⟨la, Nat.le_refl _, rfl, by rw [List.drop_of_length_le (by rw [HLn.out.1]; exact Nat.le_refl _), List.drop_of_length_le (by rw [HLn.out.2]; exact Nat.le_refl _)], later_refl _⟩
      case round =>
        obtain ⟨k, hk, rfl, hd, hb⟩ := hrel
        have HB := Lib.hid (later_trans HV.out.2.2 hb)
        have HB1 := Lib.hid hb
        cases k with
        | zero =>
          have HE : Hid (cmpI a b = 0) := Lib.hid (by
            have e : digs a = digs b := by simpa using hd
            have := congrArg dv e
            rw [dv_digs, dv_digs] at this
            exact cmpI_eq (by omega))
          rw [show (((0 : Nat) : Int) - 1) = -1 from rfl]
          clear hd hb
          go_wp2_with fail
          go_ret
          exact ⟨ret_int HE.out.symm, HB.out⟩
        | succ k =>
          rw [show (((k + 1 : Nat) : Int) - 1) = (k : Int) from by omega]
          have hka : k < (digs a).length := by rw [HLn.out.1]; omega
          have hkb : k < (digs b).length := by rw [HLn.out.2]; omega
          obtain ⟨_, _, e1, _, _, _, f4⟩ := (SlI.later HV.out.1 hb).open
          obtain ⟨b1, o1, e2, _, fc⟩ := f4 (by omega)
          injection e1 with e1a e1b e1c
          subst e1a e1c
          subst e2
          obtain ⟨_, _, g1, _, _, _, g4⟩ := (SlI.later HV.out.2.1 hb).open
          obtain ⟨b2, o2, g2, _, gc⟩ := g4 (by omega)
          injection g1 with g1a g1b g1c
          subst g1a g1c
          subst g2
          have c1 := fc k hka
          have c2 := gc k hkb
          rw [← getD_at hka] at c1
          rw [← getD_at hkb] at c2
          have hlt : (digs a).getD k 0 < (digs b).getD k 0 → cmpI a b = -1 := fun g => cmpI_lt (by have := dig_less (digs_dg a) (digs_dg b) hka hkb hd g; rw [dv_digs, dv_digs] at this; omega)
          have hgt : (digs b).getD k 0 < (digs a).getD k 0 → cmpI a b = 1 := fun g => cmpI_gt (by have := dig_less (digs_dg b) (digs_dg a) hkb hka hd.symm g; rw [dv_digs, dv_digs] at this; omega)
          have heq : (digs a).getD k 0 = (digs b).getD k 0 → (digs a).drop k = (digs b).drop k := fun g => drop_eq hka hkb hd g
          obtain ⟨x, hx⟩ : ∃ x, (digs a).getD k 0 = x := ⟨_, rfl⟩
          obtain ⟨y, hy⟩ : ∃ y, (digs b).getD k 0 = y := ⟨_, rfl⟩
          rw [hx] at c1 hlt hgt heq
          rw [hy] at c2 hlt hgt heq
          have hwk : IntKind.i64.wrap ((k : Int) - 1) = (k : Int) - 1 := wrap_i64 (by omega) (by omega)
          have hkI : (k : Int) < la := by omega
          clear fc f4 gc g4 hd hka hkb e1b g1b hx hy hb
          by_cases g1 : x < y
          · have HE := Lib.hid (hlt g1)
            clear hlt hgt heq
            go_wp2_with fail
            go_region
            go_wp2_with fail
            go_ret
            exact ⟨ret_int HE.out.symm, later_trans HB.out (later_drew _)⟩
          · by_cases g2 : y < x
            · have HE := Lib.hid (hgt g2)
              clear hlt hgt heq
              go_wp2_with fail
              go_region
              go_wp2_with fail
              go_region
              go_wp2_with fail
              go_ret
              exact ⟨ret_int HE.out.symm, later_trans HB.out (later_trans (later_drew _) (later_drew _))⟩
            · have HE := Lib.hid (heq (by omega))
              clear hlt hgt heq
              go_wp2_with fail
              go_region
              go_wp2_with fail
              go_region
              go_wp2_with fail
              go_roundw
              case rel => first | exact ⟨k, by omega, rfl, HE.out, later_trans HB1.out (later_trans (later_drew _) (later_drew _))⟩ | ((repeat apply Exists.intro); refine ⟨?_, rfl⟩; exact ⟨k, by omega, rfl, HE.out, later_trans HB1.out (later_trans (later_drew _) (later_drew _))⟩)
              case measure => simp [intOf] <;> omega
    · have hne : ((la : Int) != lb) = true := by rw [bne_iff_ne]; omega
      by_cases hlt : la < lb
      · have HE : Hid (cmpI a b = -1) := Lib.hid (cmpI_lt (by have := len_less (a := a) (b := b) (by rw [HLn.out.1, HLn.out.2]; exact hlt); omega))
        have hltI : (la : Int) < lb := by omega
        go_wp2_with fail
        go_ret
        exact ⟨ret_int HE.out.symm, HV.out.2.2⟩
      · have HE : Hid (cmpI a b = 1) := Lib.hid (cmpI_gt (by have := len_less (a := b) (b := a) (by rw [HLn.out.1, HLn.out.2]; omega); omega))
        have hltI : ¬ (la : Int) < lb := by omega
        go_wp2_with fail
        go_ret
        exact ⟨ret_int HE.out.symm, HV.out.2.2⟩
end
/-! ## XDig6 -/
section
open Go.RowKit Go.Shelf
set_option linter.unusedVariables false
set_option linter.unusedSimpArgs false

set_option maxRecDepth 100000 in
set_option maxHeartbeats 4000000 in
/-- Power: the power, or one that is beyond all wide numbers. -/
theorem Power01_any (v : Value) (a n : Nat) (w : World) (h : SlI .u64 w v (digs a)) (hl : (digs a).length ≤ 8) (hn : n ≤ 16) :
    Calls Tryd.prog 108 #[v, .int .i64 (n : Int)] w fun e w' => ∃ v', e = .returned v' ∧ (∃ k, SlI .u64 w' v' (digs (a ^ k)) ∧ k ≤ n ∧ (k = n ∨ 340282366920938463463374607431768211456 ≤ a ^ k)) ∧ Below w.heap.size w w' := by
  have hS := Small_any 1 w (by decide) (by decide)
  rw [show smallL 1 = digs 1 from smallL_digs (n := 1) (by decide)] at hS
  have HS := Lib.hid (And.intro hS h)
  have HL := Lib.hid hl
  obtain ⟨av, cv, rfl, -⟩ := h.open
  clear h hS
  go_enter Tryd.func108, Tryd.ntmps108
  go_wp2_with fail
  refine HS.out.1.mono ?_
  rintro e w1 ⟨v1, rfl, hv1, hb1⟩
  obtain ⟨a1, c1, rfl, -⟩ := hv1.open
  have H1 := Lib.hid (And.intro hv1 hb1)
  clear hv1 hb1
  go_wp2_with fail
  go_loopw [5, 6] (fun s i wr => ∃ k : Nat, k ≤ n ∧ i = .int .i64 k ∧ SlI .u64 wr s (digs (a ^ k)) ∧ Below w.heap.size w wr) (fun _ i _ => n - (intOf i).toNat)
  case atStart => exact ⟨0, Nat.zero_le _, rfl, H1.out.1, H1.out.2⟩
  case round =>
    obtain ⟨k, hk, rfl, ho, hb⟩ := hrel
    obtain ⟨ao, co, rfl, -⟩ := ho.open
    have hl8 := digs_len 8 (a ^ k)
    rw [show (65536 : Nat) ^ 8 = 340282366920938463463374607431768211456 from rfl] at hl8
    obtain ⟨ln, hln⟩ : ∃ ln, (digs (a ^ k)).length = ln := ⟨_, rfl⟩
    have hT := Times_any _ _ (digs (a ^ k)) (digs a) wr ho (SlI.later HS.out.2 hb) (digs_dg _) (digs_dg a).lw
    rw [dv_digs, dv_digs, ← Nat.pow_succ, hln] at hT
    have ho2 := ho
    rw [hln] at hl8 ho2 ⊢
    have HO := Lib.hid (And.intro ho2 (And.intro hb hl8))
    have hk200 : (k : Int) < 200 := by omega
    by_cases hkn : k < n
    · have hknI : (k : Int) < n := by omega
      by_cases hl9 : ln ≤ 8
      · have hl9I : (ln : Int) ≤ 8 := by omega
        have HT := Lib.hid (hT (by omega) (by omega))
        clear hT ho ho2 hb hl8 hln
        go_wp2_with fail
        refine HT.out.mono ?_
        rintro e w2 ⟨v2, rfl, hv2, hb2⟩
        obtain ⟨a2, c2, rfl, -⟩ := hv2.open
        have H2 := Lib.hid (And.intro hv2 (later_trans HO.out.2.1 hb2))
        clear hv2 hb2
        go_wp2_with fail
        go_roundw
        case rel => first | exact ⟨k + 1, by omega, by go_num, H2.out.1, H2.out.2⟩ | ((repeat apply Exists.intro); refine ⟨?_, rfl⟩; exact ⟨k + 1, by omega, by go_num, H2.out.1, H2.out.2⟩)
        case measure => simp [intOf]; omega
      · have hl9I : ¬ (ln : Int) ≤ 8 := by omega
        have hbig : 340282366920938463463374607431768211456 ≤ a ^ k := by
          rcases Nat.lt_or_ge (a ^ k) 340282366920938463463374607431768211456 with g | g
          · exact absurd (hl8.2 g) hl9
          · exact g
        have HBg := Lib.hid hbig
        clear hT ho ho2 hb hl8 hln hbig
        go_wp2_with fail
        go_ret
        exact ⟨_, rfl, ⟨k, HO.out.1, hk, .inr HBg.out⟩, HO.out.2.1⟩
    · have hknI : ¬ (k : Int) < n := by omega
      have hke : k = n := by omega
      have HK := Lib.hid hke
      clear hT ho ho2 hb hl8 hln hke
      go_wp2_with fail
      go_ret
      exact ⟨_, rfl, ⟨k, HO.out.1, hk, .inl HK.out⟩, HO.out.2.1⟩

set_option maxRecDepth 100000 in
set_option maxHeartbeats 4000000 in
theorem enough_any (b p n bh bl ph pl : Nat) (w : World) (hb : bh * 18446744073709551616 + bl = b) (hp : ph * 18446744073709551616 + pl = p) (h1 : bh < 18446744073709551616) (h2 : bl < 18446744073709551616) (h3 : ph < 18446744073709551616) (h4 : pl < 18446744073709551616) (hn : n ≤ 16) :
    Calls Tryd.prog 68 #[.agg #[.int .u64 (bh : Int), .int .u64 (bl : Int)], .int .i64 (n : Int), .agg #[.int .u64 (ph : Int), .int .u64 (pl : Int)]] w fun e w' => e = .returned (.bool (decide (p ≤ b ^ n))) ∧ Below w.heap.size w w' := by
  have hD := fun W => Digits_any bl bh W h2 h1
  rw [hb] at hD
  have hbl : (digs b).length ≤ 8 := (digs_len 8 b).2 (by rw [show (65536 : Nat) ^ 8 = 340282366920938463463374607431768211456 from rfl]; omega)
  have HD := Lib.hid (And.intro hD hbl)
  have hB : Below w.heap.size w ((w.alloc (.cells #[.int .u64 (bh : Int), .int .u64 (bl : Int)] 35)).alloc (.cells #[.int .u64 (ph : Int), .int .u64 (pl : Int)] 35)) := later_trans (later_alloc _ _) (later_alloc _ _)
  have hx1 : ((w.alloc (.cells #[.int .u64 (bh : Int), .int .u64 (bl : Int)] 35)).alloc (.cells #[.int .u64 (ph : Int), .int .u64 (pl : Int)] 35)).heap[w.heap.size + 1]? = some (.cells #[.int .u64 (ph : Int), .int .u64 (pl : Int)] 35 (0, 0)) := by have h := box_new (w.alloc (.cells #[.int .u64 (bh : Int), .int .u64 (bl : Int)] 35)) #[.int .u64 (ph : Int), .int .u64 (pl : Int)] 35; rw [World.size_alloc] at h; exact h
  have H0 := Lib.hid (And.intro hB hx1)
  have HP := Lib.hid (And.intro hp (And.intro h3 h4))
  have hp128 : p < 340282366920938463463374607431768211456 := by omega
  clear hD hbl hB hx1 hp hb h1 h2 h3 h4
  go_enter Tryd.func68, Tryd.ntmps68
  go_wp2_with fail
  refine (HD.out.1 _).mono ?_
  rintro e w1 ⟨v1, rfl, hv1, hb1⟩
  obtain ⟨a1, c1, rfl, -⟩ := hv1.open
  have HP1 := Lib.hid (Power01_any _ b n w1 hv1 HD.out.2 hn)
  have H1 := Lib.hid (And.intro (kept hb1 H0.out.2) (later_trans H0.out.1 hb1))
  clear hv1 hb1
  go_wp2_with fail
  refine HP1.out.mono ?_
  rintro e w2 ⟨v2, rfl, ⟨k, hv2, hkn, hk⟩, hb2⟩
  obtain ⟨a2, c2, rfl, -⟩ := hv2.open
  have hN := Number_any _ (digs (b ^ k)) w2 hv2 (digs_dg _)
  rw [dv_digs] at hN
  have H2 := Lib.hid (And.intro (kept hb2 H1.out.1) (later_trans H1.out.2 hb2))
  unfold numV at hN
  by_cases hlt : b ^ k < 340282366920938463463374607431768211456
  · obtain rfl : k = n := by rcases hk with g | g; exact g; omega
    rw [if_pos hlt] at hN
    obtain ⟨qh, ql, hqw, hq1, hq2, hq3⟩ := wv_open (b ^ k) hlt
    rw [hqw] at hN
    have HN := Lib.hid hN
    have HQ := Lib.hid (And.intro hq1 (And.intro hq2 hq3))
    clear hN hv2 hb2 hk hqw hq1 hq2 hq3 hkn hlt
    go_wp2_with fail
    refine HN.out.mono ?_
    rintro e w3 ⟨rfl, hb3⟩
    have hb3' := later_trans hb3 (later_alloc w3 (.cells #[.int .u64 (qh : Int), .int .u64 (ql : Int)] 35))
    obtain ⟨x0, x1, -, -, lx⟩ := two_of (box_new w3 #[.int .u64 (qh : Int), .int .u64 (ql : Int)] 35)
    obtain ⟨y0, y1, -, -, ly⟩ := two_of (kept hb3' H2.out.1)
    have H3 := Lib.hid (later_trans H2.out.2 hb3')
    obtain ⟨z, hz⟩ : ∃ z, cmpI ((b ^ k : Nat) : Int) (p : Int) = z := ⟨_, rfl⟩
    have hC := fun W => Compare01_any (b ^ k) p qh ql ph pl W HQ.out.2.2.symm HP.out.1 HQ.out.1 HQ.out.2.1 HP.out.2.1 HP.out.2.2
    rw [hz] at hC
    have HC := Lib.hid hC
    have HZ : Hid (decide (0 ≤ z) = decide (p ≤ b ^ k)) := Lib.hid (by
      rw [← hz]
      rcases Nat.lt_or_ge (b ^ k) p with g | g
      · rw [cmpI_lt (by omega), decide_eq_false (show ¬ p ≤ b ^ k by omega)]; rfl
      · rw [decide_eq_true g]
        rcases Nat.lt_or_ge p (b ^ k) with g2 | g2
        · rw [cmpI_gt (by omega)]; rfl
        · rw [cmpI_eq (by omega)]; rfl)
    clear hb3 hb3' hC hz
    go_wp2_with fail
    refine (HC.out _).mono ?_
    rintro e w4 ⟨rfl, hb4⟩
    have H4 := Lib.hid (later_trans H3.out hb4)
    clear hb4
    go_wp2_with fail
    go_ret
    exact ⟨ret_bool HZ.out, H4.out⟩
  · rw [if_neg hlt] at hN
    have HN := Lib.hid hN
    have HZ : Hid (decide (p ≤ b ^ n) = true) := Lib.hid (by
      refine decide_eq_true ?_
      have h0 : b ≠ 0 := by
        intro e
        subst e
        rcases Nat.eq_zero_or_pos k with e | e
        · subst e; simp at hlt
        · rw [Nat.zero_pow e] at hlt; omega
      have := Nat.pow_le_pow_right (show 0 < b by omega) hkn
      omega)
    clear hN hv2 hb2 hk hkn hlt
    go_wp2_with fail
    refine HN.out.mono ?_
    rintro e w3 ⟨rfl, hb3⟩
    have H3 := Lib.hid (later_trans H2.out.2 (later_trans hb3 (later_alloc w3 (.cells #[.int .u64 0, .int .u64 0] 35))))
    clear hb3
    go_wp2_with fail
    go_ret
    exact ⟨ret_bool HZ.out.symm, H3.out⟩
end
/-! ## XDig7 -/
section
open Go.RowKit Go.Shelf
set_option linter.unusedVariables false
set_option linter.unusedSimpArgs false

def shO (xs : List Int) : Nat → List Int
  | 0 => []
  | k + 1 => shO xs k ++ [xs.getD k 0 / 2 + xs.getD (k + 1) 0 % 2 * 32768]
theorem shO_len (xs : List Int) : ∀ k, (shO xs k).length = k
  | 0 => rfl
  | k + 1 => by show (shO xs k ++ [_]).length = _; rw [List.length_append, shO_len xs k]; rfl
theorem shO_dg {xs : List Int} (hx : Dg xs) : ∀ k, Dg (shO xs k)
  | 0 => Dg.nil
  | k + 1 => (shO_dg hx k).app (by have := hx.getD k; have := hx.getD (k + 1); omega) (by have := hx.getD k; have := hx.getD (k + 1); omega)
theorem shO_val {xs : List Int} (hx : Dg xs) : ∀ k, 2 * dv (shO xs k) + (xs.getD 0 0).toNat % 2 = dv (xs.take k) + 65536 ^ k * ((xs.getD k 0).toNat % 2)
  | 0 => by show 2 * 0 + _ = 0 + 1 * _; omega
  | k + 1 => by
    have ih := shO_val hx k
    have h1 := hx.getD k
    have h2 := hx.getD (k + 1)
    rw [dv_take]
    show 2 * dv (shO xs k ++ [_]) + _ = _
    rw [dv_app, shO_len, Nat.pow_succ]
    obtain ⟨x, hx'⟩ : ∃ x : Nat, xs.getD k 0 = x := ⟨(xs.getD k 0).toNat, by omega⟩
    obtain ⟨y, hy'⟩ : ∃ x : Nat, xs.getD (k + 1) 0 = x := ⟨(xs.getD (k + 1) 0).toNat, by omega⟩
    rw [hx'] at ih ⊢
    rw [hy']
    simp only [Int.toNat_natCast] at ih ⊢
    have e1 : ((x : Int) / 2 + (y : Int) % 2 * 32768).toNat = x / 2 + y % 2 * 32768 := by omega
    rw [e1]
    obtain ⟨P, hP⟩ : ∃ P, 65536 ^ k = P := ⟨_, rfl⟩
    rw [hP] at ih ⊢
    have e2 : P * (2 * (x / 2 + y % 2 * 32768) + x % 2) = P * (x + 65536 * (y % 2)) := by congr 1; omega
    obtain ⟨E, hE⟩ : ∃ E, x / 2 + y % 2 * 32768 = E := ⟨_, rfl⟩
    rw [hE] at e2 ⊢
    rw [Nat.mul_add, Nat.mul_add, Nat.mul_left_comm P 2 E] at e2
    have e3 : P * 65536 * (y % 2) = P * (65536 * (y % 2)) := Nat.mul_assoc _ _ _
    omega
theorem shO_half {xs : List Int} (hx : Dg xs) : dv (shO xs xs.length) = dv xs / 2 := by
  have := shO_val hx xs.length
  have e : xs.getD xs.length 0 = 0 := by simp [List.getD]
  rw [e, List.take_length] at this
  have h0 := Nat.mod_lt (xs.getD 0 0).toNat (show 0 < 2 by decide)
  simp at this
  omega

set_option maxRecDepth 100000 in
set_option maxHeartbeats 4000000 in
theorem half_any (a b ah al bh bl : Nat) (w : World) (ha : ah * 18446744073709551616 + al = a) (hb : bh * 18446744073709551616 + bl = b) (h1 : ah < 18446744073709551616) (h2 : al < 18446744073709551616) (h3 : bh < 18446744073709551616) (h4 : bl < 18446744073709551616) :
    Calls Tryd.prog 67 #[.agg #[.int .u64 (ah : Int), .int .u64 (al : Int)], .agg #[.int .u64 (bh : Int), .int .u64 (bl : Int)]] w fun e w' => e = .returned (wv ((a + b) / 2)) ∧ Below w.heap.size w w' := by
  obtain ⟨i0, hi, hz0, hz1, hz2⟩ := info_parts info_u64w
  have hDa := fun W => Digits_any al ah W h2 h1
  have hDb := fun W => Digits_any bl bh W h4 h3
  rw [ha] at hDa
  rw [hb] at hDb
  have hal : (digs a).length ≤ 8 := (digs_len 8 a).2 (by rw [show (65536 : Nat) ^ 8 = 340282366920938463463374607431768211456 from rfl]; omega)
  have hbl : (digs b).length ≤ 8 := (digs_len 8 b).2 (by rw [show (65536 : Nat) ^ 8 = 340282366920938463463374607431768211456 from rfl]; omega)
  have hsl : (digs (a + b)).length ≤ 9 := (digs_len 9 (a + b)).2 (by rw [show (65536 : Nat) ^ 9 = 22300745198530623141535718272648361505980416 from rfl]; omega)
  have hab : (a + b) / 2 < 340282366920938463463374607431768211456 := by omega
  have HDa := Lib.hid hDa
  have HDb := Lib.hid hDb
  have HPl : Hid (∀ u v W, SlI .u64 W u (digs a) → SlI .u64 W v (digs b) → Calls Tryd.prog 84 #[u, v] W fun e w' => ∃ v', e = .returned v' ∧ SlI .u64 w' v' (digs (a + b)) ∧ Below W.heap.size W w') := Lib.hid (fun u v W hu hv => by
    have := Plus_any u v (digs a) (digs b) W hu hv (digs_dg a) (digs_dg b) (by omega) (by omega)
    rw [dv_digs, dv_digs] at this
    exact this)
  obtain ⟨s, hs⟩ : ∃ s, a + b = s := ⟨_, rfl⟩
  rw [hs] at hsl hab HPl ⊢
  obtain ⟨n, hn⟩ : ∃ n, (digs s).length = n := ⟨_, rfl⟩
  rw [hn] at hsl
  obtain ⟨mh, ml, hmw, -⟩ := wv_open (s / 2) hab
  rw [hmw]
  have hN : ∀ v W, SlI .u64 W v (shO (digs s) n) → Calls Tryd.prog 74 #[v] W fun e w' => e = .returned (.tuple #[.agg #[.int .u64 (mh : Int), .int .u64 (ml : Int)], .bool true]) ∧ Below W.heap.size W w' := fun v W hv => by
    have := Number_any v _ W hv (shO_dg (digs_dg s) n)
    rw [← hn, shO_half (digs_dg s), dv_digs] at this
    unfold numV at this
    rw [if_pos hab, hmw] at this
    exact this
  have HN := Lib.hid (And.intro hN hn)
  have hB : Below w.heap.size w (((w.alloc (.cells #[.int .u64 (ah : Int), .int .u64 (al : Int)] 35)).alloc (.cells #[.int .u64 (bh : Int), .int .u64 (bl : Int)] 35)).alloc (.cells #[.int .u64 0, .int .u64 0] 35)) := later_trans (later_alloc _ _) (later_trans (later_alloc _ _) (later_alloc _ _))
  have hx0 := box_alloc (box_alloc (box_new w #[.int .u64 (ah : Int), .int .u64 (al : Int)] 35) (.cells #[.int .u64 (bh : Int), .int .u64 (bl : Int)] 35)) (.cells #[.int .u64 0, .int .u64 0] 35)
  have hx1 : (((w.alloc (.cells #[.int .u64 (ah : Int), .int .u64 (al : Int)] 35)).alloc (.cells #[.int .u64 (bh : Int), .int .u64 (bl : Int)] 35)).alloc (.cells #[.int .u64 0, .int .u64 0] 35)).heap[w.heap.size + 1]? = some (.cells #[.int .u64 (bh : Int), .int .u64 (bl : Int)] 35 (0, 0)) := box_alloc (by have h := box_new (w.alloc (.cells #[.int .u64 (ah : Int), .int .u64 (al : Int)] 35)) #[.int .u64 (bh : Int), .int .u64 (bl : Int)] 35; rw [World.size_alloc] at h; exact h) _
  have hx2 : (((w.alloc (.cells #[.int .u64 (ah : Int), .int .u64 (al : Int)] 35)).alloc (.cells #[.int .u64 (bh : Int), .int .u64 (bl : Int)] 35)).alloc (.cells #[.int .u64 0, .int .u64 0] 35)).heap[w.heap.size + 1 + 1]? = some (.cells #[.int .u64 0, .int .u64 0] 35 (0, 0)) := by
    have h := box_new ((w.alloc (.cells #[.int .u64 (ah : Int), .int .u64 (al : Int)] 35)).alloc (.cells #[.int .u64 (bh : Int), .int .u64 (bl : Int)] 35)) #[.int .u64 0, .int .u64 0] 35
    rw [World.size_alloc, World.size_alloc] at h; exact h
  have H0 := Lib.hid (And.intro hB (And.intro hx0 (And.intro hx1 hx2)))
  clear hDa hDb hB hx0 hx1 hx2 ha hb h1 h2 h3 h4 hal hbl hs hN hmw hab
  go_enter Tryd.func67, Tryd.ntmps67
  go_upto_region 1 with fail
  obtain ⟨W1, hW1⟩ : ∃ W, ((w.alloc (.cells #[.int .u64 (ah : Int), .int .u64 (al : Int)] 35)).alloc (.cells #[.int .u64 (bh : Int), .int .u64 (bl : Int)] 35)).alloc (.cells #[.int .u64 0, .int .u64 0] 35) = W := ⟨_, rfl⟩
  rw [hW1] at H0
  try rw [hW1]
  clear hW1
  obtain ⟨c0, c1, -, -, lc⟩ := two_of H0.out.2.1
  obtain ⟨d0, d1, -, -, ld⟩ := two_of H0.out.2.2.1
  have HKeep : Hid (∀ W, Below W1.heap.size W1 W → (W.cell? ⟨w.heap.size, 0, none⟩ = some (.int .u64 (ah : Int)) ∧ W.cell? ⟨w.heap.size, 1, none⟩ = some (.int .u64 (al : Int))) ∧ W.cell? ⟨w.heap.size + 1, 0, none⟩ = some (.int .u64 (bh : Int)) ∧ W.cell? ⟨w.heap.size + 1, 1, none⟩ = some (.int .u64 (bl : Int))) := Lib.hid (fun W hb => ⟨⟨cell_next hb c0, cell_next hb c1⟩, cell_next hb d0, cell_next hb d1⟩)
  go_cut [5] (fun s5 wx => (∃ p q, s5 = .slice p n q) ∧ SlI .u64 wx s5 (digs s) ∧ Below W1.heap.size W1 wx)
  case first =>
    go_region_held3 (fun W => (W.cell? ⟨w.heap.size, 0, none⟩ = some (.int .u64 (ah : Int)) ∧ W.cell? ⟨w.heap.size, 1, none⟩ = some (.int .u64 (al : Int))) ∧ W.cell? ⟨w.heap.size + 1, 0, none⟩ = some (.int .u64 (bh : Int)) ∧ W.cell? ⟨w.heap.size + 1, 1, none⟩ = some (.int .u64 (bl : Int)))
      (first | exact HKeep.out _ (later_refl _) | exact HKeep.out _ (later_drew _) | exact HKeep.out _ hb3 | exact HKeep.out _ hb2 | exact HKeep.out _ hbA | exact HKeep.out _ hbB | assumption)
      (first
        | (go_at_call 84; have hq := hb2; (first | (refine (HPl.out _ _ _ (hvA.later hB1) hvB).mono ?_) | (refine (HPl.out _ _ _ hvA (hvB.later hA1)).mono ?_)); rintro e wP ⟨vP, rfl, hvP, hP1⟩; have hb3 : Below W1.heap.size W1 wP := (later_trans hb2 hP1))
        | (go_at_call 69; have hq := hbB; with_reducible refine (HDa.out _).mono ?_; rintro e wA ⟨vA, rfl, hvA, hA1⟩; have hb2 : Below W1.heap.size W1 wA := (later_trans hbB hA1))
        | (go_at_call 69; have hq := hbA; with_reducible refine (HDb.out _).mono ?_; rintro e wB ⟨vB, rfl, hvB, hB1⟩; have hb2 : Below W1.heap.size W1 wB := (later_trans hbA hB1))
        | (go_at_call 69; with_reducible refine (HDa.out _).mono ?_; rintro e wA ⟨vA, rfl, hvA, hA1⟩; have hbA : Below W1.heap.size W1 wA := (later_trans (later_drew _) hA1))
        | (go_at_call 69; with_reducible refine (HDb.out _).mono ?_; rintro e wB ⟨vB, rfl, hvB, hB1⟩; have hbB : Below W1.heap.size W1 wB := (later_trans (later_drew _) hB1)))
    all_goals (go_wp2_with fail)
    all_goals go_meet
    all_goals (obtain ⟨pP, qP, eP, -⟩ := hvP.open; rw [HN.out.2] at eP)
    all_goals exact ⟨⟨pP, qP, eP⟩, hvP, hb3⟩
  case rest =>
    obtain ⟨⟨pA, qA, rfl⟩, hvA, hbx⟩ := hcut
    have HV := Lib.hid (And.intro hvA hbx)
    have hszW := (later_trans H0.out.1 hbx).size
    clear hvA hbx c0 c1 d0 d1
    go_wp2_with fail
    go_loopw [6, 19] (fun o i wr => ∃ k : Nat, k ≤ n ∧ i = .int .i64 k ∧ wr.ownsRow wc.heap.size 33 1 o k ((shO (digs s) k).map (.int .u64)) ∧ Below wc.heap.size wc wr) (fun _ i _ => n - (intOf i).toNat)
    case atStart => exact ⟨0, Nat.zero_le _, rfl, World.ownsRow_nil _ _ _ _, later_refl _⟩
    case round =>
      obtain ⟨k, hk, rfl, ho, hb⟩ := hrel
      obtain ⟨ao, co, rfl⟩ := owns_shape2 ho
      by_cases hlt : k < n
      · have hkl : k < (digs s).length := by rw [HN.out.2]; exact hlt
        obtain ⟨_, _, e1, _, _, _, f4⟩ := (SlI.later HV.out.1 hb).open
        obtain ⟨b1, o1, e2, _, fc⟩ := f4 (by omega)
        injection e1 with e1a e1b e1c
        subst e1a e1c
        subst e2
        have c1 := fc k hkl
        rw [← getD_at hkl] at c1
        have hxb := (digs_dg s).getD k
        have hyb := (digs_dg s).getD (k + 1)
        have hsO : shO (digs s) (k + 1) = shO (digs s) k ++ [(digs s).getD k 0 / 2 + (digs s).getD (k + 1) 0 % 2 * 32768] := rfl
        have hc2 : k + 1 < n → wr.cell? ⟨b1, o1 + (k + 1), none⟩ = some (.int .u64 ((digs s).getD (k + 1) 0)) := fun g => by
          have g2 : k + 1 < (digs s).length := by rw [HN.out.2]; exact g
          rw [getD_at g2]; exact fc (k + 1) g2
        have hy0 : ¬ k + 1 < n → (digs s).getD (k + 1) 0 = 0 := fun g => by simp [List.getD, List.getElem?_eq_none (show (digs s).length ≤ k + 1 by rw [HN.out.2]; omega)]
        obtain ⟨x, hx⟩ : ∃ x, (digs s).getD k 0 = x := ⟨_, rfl⟩
        obtain ⟨y, hy⟩ : ∃ x, (digs s).getD (k + 1) 0 = x := ⟨_, rfl⟩
        rw [hx] at c1 hxb hsO
        rw [hy] at hyb hsO hc2 hy0
        obtain ⟨u, hu⟩ : ∃ u, y % 2 = u := ⟨_, rfl⟩
        obtain ⟨z, hz⟩ : ∃ z, x / 2 = z := ⟨_, rfl⟩
        have htm : y.tmod 2 = u := by rw [Int.tmod_eq_emod_of_nonneg (by omega)]; exact hu
        have htd : x.tdiv 2 = z := by rw [Int.tdiv_eq_ediv_of_nonneg (by omega)]; exact hz
        have hwu : IntKind.u64.wrap u = u := wrap_u64 (by omega) (by omega)
        have hwz : IntKind.u64.wrap z = z := wrap_u64 (by omega) (by omega)
        have hwu2 : IntKind.u64.wrap (u * 32768) = u * 32768 := wrap_u64 (by omega) (by omega)
        have hws : IntKind.u64.wrap (z + u * 32768) = z + u * 32768 := wrap_u64 (by omega) (by omega)
        have hwk : IntKind.i64.wrap ((k : Int) + 1) = (k : Int) + 1 := wrap_i64 (by omega) (by omega)
        have hbs := hb.size
        have HS := Lib.hid (And.intro hsO (And.intro hu (And.intro hz hb)))
        by_cases hg : k + 1 < n
        · have hgI : (k : Int) + 1 < n := by omega
          have c2 := hc2 hg
          clear hsO hu hz hb fc f4 hc2 hy0 hx hy e1b hkl
          go_wp2_with (at_builtin; refine wpList_append_own _ rfl (.tmp 35) (.tmp 41) 81 rfl wc.heap.size 33 i0 _ 1 8 Tryd.underlying81 hi hz0 hz1 hz2 rfl (by decide) _ _ _ rfl (ho.alloc _) ⟨_, 0, none⟩ 1 1 [.int .u64 (z + u * 32768)] rfl rfl (cells_new _ _ _) (by simp [Value.oneCell']) (by unfold maxLen; omega) (by omega) (by simp; omega) ?_; intro v7 w7 hown7 hgrow7 _; obtain ⟨g7, cap7, rfl⟩ := ownsRow_succ hown7)
          have hA := later_trans HS.out.2.2.2 (later_alloc _ (.cells #[.int .u64 (z + u * 32768)] 33))
          have hF : w7.ownsRow wc.heap.size 33 1 (.slice (some ⟨g7, 0, none⟩) (k + 1) cap7) (k + 1) ((shO (digs s) (k + 1)).map (.int .u64)) := by
            rw [HS.out.1, HS.out.2.1, HS.out.2.2.1, List.map_append]; exact hown7
          have HF := Lib.hid (And.intro hF (hA.grown hgrow7 hA.size (fun q e => owns_above ho q e)))
          clear hown7 hgrow7 hA hF ho
          go_roundw
          case rel => first | exact ⟨k + 1, by omega, by go_num, HF.out.1, HF.out.2⟩ | ((repeat apply Exists.intro); refine ⟨?_, rfl⟩; exact ⟨k + 1, by omega, by go_num, HF.out.1, HF.out.2⟩)
          case measure => simp [intOf]; omega
        · have hgI : ¬ (k : Int) + 1 < n := by omega
          have hy00 := hy0 hg
          obtain rfl : u = 0 := by rw [← hu, hy00]; rfl
          have hwz0 : z + 0 * 32768 = z := by omega
          rw [hwz0] at hws
          clear hsO hu hz hb fc f4 hc2 hy0 hx hy e1b hkl hy00
          go_wp2_with (at_builtin; refine wpList_append_own _ rfl (.tmp 35) (.tmp 41) 81 rfl wc.heap.size 33 i0 _ 1 8 Tryd.underlying81 hi hz0 hz1 hz2 rfl (by decide) _ _ _ rfl (ho.alloc _) ⟨_, 0, none⟩ 1 1 [.int .u64 z] rfl rfl (cells_new _ _ _) (by simp [Value.oneCell']) (by unfold maxLen; omega) (by omega) (by simp; omega) ?_; intro v7 w7 hown7 hgrow7 _; obtain ⟨g7, cap7, rfl⟩ := ownsRow_succ hown7)
          have hA := later_trans HS.out.2.2.2 (later_alloc _ (.cells #[.int .u64 z] 33))
          have hF : w7.ownsRow wc.heap.size 33 1 (.slice (some ⟨g7, 0, none⟩) (k + 1) cap7) (k + 1) ((shO (digs s) (k + 1)).map (.int .u64)) := by
            rw [HS.out.1, HS.out.2.1, HS.out.2.2.1, hwz0, List.map_append]; exact hown7
          have HF := Lib.hid (And.intro hF (hA.grown hgrow7 hA.size (fun q e => owns_above ho q e)))
          clear hown7 hgrow7 hA hF ho
          go_roundw
          case rel => first | exact ⟨k + 1, by omega, by go_num, HF.out.1, HF.out.2⟩ | ((repeat apply Exists.intro); refine ⟨?_, rfl⟩; exact ⟨k + 1, by omega, by go_num, HF.out.1, HF.out.2⟩)
          case measure => simp [intOf]; omega
      · obtain rfl : k = n := by omega
        have hS : SlI .u64 wr (.slice ao k co) (shO (digs s) k) := SlI.of_owns ho (shO_dg (digs_dg s) k).wf
        have HNm := Lib.hid (And.intro (HN.out.1 _ wr hS) (later_trans HV.out.2 hb))
        clear ho hb hS
        go_wp2_with fail
        refine HNm.out.1.mono ?_
        rintro e w5 ⟨rfl, hb5⟩
        have hb5' := later_trans HNm.out.2 (later_trans hb5 (later_alloc w5 (.cells #[.int .u64 (mh : Int), .int .u64 (ml : Int)] 35)))
        obtain ⟨x0, x1, -, -, lx⟩ := two_of (box_new w5 #[.int .u64 (mh : Int), .int .u64 (ml : Int)] 35)
        obtain ⟨r0, r1, f0, f1, lr⟩ := two_of (kept hb5' H0.out.2.2.2)
        have HB5 := Lib.hid (later_trans H0.out.1 hb5')
        clear hb5 hb5'
        go_wp2_with fail
        refine bodyPost_ret (v := .agg #[.int .u64 (mh : Int), .int .u64 (ml : Int)]) (by simp [results, Tryd.results67, go_sem, r0, r1]) rfl ?_
        exact ⟨rfl, below_set (below_set HB5.out (by omega)) (by omega)⟩

set_option maxHeartbeats 400000 in
theorem one01_any (n : Int) (w : World) (h0 : 0 ≤ n) (h1 : n ≤ 9223372036854775807) :
    Calls Tryd.prog 70 #[.int .i64 n] w fun e w' => e = .returned (.int .u64 (max n 1)) ∧ w' = w := by
  by_cases h : n < 1
  · rw [show max n 1 = 1 from by omega]
    go_enter Tryd.func70, Tryd.ntmps70
    go_wp2
    go_ret
    exact ⟨rfl, rfl⟩
  · rw [show max n 1 = n from by omega]
    have hw : IntKind.u64.wrap n = n := wrap_u64 (by omega) (by omega)
    go_enter Tryd.func70, Tryd.ntmps70
    go_wp2
    go_ret
    exact ⟨rfl, rfl⟩
end
end Go.Proofs.YtdmfhlfhlflakaaDoor
