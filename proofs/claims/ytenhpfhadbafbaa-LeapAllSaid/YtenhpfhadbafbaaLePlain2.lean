/-
  Leaps through rows, plainly: what is common from places on, and how many leaps all of it takes.
-/
import Derived.Test.YtenhpfhadbafbaaLePlain
namespace Go.Proofs.Ytenhpfhadbafbaa
open Go.RowKit
set_option linter.unusedVariables false

/-- What all rows have from places on. -/
def commonFrom (ls : List (List Int)) (a : List Nat) : List Int := ((rowN ls 0).drop (atN a 0)).filter (fun n => decide (∀ r, r < ls.length → n ∈ (rowN ls r).drop (atN a r)))
theorem mem_common {ls : List (List Int)} {a : List Nat} (hk : 0 < ls.length) {n : Int} : n ∈ commonFrom ls a ↔ ∀ r, r < ls.length → n ∈ (rowN ls r).drop (atN a r) := by
  unfold commonFrom
  rw [List.mem_filter]
  simp only [decide_eq_true_eq]
  exact ⟨fun h => h.2, fun h => ⟨h 0 hk, h⟩⟩
theorem rises_pw {l : List Int} (h : risesB l = true) : l.Pairwise (· < ·) := by simpa [risesB] using h
theorem common_pw {ls : List (List Int)} {a : List Nat} (h : risesB (rowN ls 0) = true) : (commonFrom ls a).Pairwise (· < ·) :=
  List.Pairwise.sublist ((List.filter_sublist).trans (List.drop_sublist _ _)) (rises_pw h)
/-- All rows stand at the least key that they have. -/
structure LeapY (ls : List (List Int)) (a0 ats : List Nat) (key : Int) (t : Nat) : Prop where
  n : ats.length = ls.length
  ge : ∀ r, r < ls.length → atN a0 r ≤ atN ats r
  at_ : ∀ r, r < ls.length → atN ats r < (rowN ls r).length ∧ valN ls ats r = key
  upto : ∀ r, r < ls.length → ∀ p, atN a0 r ≤ p → p < atN ats r → (rowN ls r).getD p 0 < key
  low : ∀ n, (∀ r, r < ls.length → n ∈ (rowN ls r).drop (atN a0 r)) → key ≤ n
  count : Counts ls a0 ats t
/-- A row has nothing left. -/
structure LeapZ (ls : List (List Int)) (a0 ats : List Nat) (t : Nat) : Prop where
  n : ats.length = ls.length
  ge : ∀ r, r < ls.length → atN a0 r ≤ atN ats r
  le : ∀ r, r < ls.length → atN ats r ≤ (rowN ls r).length
  none : ∀ n, ¬ ∀ r, r < ls.length → n ∈ (rowN ls r).drop (atN a0 r)
  count : Counts ls a0 ats t
theorem LeapI.yes {ls : List (List Int)} {a0 ats : List Nat} {key : Int} {same t : Nat} (h : LeapI ls a0 ats key same t) (hs : same = ls.length) : LeapY ls a0 ats key t :=
  ⟨h.n, h.ge, fun r hr => leap_done h hs hr, h.upto, h.low, h.count⟩
theorem LeapI.no {ls : List (List Int)} {a0 ats : List Nat} {key : Int} {same t r p : Nat} (h : LeapI ls a0 ats key same t) (hk : 0 < ls.length) (hs : same < ls.length) (hr : r = t % ls.length) (hp : p = place (rowN ls r) (atN ats r) (geB key)) (hpl : ¬ p < (rowN ls r).length) : LeapZ ls a0 (ats.set r p) (t + 1) := by
  have hrk : r < ls.length := by rw [hr]; exact Nat.mod_lt _ hk
  have hge : atN ats r ≤ p := by rw [hp]; exact place_ge
  have hge0 := h.ge r hrk
  have hset := fun r' => atN_set (ats := ats) (r := r) (p := p) (by rw [h.n]; exact hrk) r'
  refine ⟨by rw [List.length_set]; exact h.n, fun r' hr' => ?_, fun r' hr' => ?_, leap_fail h hk hs hr hp hpl, leap_counts h hk hs hr hp⟩
  · rw [hset]; split
    · rename_i e; subst e; omega
    · exact h.ge r' hr'
  · rw [hset]; split
    · rename_i e; subst e; rw [hp]; exact place_le (h.le r hrk)
    · exact h.le r' hr'
theorem common_no {ls : List (List Int)} {a0 ats : List Nat} {t : Nat} (h : LeapZ ls a0 ats t) (hk : 0 < ls.length) : commonFrom ls a0 = [] := by
  cases hc : commonFrom ls a0 with
  | nil => rfl
  | cons x l => exact absurd ((mem_common hk (n := x)).1 (by rw [hc]; simp)) (h.none x)
theorem common_yes {ls : List (List Int)} {a0 ats : List Nat} {key : Int} {t : Nat} (h : LeapY ls a0 ats key t) (hk : 0 < ls.length) (hrise : risesB (rowN ls 0) = true) : commonFrom ls a0 = key :: commonFrom ls (ats.set 0 (atN ats 0 + 1)) := by
  have hset := fun r' => atN_set (ats := ats) (r := 0) (p := atN ats 0 + 1) (by rw [h.n]; exact hk) r'
  have hk0 := h.at_ 0 hk
  refine rising_ext (common_pw hrise) (List.pairwise_cons.2 ⟨fun n hn => ?_, common_pw hrise⟩) (fun n => ?_)
  · have := (mem_common hk).1 hn 0 hk
    rw [hset, if_pos rfl] at this
    obtain ⟨i, i1, i2, i3⟩ := mem_drop_at.1 this
    have hlt := rises_lt hrise (i := atN ats 0) (j := i) (by omega) i2
    have e1 := hk0.2
    unfold valN at e1
    rw [getD_at hk0.1] at e1
    rw [getD_at i2] at i3
    omega
  · rw [List.mem_cons, mem_common hk, mem_common hk]
    constructor
    · intro hn
      have hlow := h.low n hn
      by_cases hnk : n = key
      · exact .inl hnk
      · refine .inr fun r hr => ?_
        obtain ⟨i, i1, i2, i3⟩ := mem_drop_at.1 (hn r hr)
        have hge : atN ats r ≤ i := by
          by_cases hi : i < atN ats r
          · have := h.upto r hr i i1 hi; omega
          · omega
        rw [hset]
        refine mem_drop_at.2 ⟨i, ?_, i2, i3⟩
        split
        · rename_i e
          subst e
          by_cases hi : i = atN ats 0
          · exact absurd (by rw [← i3, hi]; exact hk0.2) hnk
          · omega
        · exact hge
    · rintro (rfl | hn) r hr
      · have := h.at_ r hr
        exact mem_drop_at.2 ⟨atN ats r, h.ge r hr, this.1, this.2⟩
      · obtain ⟨i, i1, i2, i3⟩ := mem_drop_at.1 (hn r hr)
        have := h.ge r hr
        rw [hset] at i1
        refine mem_drop_at.2 ⟨i, ?_, i2, i3⟩
        split at i1
        · rename_i e; subst e; omega
        · omega
/-- Between two keys: D keys are told, T leaps made. -/
structure KeyI (ls : List (List Int)) (a : List Nat) (D T : Nat) : Prop where
  n : a.length = ls.length
  le : ∀ r, r < ls.length → atN a r ≤ (rowN ls r).length
  old : (D = 0 ∧ T = 0) ∨ (0 < D ∧ ∃ b K, a = b.set 0 (atN b 0 + 1) ∧ b.length = ls.length ∧ (∀ r, r < ls.length → atN b r < (rowN ls r).length ∧ valN ls b r = K) ∧ ∀ j, j < ls.length → D ≤ atN b j + 1 ∧ T ≤ ls.length * (atN b j + 1 + D))
theorem counts_most {ls : List (List Int)} {a0 ats : List Nat} {t j : Nat} (h : Counts ls a0 ats t) (hj : j < ls.length) : t ≤ (atN ats j - atN a0 j + 1 - leapE ls a0 j) * ls.length + j := by
  by_cases hc : t ≤ (atN ats j - atN a0 j + 1 - leapE ls a0 j) * ls.length + j
  · exact hc
  · have := h j hj (atN ats j - atN a0 j + 1 - leapE ls a0 j) (by omega)
    have := leapE_le ls a0 j
    omega
theorem mul_le_more {k x y : Nat} (h : x ≤ y) : k * x ≤ k * y := Nat.mul_le_mul_left k h
/-- How many leaps there are by now. -/
theorem key_leaps {ls : List (List Int)} {a ats : List Nat} {D T t : Nat} (h : KeyI ls a D T) (hc : Counts ls a ats t) (hk : 0 < ls.length) (hge : ∀ r, r < ls.length → atN a r ≤ atN ats r) (hrise : risesB (rowN ls 0) = true) (h0 : atN a 0 < (rowN ls 0).length) : ∀ j, j < ls.length → T + t ≤ ls.length * (atN ats j + 2 + D) := by
  intro j hj
  have h1 := counts_most hc hj
  have hgj := hge j hj
  rcases h.old with ⟨rfl, rfl⟩ | ⟨hD, b, K, hab, hbn, hb, hT⟩
  · have h2 : (atN ats j - atN a j + 1 - leapE ls a j) * ls.length ≤ (atN ats j + 1) * ls.length := Nat.mul_le_mul_right _ (by omega)
    have e : ls.length * (atN ats j + 2 + 0) = (atN ats j + 1) * ls.length + ls.length := by
      rw [show atN ats j + 2 + 0 = atN ats j + 1 + 1 from by omega, Nat.mul_add, Nat.mul_one, Nat.mul_comm]
    omega
  · have hset := fun r' => atN_set (ats := b) (r := 0) (p := atN b 0 + 1) (by rw [hbn]; exact hk) r'
    obtain ⟨hT1, hT2⟩ := hT j hj
    have hb0 := hb 0 hk
    have ha0 : atN a 0 = atN b 0 + 1 := by rw [hab, hset, if_pos rfl]
    have hy : ∃ y, atN ats j = atN b j + y ∧ (atN ats j - atN a j + 1 - leapE ls a j) ≤ y := by
      by_cases hj0 : j = 0
      · subst hj0
        refine ⟨atN ats 0 - atN b 0, by omega, by omega⟩
      · have haj : atN a j = atN b j := by rw [hab, hset, if_neg (fun e => hj0 e.symm)]
        have hbj := hb j hj
        have hE : leapE ls a j = 1 := by
          unfold leapE
          refine if_pos ⟨hj0, ?_, by rw [haj]; exact hbj.1⟩
          have e1 : valN ls a j = K := by unfold valN; rw [haj]; exact hbj.2
          rw [e1, ← hb0.2]
          unfold valN
          rw [getD_at hb0.1, getD_at h0]
          exact rises_lt hrise (by omega) h0
        exact ⟨atN ats j - atN b j, by omega, by omega⟩
    obtain ⟨y, hy1, hy2⟩ := hy
    have h2 : (atN ats j - atN a j + 1 - leapE ls a j) * ls.length ≤ y * ls.length := Nat.mul_le_mul_right _ hy2
    have e : ls.length * (atN ats j + 2 + D) = ls.length * (atN b j + 1 + D) + y * ls.length + ls.length := by
      rw [show atN ats j + 2 + D = (atN b j + 1 + D) + y + 1 from by omega, Nat.mul_add, Nat.mul_add, Nat.mul_one, Nat.mul_comm ls.length y]
    omega
theorem key_yes {ls : List (List Int)} {a ats : List Nat} {D T t : Nat} {key : Int} (h : KeyI ls a D T) (hY : LeapY ls a ats key t) (hk : 0 < ls.length) (hrise : ∀ r, r < ls.length → risesB (rowN ls r) = true) (h0 : atN a 0 < (rowN ls 0).length) : KeyI ls (ats.set 0 (atN ats 0 + 1)) (D + 1) (T + t) := by
  have hset := fun r' => atN_set (ats := ats) (r := 0) (p := atN ats 0 + 1) (by rw [hY.n]; exact hk) r'
  have hl := key_leaps h hY.count hk hY.ge (hrise 0 hk) h0
  refine ⟨by rw [List.length_set]; exact hY.n, fun r hr => ?_, .inr ⟨by omega, ats, key, rfl, hY.n, hY.at_, fun j hj => ⟨?_, ?_⟩⟩⟩
  · have := (hY.at_ r hr).1
    rw [hset]; split
    · rename_i e; subst e; omega
    · omega
  · rcases h.old with ⟨rfl, rfl⟩ | ⟨hD, b, K, hab, hbn, hb, hT⟩
    · omega
    · have hset' := fun r' => atN_set (ats := b) (r := 0) (p := atN b 0 + 1) (by rw [hbn]; exact hk) r'
      have hb0 := hb 0 hk
      have hT1 := (hT j hj).1
      have hbj := hb j hj
      have ha0 : atN a 0 = atN b 0 + 1 := by rw [hab, hset', if_pos rfl]
      have hg0 := hY.ge 0 hk
      have hgj := hY.ge j hj
      have hk0 := hY.at_ 0 hk
      have hkj := hY.at_ j hj
      have hlt : K < key := by
        rw [← hb0.2, ← hk0.2]
        unfold valN
        rw [getD_at hb0.1, getD_at hk0.1]
        exact rises_lt (hrise 0 hk) (by omega) hk0.1
      have hab2 : atN b j ≤ atN ats j := by
        by_cases hj0 : j = 0
        · subst hj0; omega
        · have haj : atN a j = atN b j := by rw [hab, hset', if_neg (fun e => hj0 e.symm)]
          omega
      have hne : atN b j ≠ atN ats j := fun e => by
        have e1 := hbj.2
        have e2 := hkj.2
        unfold valN at e1 e2
        rw [e] at e1
        omega
      omega
  · have := hl j hj
    rw [show atN ats j + 1 + (D + 1) = atN ats j + 2 + D from by omega]
    exact this
theorem key_most {ls : List (List Int)} {a : List Nat} {D T : Nat} (h : KeyI ls a D T) : ∀ j, j < ls.length → D ≤ (rowN ls j).length ∧ T ≤ ls.length * (2 * ((rowN ls j).length + 1)) := by
  intro j hj
  rcases h.old with ⟨rfl, rfl⟩ | ⟨hD, b, K, hab, hbn, hb, hT⟩
  · exact ⟨by omega, by omega⟩
  · have h1 := (hb j hj).1
    obtain ⟨h2, h3⟩ := hT j hj
    have := mul_le_more (k := ls.length) (show atN b j + 1 + D ≤ 2 * ((rowN ls j).length + 1) by omega)
    exact ⟨by omega, by omega⟩
theorem key_no {ls : List (List Int)} {a ats : List Nat} {D T t : Nat} (h : KeyI ls a D T) (hZ : LeapZ ls a ats t) (hk : 0 < ls.length) (hrise : risesB (rowN ls 0) = true) (h0 : 0 < D → atN a 0 < (rowN ls 0).length) : ∀ j, j < ls.length → T + t ≤ ls.length * (2 * ((rowN ls j).length + 1)) := by
  intro j hj
  have h1 := hZ.le j hj
  rcases h.old with ⟨rfl, rfl⟩ | hD
  · have h2 := counts_most hZ.count hj
    have h3 : (atN ats j - atN a j + 1 - leapE ls a j) * ls.length ≤ ((rowN ls j).length + 1) * ls.length := Nat.mul_le_mul_right _ (by omega)
    have e : ls.length * (2 * ((rowN ls j).length + 1)) = ((rowN ls j).length + 1) * ls.length + ((rowN ls j).length + 1) * ls.length := by
      rw [Nat.two_mul, Nat.mul_add, Nat.mul_comm]
    have h4 : 1 * ls.length ≤ ((rowN ls j).length + 1) * ls.length := Nat.mul_le_mul_right _ (by omega)
    omega
  · have hl := key_leaps h hZ.count hk hZ.ge hrise (h0 hD.1) j hj
    have hD2 := (key_most h j hj).1
    have := mul_le_more (k := ls.length) (show atN ats j + 2 + D ≤ 2 * ((rowN ls j).length + 1) by omega)
    omega
theorem lg_mono {a b : Nat} (h : a ≤ b) (h0 : 0 < a) : lg (a : Int) ≤ lg (b : Int) :=
  lg_ge (Nat.le_trans (by have := Nat.log2_self_le (n := a) (by omega); simpa [lg] using this) h)
/-- The bound. -/
def boundOf (k s m : Nat) : Nat := 4 * k * (1 + s) * (1 + lg (1 + m : Int))
theorem bound_ok {k s m T looks : Nat} (hT : T ≤ k * (2 * (s + 1))) (hl : looks ≤ (2 + 2 * lg (1 + m : Int)) * T) : looks ≤ boundOf k s m := by
  refine Nat.le_trans hl (Nat.le_trans (Nat.mul_le_mul_left _ hT) ?_)
  unfold boundOf
  obtain ⟨g, hg⟩ : ∃ g, lg (1 + m : Int) = g := ⟨_, rfl⟩
  rw [hg]
  have e : (2 + 2 * g) * (k * (2 * (s + 1))) = 4 * k * (1 + s) * (1 + g) := by
    rw [show 2 + 2 * g = 2 * (1 + g) from by omega, show s + 1 = 1 + s from by omega, show 4 = 2 * 2 from rfl]
    generalize 1 + g = b
    generalize 1 + s = a
    ac_rfl
  rw [e]
  exact Nat.le_refl _
end Go.Proofs.Ytenhpfhadbafbaa
