/-
  Leaps through rows, plainly: what each leap keeps, what it comes to, and how many leaps there are.
-/
import Derived.Test.YtenhpfhadbafbaaLeG2
namespace Go.Proofs.Ytenhpfhadbafbaa
open Go.RowKit
set_option linter.unusedVariables false

/-- A row; a place; what stands there. -/
def rowN (ls : List (List Int)) (r : Nat) : List Int := ls.getD r []
def atN (ats : List Nat) (r : Nat) : Nat := ats.getD r 0
def valN (ls : List (List Int)) (ats : List Nat) (r : Nat) : Int := (rowN ls r).getD (atN ats r) 0
theorem atN_set {ats : List Nat} {r p : Nat} (hr : r < ats.length) (r' : Nat) : atN (ats.set r p) r' = if r = r' then p else atN ats r' := by
  unfold atN
  by_cases h : r = r'
  · subst h; simp [List.getD, hr]
  · simp [List.getD, List.getElem?_set_ne h, h]
/-- Does a row stand ahead of what the first one stands at? -/
def leapE (ls : List (List Int)) (a0 : List Nat) (r : Nat) : Nat := if r ≠ 0 ∧ valN ls a0 r < valN ls a0 0 ∧ atN a0 r < (rowN ls r).length then 1 else 0
theorem leapE_le (ls : List (List Int)) (a0 : List Nat) (r : Nat) : leapE ls a0 r ≤ 1 := by unfold leapE; split <;> omega
/-- Each visit of a row but its first one lets it go on. -/
def Counts (ls : List (List Int)) (a0 ats : List Nat) (t : Nat) : Prop := ∀ r, r < ls.length → ∀ q, q * ls.length + r < t → q + leapE ls a0 r ≤ atN ats r - atN a0 r
structure LeapI (ls : List (List Int)) (a0 ats : List Nat) (key : Int) (same t : Nat) : Prop where
  n0 : a0.length = ls.length
  n : ats.length = ls.length
  ge : ∀ r, r < ls.length → atN a0 r ≤ atN ats r
  le : ∀ r, r < ls.length → atN ats r ≤ (rowN ls r).length
  few : same ≤ t
  most : same ≤ ls.length
  upto : ∀ r, r < ls.length → ∀ p, atN a0 r ≤ p → p < atN ats r → (rowN ls r).getD p 0 < key
  low : ∀ n, (∀ r, r < ls.length → n ∈ (rowN ls r).drop (atN a0 r)) → key ≤ n
  stand : ∀ u, u < t → t ≤ u + ls.length → atN ats (u % ls.length) < (rowN ls (u % ls.length)).length ∧ valN ls ats (u % ls.length) ≤ key ∧ (valN ls ats (u % ls.length) = key ↔ t ≤ u + same)
  first : 0 < t → valN ls a0 0 ≤ key
  count : Counts ls a0 ats t
theorem mem_drop_at {l : List Int} {i : Nat} {n : Int} : n ∈ l.drop i ↔ ∃ p, i ≤ p ∧ p < l.length ∧ l.getD p 0 = n := by
  rw [List.mem_iff_getElem?]
  constructor
  · rintro ⟨p, hp⟩
    rw [List.getElem?_drop] at hp
    obtain ⟨h1, h2⟩ := List.getElem?_eq_some_iff.1 hp
    exact ⟨i + p, by omega, h1, by rw [List.getD, hp]; rfl⟩
  · rintro ⟨p, h1, h2, h3⟩
    refine ⟨p - i, ?_⟩
    rw [List.getElem?_drop, show i + (p - i) = p from by omega, List.getElem?_eq_getElem h2]
    rw [List.getD, List.getElem?_eq_getElem h2] at h3
    exact congrArg some h3
theorem leapI_start {ls : List (List Int)} {a0 : List Nat} (h0 : a0.length = ls.length) (hle : ∀ r, r < ls.length → atN a0 r ≤ (rowN ls r).length) (hk : 0 < ls.length) (hw : ∀ n ∈ rowN ls 0, 0 ≤ n) : LeapI ls a0 a0 0 0 0 where
  n0 := h0
  n := h0
  ge := fun r _ => Nat.le_refl _
  le := hle
  few := Nat.le_refl _
  most := Nat.zero_le _
  upto := fun r _ p h1 h2 => by omega
  low := fun n h => hw n (List.mem_of_mem_drop (h 0 hk))
  stand := fun u h => by omega
  first := fun h => by omega
  count := fun r _ q h => by omega
theorem getD_at {l : List Int} {i : Nat} (h : i < l.length) : l.getD i 0 = l[i] := by simp [List.getD, List.getElem?_eq_getElem h]
theorem geB_false {key x : Int} (h : geB key x = false) : x < key := by simp [geB] at h; omega
theorem geB_true {key x : Int} (h : geB key x = true) : key ≤ x := by simpa [geB] using h

section
variable {ls : List (List Int)} {a0 ats : List Nat} {key : Int} {same t r p : Nat}
/-- What is ahead of the place is less than the key. -/
theorem leap_ahead (h : LeapI ls a0 ats key same t) (hr : r < ls.length) (hp : p = place (rowN ls r) (atN ats r) (geB key)) {i : Nat} (h1 : atN a0 r ≤ i) (h2 : i < p) : (rowN ls r).getD i 0 < key := by
  by_cases hi : i < atN ats r
  · exact h.upto r hr i h1 hi
  · have hple : p ≤ (rowN ls r).length := by rw [hp]; exact place_le (h.le r hr)
    have hil : i < (rowN ls r).length := by omega
    rw [getD_at hil]
    exact geB_false (place_not (i := atN ats r) (by omega) hil (by omega))
/-- A row that was visited goes on. -/
theorem leap_on (h : LeapI ls a0 ats key same t) (hk : 0 < ls.length) (hs : same < ls.length) (ht : ls.length ≤ t) (hr : r = t % ls.length) (hp : p = place (rowN ls r) (atN ats r) (geB key)) : atN ats r + 1 ≤ p := by
  have hrk : r < ls.length := by rw [hr]; exact Nat.mod_lt _ hk
  have e : (t - ls.length) % ls.length = r := by rw [hr]; exact (Nat.mod_eq_sub_mod ht).symm
  obtain ⟨s1, s2, s3⟩ := h.stand (t - ls.length) (by omega) (by omega)
  rw [e] at s1 s2 s3
  have hne : valN ls ats r ≠ key := fun e => by have := s3.1 e; omega
  have hlt : valN ls ats r < key := by omega
  have hge : atN ats r ≤ p := by rw [hp]; exact place_ge
  by_cases hpe : p = atN ats r
  · have h2 := place_at (xs := rowN ls r) (i := atN ats r) (p := geB key) (by rw [← hp, hpe]; exact s1)
    have h3 := geB_true h2
    have h4 : (rowN ls r)[place (rowN ls r) (atN ats r) (geB key)]'(by rw [← hp, hpe]; exact s1) = valN ls ats r := by
      unfold valN
      rw [getD_at s1]
      congr 1
      omega
    omega
  · omega
theorem leap_first (h : LeapI ls a0 ats key same t) (hk : 0 < ls.length) (ht : t < ls.length) (hr : r = t % ls.length) (hp : p = place (rowN ls r) (atN ats r) (geB key)) : leapE ls a0 r ≤ p - atN a0 r := by
  have hrk : r < ls.length := by rw [hr]; exact Nat.mod_lt _ hk
  have hrt : r = t := by rw [hr]; exact Nat.mod_eq_of_lt ht
  have hge : atN ats r ≤ p := by rw [hp]; exact place_ge
  have hge0 := h.ge r hrk
  unfold leapE
  split
  · rename_i hc
    obtain ⟨c1, c2, c3⟩ := hc
    have hf := h.first (by omega)
    by_cases hpe : p = atN a0 r
    · have hae : atN ats r = atN a0 r := by omega
      have hpl : place (rowN ls r) (atN ats r) (geB key) < (rowN ls r).length := by rw [← hp, hpe]; exact c3
      have h2 := geB_true (place_at hpl)
      have h4 : (rowN ls r)[place (rowN ls r) (atN ats r) (geB key)]'hpl = valN ls a0 r := by
        unfold valN
        rw [getD_at c3]
        congr 1
        omega
      omega
    · omega
  · omega
theorem leap_counts (h : LeapI ls a0 ats key same t) (hk : 0 < ls.length) (hs : same < ls.length) (hr : r = t % ls.length) (hp : p = place (rowN ls r) (atN ats r) (geB key)) : Counts ls a0 (ats.set r p) (t + 1) := by
  have hrk : r < ls.length := by rw [hr]; exact Nat.mod_lt _ hk
  have hge : atN ats r ≤ p := by rw [hp]; exact place_ge
  have hge0 := h.ge r hrk
  intro r' hr' q hq
  rw [atN_set (by rw [h.n]; exact hrk)]
  by_cases hlt : q * ls.length + r' < t
  · have := h.count r' hr' q hlt
    split
    · rename_i e; subst e; omega
    · exact this
  · have hqe : q * ls.length + r' = t := by omega
    have e : r = r' := by rw [hr, ← hqe, Nat.mul_add_mod', Nat.mod_eq_of_lt hr']
    rw [if_pos e]
    subst e
    cases q with
    | zero =>
      have htl : t < ls.length := by omega
      have := leap_first h hk htl hr hp
      omega
    | succ q =>
      rw [Nat.succ_mul] at hqe
      have h1 := h.count r hrk q (by omega)
      have h2 := leap_on h hk hs (by omega) hr hp
      omega
theorem mod_ne {k t u : Nat} (h1 : u < t) (h2 : t < u + k) : u % k ≠ t % k := by
  intro e
  have h3 := Nat.sub_mod_eq_zero_of_mod_eq e.symm
  rw [Nat.mod_eq_of_lt (by omega)] at h3
  omega
/-- A leap that comes to something. -/
theorem leap_step (h : LeapI ls a0 ats key same t) (hk : 0 < ls.length) (hs : same < ls.length) (hr : r = t % ls.length) (hp : p = place (rowN ls r) (atN ats r) (geB key)) (hrise : risesB (rowN ls r) = true) (hr0 : risesB (rowN ls 0) = true) (hpl : p < (rowN ls r).length) {n : Int} (hn : (rowN ls r).getD p 0 = n) :
    key ≤ n ∧ LeapI ls a0 (ats.set r p) n (if n = key then same + 1 else 1) (t + 1) := by
  have hrk : r < ls.length := by rw [hr]; exact Nat.mod_lt _ hk
  have hge : atN ats r ≤ p := by rw [hp]; exact place_ge
  have hge0 := h.ge r hrk
  have hkn : key ≤ n := by
    rw [← hn, getD_at hpl]
    have := geB_true (place_at (p := geB key) (xs := rowN ls r) (i := atN ats r) (by rw [← hp]; exact hpl))
    have e : (rowN ls r)[place (rowN ls r) (atN ats r) (geB key)]'(by rw [← hp]; exact hpl) = (rowN ls r)[p] := by congr 1; exact hp.symm
    omega
  have hset := fun r' => atN_set (ats := ats) (r := r) (p := p) (by rw [h.n]; exact hrk) r'
  have hsame : (if n = key then same + 1 else 1) ≤ t + 1 ∧ 1 ≤ (if n = key then same + 1 else 1) ∧ (if n = key then same + 1 else 1) ≤ ls.length := by
    have := h.few
    split <;> omega
  refine ⟨hkn, ⟨h.n0, by rw [List.length_set]; exact h.n, fun r' hr' => ?_, fun r' hr' => ?_, hsame.1, hsame.2.2, fun r' hr' i h1 h2 => ?_, fun m hm => ?_, fun u h1 h2 => ?_, fun _ => ?_, leap_counts h hk hs hr hp⟩⟩
  · rw [hset]; split
    · rename_i e; subst e; omega
    · exact h.ge r' hr'
  · rw [hset]; split
    · rename_i e; subst e; omega
    · exact h.le r' hr'
  · rw [hset] at h2
    split at h2
    · rename_i e; subst e
      have := leap_ahead h hrk hp h1 h2
      omega
    · have := h.upto r' hr' i h1 h2
      omega
  · have h1 := h.low m hm
    obtain ⟨i, i1, i2, i3⟩ := mem_drop_at.1 (hm r hrk)
    by_cases hi : i < p
    · have := leap_ahead h hrk hp i1 hi
      omega
    · have := rises_le hrise (i := p) (j := i) (by omega) i2
      rw [← hn, getD_at hpl, ← i3, getD_at i2]
      exact this
  · by_cases hu : u = t
    · subst hu
      rw [← hr]
      have e : valN ls (ats.set r p) r = n := by unfold valN; rw [hset, if_pos rfl]; exact hn
      rw [e, hset, if_pos rfl]
      exact ⟨hpl, Int.le_refl _, by constructor <;> intro <;> omega⟩
    · have hne : r ≠ u % ls.length := by rw [hr]; exact (mod_ne (by omega) (by omega)).symm
      obtain ⟨s1, s2, s3⟩ := h.stand u (by omega) (by omega)
      have e1 : atN (ats.set r p) (u % ls.length) = atN ats (u % ls.length) := by rw [hset, if_neg hne]
      have e : valN ls (ats.set r p) (u % ls.length) = valN ls ats (u % ls.length) := by unfold valN; rw [e1]
      rw [e, e1]
      refine ⟨s1, by omega, ?_⟩
      by_cases hnk : n = key
      · rw [if_pos hnk, hnk, s3]
        omega
      · rw [if_neg hnk]
        constructor <;> intro <;> omega
  · by_cases ht : 0 < t
    · have := h.first ht; omega
    · have ht0 : t = 0 := by omega
      subst ht0
      have e : r = 0 := by rw [hr]; exact Nat.zero_mod _
      subst e
      have e0 : atN a0 0 ≤ p := by omega
      unfold valN
      rw [← hn, getD_at hpl, getD_at (by omega)]
      exact rises_le hr0 e0 hpl
/-- No leap: nothing is common. -/
theorem leap_fail (h : LeapI ls a0 ats key same t) (hk : 0 < ls.length) (hs : same < ls.length) (hr : r = t % ls.length) (hp : p = place (rowN ls r) (atN ats r) (geB key)) (hpl : ¬ p < (rowN ls r).length) :
    (∀ n, ¬ ∀ r, r < ls.length → n ∈ (rowN ls r).drop (atN a0 r)) := by
  have hrk : r < ls.length := by rw [hr]; exact Nat.mod_lt _ hk
  intro n hn
  have h1 := h.low n hn
  obtain ⟨i, i1, i2, i3⟩ := mem_drop_at.1 (hn r hrk)
  have := leap_ahead h hrk hp i1 (by omega : i < p)
  omega
theorem turn_at {k : Nat} (hk : k ≤ t) (hr : r < k) : ∃ u, u < t ∧ t ≤ u + k ∧ u % k = r := by
  have h1 := Nat.div_add_mod t k
  have h2 := Nat.mod_lt t (show 0 < k by omega)
  obtain ⟨q, hq⟩ : ∃ q, t / k = q + 1 := ⟨t / k - 1, by have := Nat.div_pos hk (by omega : 0 < k); omega⟩
  rw [hq, Nat.mul_add, Nat.mul_one] at h1
  by_cases hc : r < t % k
  · refine ⟨k * q + k + r, by omega, by omega, ?_⟩
    rw [Nat.add_assoc, Nat.mul_add_mod, Nat.add_mod_left, Nat.mod_eq_of_lt hr]
  · exact ⟨k * q + r, by omega, by omega, by rw [Nat.mul_add_mod, Nat.mod_eq_of_lt hr]⟩
/-- All rows stand at the key. -/
theorem leap_done (h : LeapI ls a0 ats key same t) (hs : same = ls.length) (hr : r < ls.length) : atN ats r < (rowN ls r).length ∧ valN ls ats r = key := by
  obtain ⟨u, u1, u2, u3⟩ := turn_at (k := ls.length) (t := t) (by have := h.few; omega) hr
  obtain ⟨s1, s2, s3⟩ := h.stand u u1 u2
  rw [u3] at s1 s2 s3
  exact ⟨s1, s3.2 (by omega)⟩
end
/-- Two rising rows with the same members are the same. -/
theorem rising_ext : ∀ {l m : List Int}, l.Pairwise (· < ·) → m.Pairwise (· < ·) → (∀ n, n ∈ l ↔ n ∈ m) → l = m
  | [], [], _, _, _ => rfl
  | [], b :: m, _, _, h => absurd ((h b).2 (by simp)) (by simp)
  | a :: l, [], _, _, h => absurd ((h a).1 (by simp)) (by simp)
  | a :: l, b :: m, h1, h2, h => by
    obtain ⟨h1a, h1b⟩ := List.pairwise_cons.1 h1
    obtain ⟨h2a, h2b⟩ := List.pairwise_cons.1 h2
    have hab : a = b := by
      have e1 := (h a).1 (by simp)
      have e2 := (h b).2 (by simp)
      simp only [List.mem_cons] at e1 e2
      rcases e1 with e1 | e1
      · exact e1
      · rcases e2 with e2 | e2
        · exact e2.symm
        · have := h1a _ e2; have := h2a _ e1; omega
    subst hab
    rw [rising_ext h1b h2b (fun n => ?_)]
    constructor
    · intro hn
      have := (h n).1 (by simp [hn])
      simp only [List.mem_cons] at this
      rcases this with e | e
      · have := h1a _ hn; omega
      · exact e
    · intro hn
      have := (h n).2 (by simp [hn])
      simp only [List.mem_cons] at this
      rcases this with e | e
      · have := h2a _ hn; omega
      · exact e
end Go.Proofs.Ytenhpfhadbafbaa
