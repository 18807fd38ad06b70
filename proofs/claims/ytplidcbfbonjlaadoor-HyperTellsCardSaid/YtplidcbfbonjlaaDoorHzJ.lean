/-
  Join trees. Plain: no program in sight.
-/
import Derived.Test.YtplidcbfbonjlaaDoorHzT
namespace Go.Proofs.YtplidcbfbonjlaaDoor
set_option linter.unusedVariables false
set_option linter.unusedSimpArgs false

/-- One comes from a place to no place in so many steps. -/
def UpTo (P : List Int) : Nat → Int → Prop
  | 0, a => a = -1
  | n + 1, a => 0 ≤ a ∧ a < P.length ∧ UpTo P n (P.getD a.toNat 0)
theorem UpTo.uniq {P : List Int} : ∀ {n m : Nat} {a : Int}, UpTo P n a → UpTo P m a → n = m
  | 0, 0, _, _, _ => rfl
  | 0, m + 1, a, h, k => by have h' : a = -1 := h; have := k.1; omega
  | n + 1, 0, a, h, k => by have k' : a = -1 := k; have := h.1; omega
  | n + 1, m + 1, a, h, k => by rw [UpTo.uniq h.2.2 k.2.2]
theorem nodup_leN : ∀ {o l : List Nat}, o.Nodup → (∀ v ∈ o, v ∈ l) → o.length ≤ l.length
  | [], l, _, _ => Nat.zero_le _
  | a :: o, l, hn, hs => by
    obtain ⟨h1, h2⟩ := List.nodup_cons.1 hn
    have ha := hs a (List.mem_cons_self ..)
    have ih := nodup_leN (l := l.erase a) h2 fun v hv => by
      have hne : v ≠ a := fun e => h1 (e ▸ hv)
      exact (List.mem_erase_of_ne hne).2 (hs v (List.mem_cons_of_mem _ hv))
    rw [List.length_erase_of_mem ha] at ih
    have := List.length_pos_of_mem ha
    rw [List.length_cons]
    omega
/-- The way up. -/
def trail (P : List Int) : Nat → Int → List Nat
  | 0, _ => []
  | n + 1, a => a.toNat :: trail P n (P.getD a.toNat 0)
theorem trail_len (P : List Int) : ∀ (n : Nat) (a : Int), (trail P n a).length = n
  | 0, _ => rfl
  | n + 1, a => by unfold trail; rw [List.length_cons, trail_len P n]
theorem trail_mem {P : List Int} : ∀ {n : Nat} {a : Int}, UpTo P n a → ∀ x ∈ trail P n a, x < P.length ∧ ∃ m, m ≤ n ∧ 0 < m ∧ UpTo P m (x : Int)
  | 0, a, _, x, hx => by cases hx
  | n + 1, a, h, x, hx => by
    unfold trail at hx
    rcases List.mem_cons.1 hx with rfl | hx
    · refine ⟨by have := h.1; have := h.2.1; omega, n + 1, Nat.le_refl _, Nat.succ_pos _, ?_⟩
      rw [Int.toNat_of_nonneg h.1]
      exact h
    · obtain ⟨h1, m, h2, h3, h4⟩ := trail_mem h.2.2 x hx
      exact ⟨h1, m, by omega, h3, h4⟩
theorem trail_nodup {P : List Int} : ∀ {n : Nat} {a : Int}, UpTo P n a → (trail P n a).Nodup
  | 0, a, _ => List.nodup_nil
  | n + 1, a, h => by
    unfold trail
    refine List.nodup_cons.2 ⟨fun hm => ?_, trail_nodup h.2.2⟩
    obtain ⟨-, m, h2, -, h4⟩ := trail_mem h.2.2 _ hm
    rw [Int.toNat_of_nonneg h.1] at h4
    have := UpTo.uniq h h4
    omega
theorem UpTo.bound {P : List Int} {n : Nat} {a : Int} (h : UpTo P n a) : n ≤ P.length := by
  have h1 := nodup_leN (trail_nodup h) (l := List.range P.length) fun v hv => List.mem_range.2 (trail_mem h v hv).1
  rwa [trail_len, List.length_range] at h1
/-- From each place one comes to the root. -/
def Rooted (P : List Int) : Prop := ∀ i : Nat, i < P.length → ∃ n, UpTo P n (i : Int)
theorem Rooted.at {P : List Int} (h : Rooted P) {i : Nat} (hi : i < P.length) : P.getD i 0 = -1 ∨ (0 ≤ P.getD i 0 ∧ P.getD i 0 < P.length) := by
  obtain ⟨n, hn⟩ := h i hi
  cases n with
  | zero => have hn' : (i : Int) = -1 := hn; omega
  | succ n =>
    have h2 := hn.2.2
    rw [Int.toNat_natCast] at h2
    cases n with
    | zero => exact .inl h2
    | succ n => exact .inr ⟨h2.1, h2.2.1⟩
/-- Parents of edges that were reduced: from each one comes to a root. -/
theorem RedI.rooted {E : List Nat} {L : List (Option Nat)} {P : List Int} (h : RedI E L P) : Rooted P := by
  obtain ⟨r, c, r1, r2, r3⟩ := h.rank
  have hlen : P.length = L.length := by rw [h.plen, h.len]
  have pres : ∀ i s : Nat, L[i]? = some (some s) → UpTo P 1 (i : Int) := fun i s hi => by
    have := at_lt hi
    refine ⟨by omega, by omega, ?_⟩
    rw [Int.toNat_natCast]
    exact h.here i s hi
  have key : ∀ (d i : Nat), L[i]? = some none → c - r i ≤ d → ∃ n, UpTo P n (i : Int) := by
    intro d
    induction d with
    | zero =>
      intro i hi hd
      have := r2 i hi
      omega
    | succ d ih =>
      intro i hi hd
      have hil := at_lt hi
      have hr := r2 i hi
      rcases h.bound i (by rw [← h.len]; exact hil) with e | ⟨k, e, hk⟩
      · exact ⟨1, by omega, by omega, by rw [Int.toNat_natCast]; exact e⟩
      · have go : ∀ n, UpTo P n (k : Int) → ∃ n, UpTo P n (i : Int) := fun n hn => ⟨n + 1, by omega, by omega, by rw [Int.toNat_natCast, e]; exact hn⟩
        rcases r3 i k hi e with ⟨s, hs⟩ | ⟨q1, q2⟩
        · exact go 1 (pres k s hs)
        · obtain ⟨n, hn⟩ := ih k q1 (by omega)
          exact go n hn
  intro i hi
  rw [hlen] at hi
  cases e : L[i]? with
  | none => rw [List.getElem?_eq_none_iff] at e; omega
  | some o =>
    cases o with
    | none => exact key (c - r i) i e (Nat.le_refl _)
    | some s => exact ⟨1, pres i s e⟩
/-- The edge has v, and its parent has not. -/
def Top (E : List Nat) (P : List Int) (i v : Nat) : Prop := Has' E i v ∧ ¬ UpHas E P i v
/-- A join tree. -/
structure JoinP (E : List Nat) (P : List Int) : Prop where
  len : P.length = E.length
  root : Rooted P
  top : ∀ v, (∃ i, i < E.length ∧ Has' E i v) → ∃ i, i < E.length ∧ Top E P i v ∧ ∀ j, j < E.length → Top E P j v → j = i
/-- All edges gone: their parents are a join tree. -/
theorem RedI.join {E : List Nat} {L : List (Option Nat)} {P : List Int} (h : RedI E L P) (h0 : cur L = []) : JoinP E P := by
  refine ⟨h.plen, h.rooted, fun v hv => ?_⟩
  have hd : ¬ Alive (cur L) v := fun ⟨s, hs, _⟩ => by rw [h0] at hs; cases hs
  obtain ⟨i, h1, h2, h3, h4⟩ := h.dead v hd hv
  refine ⟨i, h1, ⟨h2, h4⟩, fun j hj ht => ?_⟩
  apply Classical.byContradiction
  intro hne
  exact ht.2 (h3 j hj hne ht.1).2
/-- What Joins holds behind so many edges. -/
structure JoI (E : List Nat) (P : List Int) (k so on tw : Nat) : Prop where
  ls : so < 2 ^ 64
  lo : on < 2 ^ 64
  lt : tw < 2 ^ 64
  some : ∀ v, so.testBit v = true ↔ ∃ i, i < k ∧ Has' E i v
  once : ∀ v, on.testBit v = true ↔ ∃ i, i < k ∧ Top E P i v
  twice : ∀ v, tw.testBit v = true ↔ ∃ i j, i < j ∧ j < k ∧ Top E P i v ∧ Top E P j v
theorem JoI.start (E : List Nat) (P : List Int) : JoI E P 0 0 0 0 := by
  refine ⟨by decide, by decide, by decide, fun v => ⟨fun q => ?_, fun ⟨i, hi, _⟩ => by omega⟩, fun v => ⟨fun q => ?_, fun ⟨i, hi, _⟩ => by omega⟩, fun v => ⟨fun q => ?_, fun ⟨i, j, _, hj, _⟩ => by omega⟩⟩ <;> · rw [Nat.zero_testBit] at q; cases q
theorem JoI.next {E : List Nat} {P : List Int} {k so on tw e s : Nat} (h : JoI E P k so on tw) (he : E.getD k 0 = e) (h64 : e < 2 ^ 64) (hs64 : s < 2 ^ 64) (hs : ∀ v, s.testBit v = true ↔ Top E P k v) : JoI E P (k + 1) (so ||| e) (on ||| s) (tw ||| (on &&& s)) := by
  refine ⟨Nat.or_lt_two_pow h.ls h64, Nat.or_lt_two_pow h.lo hs64, Nat.or_lt_two_pow h.lt (Nat.and_lt_two_pow _ hs64), fun v => ?_, fun v => ?_, fun v => ?_⟩
  · rw [Nat.testBit_or, Bool.or_eq_true, h.some]
    constructor
    · rintro (⟨i, h1, h2⟩ | h1)
      · exact ⟨i, by omega, h2⟩
      · exact ⟨k, by omega, by unfold Has'; rw [he]; exact h1⟩
    · rintro ⟨i, h1, h2⟩
      by_cases q : i = k
      · subst q; unfold Has' at h2; rw [he] at h2; exact .inr h2
      · exact .inl ⟨i, by omega, h2⟩
  · rw [Nat.testBit_or, Bool.or_eq_true, h.once, hs]
    constructor
    · rintro (⟨i, h1, h2⟩ | h1)
      · exact ⟨i, by omega, h2⟩
      · exact ⟨k, by omega, h1⟩
    · rintro ⟨i, h1, h2⟩
      by_cases q : i = k
      · subst q; exact .inr h2
      · exact .inl ⟨i, by omega, h2⟩
  · rw [Nat.testBit_or, Bool.or_eq_true, h.twice, Nat.testBit_and, Bool.and_eq_true, h.once, hs]
    constructor
    · rintro (⟨i, j, h1, h2, h3, h4⟩ | ⟨⟨i, h1, h2⟩, h3⟩)
      · exact ⟨i, j, h1, by omega, h3, h4⟩
      · exact ⟨i, k, h1, by omega, h2, h3⟩
    · rintro ⟨i, j, h1, h2, h3, h4⟩
      by_cases q : j = k
      · subst q; exact .inr ⟨⟨i, h1, h3⟩, h4⟩
      · exact .inl ⟨i, j, h1, by omega, h3, h4⟩
theorem JoI.done {E : List Nat} {P : List Int} {so on tw : Nat} (h : JoI E P E.length so on tw) (hl : P.length = E.length) (hr : Rooted P) : (on = so ∧ tw = 0) ↔ JoinP E P := by
  constructor
  · rintro ⟨h1, h2⟩
    refine ⟨hl, hr, fun v hv => ?_⟩
    have hb := (h.some v).2 hv
    rw [← h1] at hb
    obtain ⟨i, hi, ht⟩ := (h.once v).1 hb
    refine ⟨i, hi, ht, fun j hj htj => ?_⟩
    have htw : tw.testBit v = false := by rw [h2, Nat.zero_testBit]
    rcases Nat.lt_trichotomy i j with q | q | q
    · rw [(h.twice v).2 ⟨i, j, q, hj, ht, htj⟩] at htw; cases htw
    · exact q.symm
    · rw [(h.twice v).2 ⟨j, i, q, hi, htj, ht⟩] at htw; cases htw
  · intro hJ
    refine ⟨Sub.anti (fun v hv => ?_) (fun v hv => ?_), Nat.eq_of_testBit_eq fun v => ?_⟩
    · obtain ⟨i, hi, ht⟩ := (h.once v).1 hv
      exact (h.some v).2 ⟨i, hi, ht.1⟩
    · obtain ⟨i, hi, ht, -⟩ := hJ.top v ((h.some v).1 hv)
      exact (h.once v).2 ⟨i, hi, ht⟩
    · rw [Nat.zero_testBit]
      cases e : tw.testBit v with
      | false => rfl
      | true =>
        obtain ⟨i, j, h1, h2, h3, h4⟩ := (h.twice v).1 e
        obtain ⟨k, hk, -, hu⟩ := hJ.top v ⟨i, by omega, h3.1⟩
        have := hu i (by omega) h3
        have := hu j h2 h4
        omega
/-- Gone up while the parent has v. -/
theorem JoinP.climb {E : List Nat} {P : List Int} (h : JoinP E P) {a v n : Nat} (hn : UpTo P n (a : Int)) (ha : Has' E a v) : n ≤ 1 → Top E P a v := fun h1 => by
  refine ⟨ha, fun ⟨k, q1, q2, _⟩ => ?_⟩
  cases n with
  | zero => have hn' : (a : Int) = -1 := hn; omega
  | succ n =>
    obtain rfl : n = 0 := by omega
    have h2 : P.getD ((a : Int).toNat) 0 = -1 := hn.2.2
    rw [Int.toNat_natCast] at h2
    omega
end Go.Proofs.YtplidcbfbonjlaaDoor
