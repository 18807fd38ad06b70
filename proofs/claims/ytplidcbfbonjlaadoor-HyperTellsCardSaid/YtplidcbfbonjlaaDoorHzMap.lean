/-
  A map of places to sets, as a list of sets by their places; the range over one.
-/
import Derived.Maps.RangeWalk
import Derived.Test.YtplidcbfbonjlaaDoorMapV
import Derived.Test.YtplidcbfbonjlaaDoorHzT
import Derived.Test.YtplidcbfbonjlaaDoorHzW
namespace Go.Proofs.YtplidcbfbonjlaaDoor
open Go.RowKit Go.Maps
open Go.WideElems (Fit rd rg pl rd_key rd_val rg_of other_key)
set_option linter.unusedVariables false
set_option linter.unusedSimpArgs false

theorem lawI : Keyed Tryd.prog 3 := int_keyed Tryd.underlying3
theorem zeroS (w : World) : (zeroValue 58).run Tryd.prog w = .ok (.int .u64 0) w := by kernel_rfl
/-- What the map says at a key. -/
def setsF (L : List (Option Nat)) : Lit → Option Value
  | .int .i64 i => if 0 ≤ i then ((L[i.toNat]?).getD none).map (fun s : Nat => Value.int .u64 (s : Int)) else none
  | _ => none
theorem setsF_at (L : List (Option Nat)) (i : Nat) : setsF L (.int .i64 (i : Int)) = ((L[i]?).getD none).map (fun s : Nat => Value.int .u64 (s : Int)) := by
  show (if (0 : Int) ≤ (i : Int) then ((L[(i : Int).toNat]?).getD none).map (fun s : Nat => Value.int .u64 (s : Int)) else none) = _
  rw [if_pos (by omega), Int.toNat_natCast]
theorem setsF_some {L : List (Option Nat)} {kl : Lit} {v : Value} (h : setsF L kl = some v) : ∃ i s : Nat, kl = .int .i64 (i : Int) ∧ L[i]? = some (some s) ∧ v = .int .u64 (s : Int) := by
  unfold setsF at h
  split at h
  · rename_i i
    split at h
    · rename_i h0
      cases e : L[i.toNat]? with
      | none => rw [e] at h; cases h
      | some o =>
        cases o with
        | none => rw [e] at h; cases h
        | some s => rw [e] at h; cases h; exact ⟨i.toNat, s, by rw [Int.toNat_of_nonneg h0], e, rfl⟩
    · cases h
  · cases h
theorem setsF_set {L : List (Option Nat)} {i : Nat} (h : i < L.length) (o : Option Nat) : turnK (setsF L) (.int .i64 (i : Int)) (o.map (fun s : Nat => Value.int .u64 (s : Int))) = setsF (L.set i o) := by
  funext l
  by_cases e : l = .int .i64 (i : Int)
  · subst e
    rw [turnK_same, setsF_at, at_set h, if_pos rfl]
    rfl
  · rw [turnK_other e]
    unfold setsF
    split
    · rename_i j
      by_cases hj : 0 ≤ j
      · rw [if_pos hj, if_pos hj, at_set h, if_neg (fun q => e (by rw [← q, Int.toNat_of_nonneg hj]))]
      · rw [if_neg hj, if_neg hj]
    · rfl
theorem setsF_snoc (L : List (Option Nat)) (s : Nat) : turnK (setsF L) (.int .i64 (L.length : Int)) (some (.int .u64 (s : Int))) = setsF (L ++ [some s]) := by
  funext l
  by_cases e : l = .int .i64 (L.length : Int)
  · subst e
    rw [turnK_same, setsF_at]
    simp
  · rw [turnK_other e]
    unfold setsF
    split
    · rename_i j
      by_cases hj : 0 ≤ j
      · rw [if_pos hj, if_pos hj]
        have hne : j.toNat ≠ L.length := fun q => e (by rw [← q, Int.toNat_of_nonneg hj])
        by_cases hl : j.toNat < L.length
        · rw [List.getElem?_append_left hl]
        · rw [List.getElem?_eq_none (by omega), List.getElem?_eq_none (by simp; omega)]
      · rw [if_neg hj, if_neg hj]
    · rfl
theorem setsF_nil : setsF [] = fun _ => none := by
  funext l
  unfold setsF
  split
  · split <;> simp
  · rfl
/-- What a datum says, told as sets. -/
def Says (D : DataW Value) (L : List (Option Nat)) : Prop := ∀ kl, KeysOf Tryd.prog 3 kl → (setsF L kl = none → ∀ z, D.atKey kl z = z) ∧ ∀ v, setsF L kl = some v → ∀ z, D.atKey kl z = .held v
/-- Block b is a map of sets. -/
def SeM (w : World) (b : Nat) (L : List (Option Nat)) : Prop := ∃ D : DataW Value, w.ownsMap Tryd.prog 3 rawE b L.length D ∧ Says D L
theorem key_wf {i : Nat} (h : i < 9223372036854775808) : (Lit.int .i64 (i : Int)).wf = true := WalkArith.wf_i64 (by omega)
theorem key_of {i : Nat} (h : i < 9223372036854775808) : keyOf Tryd.prog 3 (.int .i64 (i : Int)) = some (.int .i64 (i : Int)) := keyOf_int_mk Tryd.underlying3 (key_wf h)
theorem has_at {D : DataW Value} {L : List (Option Nat)} (h : Says D L) {i s : Nat} (hi : L[i]? = some (some s)) (hl : L.length ≤ 64) : Maps.has D (.int .i64 (i : Int)) = true := by
  have := at_lt hi
  refine Maps.has_true_of_atKey (y := .held (.int .u64 (s : Int))) fun z => (h _ ⟨_, key_of (by omega)⟩).2 _ (by rw [setsF_at, hi]; rfl) z
theorem has_some {D : DataW Value} {L : List (Option Nat)} (h : Says D L) {kl : Lit} (hk : KeysOf Tryd.prog 3 kl) (hh : Maps.has D kl = true) : ∃ i s : Nat, kl = .int .i64 (i : Int) ∧ L[i]? = some (some s) := by
  cases e : setsF L kl with
  | none => rw [Maps.has_false_of_atKey ((h kl hk).1 e)] at hh; cases hh
  | some v => obtain ⟨i, s, h1, h2, -⟩ := setsF_some e; exact ⟨i, s, h1, h2⟩
theorem nodup_le : ∀ {o l : List Nat}, o.Nodup → (∀ v ∈ o, v ∈ l) → o.length ≤ l.length
  | [], l, _, _ => Nat.zero_le _
  | a :: o, l, hn, hs => by
    obtain ⟨h1, h2⟩ := List.nodup_cons.1 hn
    have ha := hs a (List.mem_cons_self ..)
    have ih := nodup_le (l := l.erase a) h2 fun v hv => by
      have hne : v ≠ a := fun e => h1 (e ▸ hv)
      exact (List.mem_erase_of_ne hne).2 (hs v (List.mem_cons_of_mem _ hv))
    rw [List.length_erase_of_mem ha] at ih
    have := List.length_pos_of_mem ha
    rw [List.length_cons]
    omega
/-- The map has no more entries than there are places. -/
theorem SeM.tight {w : World} {b n : Nat} {D : DataW Value} {L : List (Option Nat)} (h : w.ownsMap Tryd.prog 3 rawE b n D) (hs : Says D L) : SeM w b L := by
  refine ⟨D, ?_, hs⟩
  obtain ⟨es, clock, hh, F, hn, hD⟩ := h
  refine ⟨es, clock, hh, F, ?_, hD⟩
  have hk : ∀ p ∈ es.toList.map (rg Tryd.prog 3 rawE), ∃ i s : Nat, p.1 = .int .i64 (i : Int) ∧ L[i]? = some (some s) := fun p hp => by
    refine has_some hs (fit_keys F p hp) ?_
    rw [hD, Maps.has_eq]
    exact List.any_eq_true.2 ⟨p, mem_sorted.2 hp, WideAt.sameKey_self (by obtain ⟨v, hv⟩ := fit_keys F p hp; exact lawI.key hv)⟩
  have hap := fit_apart lawI F
  have e1 : es.size = ((es.toList.map (rg Tryd.prog 3 rawE)).map fun p => match p.1 with | .int .i64 i => i.toNat | _ => 0).length := by simp
  have e2 : L.length = (List.range L.length).length := by simp
  rw [e1, e2]
  refine nodup_le ?_ fun v hv => ?_
  · rw [List.Nodup, List.pairwise_map]
    refine (List.Pairwise.and_mem.1 hap).imp ?_
    rintro p q ⟨hp, hq, hne⟩
    obtain ⟨i, s, a1, a2⟩ := hk p hp
    obtain ⟨j, t, b1, b2⟩ := hk q hq
    rw [a1, b1]
    intro e
    simp at e
    exact hne (by rw [a1, b1, e])
  · obtain ⟨p, hp, rfl⟩ := List.mem_map.1 hv
    obtain ⟨i, s, a1, a2⟩ := hk p hp
    rw [a1]
    simp only [Int.toNat_natCast]
    exact List.mem_range.2 (at_lt a2)
theorem SeM.lt {w : World} {b : Nat} {L : List (Option Nat)} (h : SeM w b L) : b < w.heap.size := by obtain ⟨D, h1, -⟩ := h; exact h1.lt
theorem SeM.block {w w' : World} {b : Nat} {L : List (Option Nat)} (h : SeM w b L) (hb : w'.heap[b]? = w.heap[b]?) : SeM w' b L := by
  obtain ⟨D, ⟨es, clock, hh, r⟩, h2⟩ := h
  exact ⟨D, ⟨es, clock, hb.trans hh, r⟩, h2⟩
theorem SeM.later {w w' : World} {b : Nat} {L : List (Option Nat)} (h : SeM w b L) (hb : Below w.heap.size w w') : SeM w' b L := h.block (hb.block _ h.lt)
theorem SeM.made (w : World) : SeM (w.alloc (.map #[] 0)) w.heap.size [] := ⟨.map [], World.ownsMap_made _ _ _ _, fun kl _ => ⟨fun _ z => rfl, fun v h => by rw [setsF_nil] at h; cases h⟩⟩
theorem SeM.isMap {w : World} {b : Nat} {L : List (Option Nat)} (h : SeM w b L) : ∃ es c, w.heap[b]? = some (.map es c) := by
  obtain ⟨D, ⟨es, clock, hh, r⟩, h2⟩ := h
  exact ⟨es, clock, hh⟩
theorem SeM.mpV {w : World} {b : Nat} {L : List (Option Nat)} (h : SeM w b L) : MpV Tryd.prog 3 w b L.length (setsF L) := h
theorem SeM.of {w : World} {b n : Nat} {f : Lit → Option Value} {L : List (Option Nat)} (h : MpV Tryd.prog 3 w b n f) (e : f = setsF L) : SeM w b L := by
  subst e
  obtain ⟨D, h1, h2⟩ := h
  exact SeM.tight h1 h2
/-- 'm[i] = s'. -/
theorem SeM.put {w w' : World} {b : Nat} {L : List (Option Nat)} {D : DataW Value} (h1 : w.ownsMap Tryd.prog 3 rawE b L.length D) (h2 : Says D L) {i s : Nat} (hi : i < L.length) (hl : L.length ≤ 64) (h : w'.ownsMap Tryd.prog 3 rawE b (L.length + 1) (D.put (.int .i64 (i : Int)) (.held (.int .u64 (s : Int))))) : SeM w' b (L.set i (some s)) :=
  SeM.of (MpV.put h1 h2 lawI (key_of (show i < 9223372036854775808 by omega)) (val := .int .u64 (s : Int)) h) (setsF_set hi (some s))
theorem SeM.snoc {w w' : World} {b : Nat} {L : List (Option Nat)} {D : DataW Value} (h1 : w.ownsMap Tryd.prog 3 rawE b L.length D) (h2 : Says D L) {s : Nat} (hl : L.length ≤ 64) (h : w'.ownsMap Tryd.prog 3 rawE b (L.length + 1) (D.put (.int .i64 (L.length : Int)) (.held (.int .u64 (s : Int))))) : SeM w' b (L ++ [some s]) :=
  SeM.of (MpV.put h1 h2 lawI (key_of (show L.length < 9223372036854775808 by omega)) (val := .int .u64 (s : Int)) h) (setsF_snoc L s)
/-- 'delete(m, i)'. -/
theorem SeM.drop {w' : World} {b : Nat} {L : List (Option Nat)} {D : DataW Value} (h2 : Says D L) {i : Nat} (hi : i < L.length) (h : w'.ownsMap Tryd.prog 3 rawE b L.length (D.del (.int .i64 (i : Int)))) : SeM w' b (L.set i none) :=
  SeM.of (MpV.drop h2 h) (setsF_set hi none)
/-- 's, there := m[i]'. -/
theorem SeM.look {w : World} {b : Nat} {L : List (Option Nat)} (h : SeM w b L) {i : Nat} (hi : i < 9223372036854775808) : (Instr.lookup 48 (.map (some b)) (.int .i64 (i : Int)) true).run Tryd.prog w = .ok (.tuple #[.int .u64 ((((L[i]?).getD none).getD 0 : Nat) : Int), .bool ((L[i]?).getD none).isSome]) w := by
  have := MpV.look_ok h lawI Tryd.underlying48 (zeroS w) (key_of hi)
  rw [this, setsF_at]
  cases (L[i]?).getD none <;> rfl
/-- How many there are: none, or some. -/
theorem SeM.none_left {w : World} {b : Nat} {L : List (Option Nat)} {D : DataW Value} (h : w.ownsMap Tryd.prog 3 rawE b L.length D) (hs : Says D L) (hl : L.length ≤ 64) : Maps.size D = 0 ↔ cur L = [] := by
  constructor
  · intro h0
    refine List.eq_nil_iff_forall_not_mem.2 fun s hm => ?_
    obtain ⟨i, hi⟩ := mem_cur.1 hm
    have hh := has_at hs hi hl
    obtain ⟨es, rfl, -, -⟩ := h.entries lawI
    rw [Maps.size_eq] at h0
    rw [List.eq_nil_of_length_eq_zero h0] at hh
    cases hh
  · intro h0
    obtain ⟨es, clock, hh, F, hn, hD⟩ := h
    cases e : es.toList with
    | nil => rw [hD, e]; rfl
    | cons x xs =>
      exfalso
      have hp : rg Tryd.prog 3 rawE x ∈ es.toList.map (rg Tryd.prog 3 rawE) := List.mem_map.2 ⟨x, by rw [e]; exact List.mem_cons_self .., rfl⟩
      have hk := fit_keys F _ hp
      obtain ⟨p, hpe⟩ : ∃ p, rg Tryd.prog 3 rawE x = p := ⟨_, rfl⟩
      rw [hpe] at hp hk
      obtain ⟨i, s, a1, a2⟩ := has_some hs hk (by
        rw [hD, Maps.has_eq]
        exact List.any_eq_true.2 ⟨p, mem_sorted.2 hp, WideAt.sameKey_self (by obtain ⟨v, hv⟩ := hk; exact lawI.key hv)⟩)
      have : s ∈ cur L := mem_cur.2 ⟨i, a2⟩
      rw [h0] at this
      cases this
/-- What comes of a range's step. -/
theorem says_next {D : DataW Value} {L : List (Option Nat)} (hs : Says D L) {x : Int} {c : Value} {kl : Lit} {y : DataW Value × List MemPlace} (hk : keyOf Tryd.prog 3 (.int .i64 x) = some kl) (hv : rawE c = some y) (hat : ∀ zd, D.atKey kl zd = y.1) :
    ∃ i s : Nat, x = (i : Int) ∧ kl = .int .i64 (i : Int) ∧ c = .int .u64 (s : Int) ∧ L[i]? = some (some s) := by
  have hy : y.1 = .held c := by unfold rawE at hv; cases hv; rfl
  cases e : setsF L kl with
  | none =>
    have h1 := (hs kl ⟨_, hk⟩).1 e
    have h2 := (h1 (.held (.bool true))).symm.trans (hat _)
    have h3 := (h1 (.held (.bool false))).symm.trans (hat _)
    rw [← h3] at h2
    cases h2
  | some v =>
    have h1 := ((hs kl ⟨_, hk⟩).2 v e (.held v)).symm.trans (hat _)
    rw [hy] at h1
    cases h1
    obtain ⟨i, s, q1, q2, q3⟩ := setsF_some e
    obtain ⟨x', q4, q5, -⟩ := Maps.keyOf_int_inv Tryd.underlying3 hk
    cases q4
    rw [q1] at q5
    cases q5
    exact ⟨i, s, rfl, q1, q3, q2⟩
theorem sameKey_int (i j : Nat) : (Lit.int .i64 (i : Int)).sameKey (.int .i64 (j : Int)) = decide (i = j) := by
  by_cases e : i = j
  · subst e
    rw [decide_eq_true rfl]
    exact WideAt.sameKey_self (by trivial)
  · rw [decide_eq_false e]
    exact Maps.sameKey_ne (fun q => e (by injection q; omega))
/-- What once and twice hold while the sets are gone through. -/
structure OnceI (L : List (Option Nat)) (left : Lit → Bool) (on tw : Nat) : Prop where
  lo : on < 2 ^ 64
  lt : tw < 2 ^ 64
  once : ∀ v, on.testBit v = true ↔ ∃ i s : Nat, L[i]? = some (some s) ∧ left (.int .i64 (i : Int)) = false ∧ s.testBit v = true
  twice : ∀ v, tw.testBit v = true ↔ ∃ i j s t : Nat, i ≠ j ∧ L[i]? = some (some s) ∧ L[j]? = some (some t) ∧ left (.int .i64 (i : Int)) = false ∧ left (.int .i64 (j : Int)) = false ∧ s.testBit v = true ∧ t.testBit v = true
theorem OnceI.start {L : List (Option Nat)} {left : Lit → Bool} (h : ∀ i s : Nat, L[i]? = some (some s) → left (.int .i64 (i : Int)) = true) : OnceI L left 0 0 := by
  refine ⟨by decide, by decide, fun v => ⟨fun q => ?_, ?_⟩, fun v => ⟨fun q => ?_, ?_⟩⟩
  · rw [Nat.zero_testBit] at q; cases q
  · rintro ⟨i, s, h1, h2, -⟩
    rw [h i s h1] at h2; cases h2
  · rw [Nat.zero_testBit] at q; cases q
  · rintro ⟨i, j, s, t, -, h1, -, h2, -⟩
    rw [h i s h1] at h2; cases h2
theorem OnceI.next {L : List (Option Nat)} {left : Lit → Bool} {on tw : Nat} (h : OnceI L left on tw) {i s : Nat} (hi : L[i]? = some (some s)) (hl : left (.int .i64 (i : Int)) = true) (hs : s < 2 ^ 64) :
    OnceI L (fun z => left z && !z.sameKey (.int .i64 (i : Int))) (on ||| s) (tw ||| (on &&& s)) := by
  have seen : ∀ j : Nat, (left (.int .i64 (j : Int)) && !(Lit.int .i64 (j : Int)).sameKey (.int .i64 (i : Int))) = false ↔ (left (.int .i64 (j : Int)) = false ∨ j = i) := fun j => by
    rw [sameKey_int]
    by_cases e : j = i
    · simp [e]
    · simp [e]
  refine ⟨Nat.or_lt_two_pow h.lo hs, Nat.or_lt_two_pow h.lt (Nat.and_lt_two_pow _ hs), fun v => ?_, fun v => ?_⟩
  · rw [Nat.testBit_or, Bool.or_eq_true, h.once]
    constructor
    · rintro (⟨j, t, h1, h2, h3⟩ | h1)
      · exact ⟨j, t, h1, (seen j).2 (.inl h2), h3⟩
      · exact ⟨i, s, hi, (seen i).2 (.inr rfl), h1⟩
    · rintro ⟨j, t, h1, h2, h3⟩
      rcases (seen j).1 h2 with h4 | h4
      · exact .inl ⟨j, t, h1, h4, h3⟩
      · subst h4
        rw [hi] at h1
        cases h1
        exact .inr h3
  · rw [Nat.testBit_or, Bool.or_eq_true, h.twice, Nat.testBit_and, Bool.and_eq_true, h.once]
    constructor
    · rintro (⟨a, b, x, y, hne, h1, h2, h3, h4, h5, h6⟩ | ⟨⟨j, t, h1, h2, h3⟩, h4⟩)
      · exact ⟨a, b, x, y, hne, h1, h2, (seen a).2 (.inl h3), (seen b).2 (.inl h4), h5, h6⟩
      · exact ⟨j, i, t, s, (fun e => by rw [e, hl] at h2; cases h2), h1, hi, (seen j).2 (.inl h2), (seen i).2 (.inr rfl), h3, h4⟩
    · rintro ⟨a, b, x, y, hne, h1, h2, h3, h4, h5, h6⟩
      rcases (seen a).1 h3 with q1 | q1 <;> rcases (seen b).1 h4 with q2 | q2
      · exact .inl ⟨a, b, x, y, hne, h1, h2, q1, q2, h5, h6⟩
      · subst q2
        rw [hi] at h2
        cases h2
        exact .inr ⟨⟨a, x, h1, q1, h5⟩, h6⟩
      · subst q1
        rw [hi] at h1
        cases h1
        exact .inr ⟨⟨b, y, h2, q2, h6⟩, h5⟩
      · exact absurd (q1.trans q2.symm) hne
theorem OnceI.done {L : List (Option Nat)} {left : Lit → Bool} {on tw : Nat} (h : OnceI L left on tw) (hl : ∀ kl, left kl = false) : TwoS L tw := fun v => by
  rw [h.twice]
  constructor
  · rintro ⟨a, b, x, y, hne, h1, h2, -, -, h5, h6⟩
    exact ⟨a, b, x, y, hne, h1, h2, h5, h6⟩
  · rintro ⟨a, b, x, y, hne, h1, h2, h5, h6⟩
    exact ⟨a, b, x, y, hne, h1, h2, hl _, hl _, h5, h6⟩
end Go.Proofs.YtplidcbfbonjlaaDoor
