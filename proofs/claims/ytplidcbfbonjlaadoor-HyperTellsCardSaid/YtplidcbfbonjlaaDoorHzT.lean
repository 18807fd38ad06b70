/-
  Reducing edges by their places, and the parents of those that went. Plain: no program in sight.
-/
import Derived.Test.YtplidcbfbonjlaaDoorHzG
namespace Go.Proofs.YtplidcbfbonjlaaDoor
set_option linter.unusedVariables false
set_option linter.unusedSimpArgs false

/-- The sets that are there. -/
def cur (L : List (Option Nat)) : List Nat := L.filterMap id
theorem mem_cur {L : List (Option Nat)} {t : Nat} : t ∈ cur L ↔ ∃ j : Nat, L[j]? = some (some t) := by
  unfold cur
  rw [List.mem_filterMap]
  constructor
  · rintro ⟨a, ha, rfl⟩
    obtain ⟨j, hj, e⟩ := List.getElem_of_mem ha
    exact ⟨j, by rw [List.getElem?_eq_getElem hj, e]⟩
  · rintro ⟨j, hj⟩
    exact ⟨some t, List.mem_of_getElem? hj, rfl⟩
theorem cur_len (L : List (Option Nat)) : (cur L).length ≤ L.length := List.length_filterMap_le _ _
theorem split_at {L : List (Option Nat)} {i : Nat} (h : i < L.length) (o : Option Nat) : L.set i o = L.take i ++ o :: L.drop (i + 1) := by
  rw [List.set_eq_take_append_cons_drop, if_pos h]
theorem at_lt {L : List (Option Nat)} {i : Nat} {o : Option Nat} (h : L[i]? = some o) : i < L.length := (List.getElem?_eq_some_iff.1 h).1
theorem set_self {L : List (Option Nat)} {i : Nat} {o : Option Nat} (h : L[i]? = some o) : L.set i o = L := by
  refine List.ext_getElem? fun j => ?_
  rw [List.getElem?_set]
  split
  · rename_i e; subst e; rw [if_pos (at_lt h), h]
  · rfl
theorem cur_some {L : List (Option Nat)} {i s : Nat} (h : i < L.length) : cur (L.set i (some s)) = cur (L.take i) ++ s :: cur (L.drop (i + 1)) := by
  rw [split_at h]; unfold cur; rw [List.filterMap_append, List.filterMap_cons]; rfl
theorem cur_none {L : List (Option Nat)} {i : Nat} (h : i < L.length) : cur (L.set i none) = cur (L.take i) ++ cur (L.drop (i + 1)) := by
  rw [split_at h]; unfold cur; rw [List.filterMap_append, List.filterMap_cons]; rfl
theorem cur_at {L : List (Option Nat)} {i s : Nat} (h : L[i]? = some (some s)) : cur L = cur (L.take i) ++ s :: cur (L.drop (i + 1)) := by
  have := cur_some (s := s) (at_lt h)
  rwa [set_self h] at this
theorem mem_rest {L : List (Option Nat)} {i t : Nat} : (t ∈ cur (L.take i) ∨ t ∈ cur (L.drop (i + 1))) ↔ ∃ j : Nat, j ≠ i ∧ L[j]? = some (some t) := by
  rw [mem_cur, mem_cur]
  constructor
  · rintro (⟨j, hj⟩ | ⟨j, hj⟩)
    · rw [List.getElem?_take] at hj
      split at hj
      · exact ⟨j, by omega, hj⟩
      · cases hj
    · rw [List.getElem?_drop] at hj
      exact ⟨i + 1 + j, by omega, hj⟩
  · rintro ⟨j, hne, hj⟩
    by_cases h : j < i
    · exact .inl ⟨j, by rw [List.getElem?_take, if_pos h]; exact hj⟩
    · exact .inr ⟨j - (i + 1), by rw [List.getElem?_drop]; rw [show i + 1 + (j - (i + 1)) = j by omega]; exact hj⟩
theorem alive_iff {L : List (Option Nat)} {v : Nat} : Alive (cur L) v ↔ ∃ (j s : Nat), L[j]? = some (some s) ∧ s.testBit v = true := by
  constructor
  · rintro ⟨s, hs, hv⟩
    obtain ⟨j, hj⟩ := mem_cur.1 hs
    exact ⟨j, s, hj, hv⟩
  · rintro ⟨j, s, hj, hv⟩
    exact ⟨s, mem_cur.2 ⟨j, hj⟩, hv⟩
theorem at_set {L : List (Option Nat)} {i j : Nat} {o : Option Nat} (h : i < L.length) : (L.set i o)[j]? = if j = i then some o else L[j]? := by
  rw [List.getElem?_set]
  by_cases e : i = j
  · subst e; rw [if_pos rfl, if_pos h, if_pos rfl]
  · rw [if_neg e, if_neg (fun q => e q.symm)]
theorem pat_set {P : List Int} {i j : Nat} {x : Int} (h : i < P.length) : (P.set i x).getD j 0 = if j = i then x else P.getD j 0 := by
  simp only [List.getD_eq_getElem?_getD, List.getElem?_set]
  by_cases e : i = j
  · subst e; rw [if_pos rfl, if_pos h, if_pos rfl]; rfl
  · rw [if_neg e, if_neg (fun q => e q.symm)]
/-- Does edge i have v? -/
def Has' (E : List Nat) (i v : Nat) : Prop := (E.getD i 0).testBit v = true
/-- The parent of j is an edge, and has v. -/
def UpHas (E : List Nat) (P : List Int) (j v : Nat) : Prop := ∃ k : Nat, P.getD j 0 = (k : Int) ∧ k < E.length ∧ Has' E k v
/-- Edges, reduced, by their places, and their parents. -/
structure RedI (E : List Nat) (L : List (Option Nat)) (P : List Int) : Prop where
  len : L.length = E.length
  plen : P.length = E.length
  cof : Cof E (cur L)
  keep : Keep E (cur L)
  seen : ∀ (i s : Nat), L[i]? = some (some s) → ∀ v, s.testBit v = true ↔ Has' E i v ∧ Alive (cur L) v
  here : ∀ (i s : Nat), L[i]? = some (some s) → P.getD i 0 = -1
  bound : ∀ i : Nat, i < E.length → P.getD i 0 = -1 ∨ ∃ k : Nat, P.getD i 0 = (k : Int) ∧ k < E.length
  up : ∀ i : Nat, L[i]? = some none → ∀ v, Has' E i v → Alive (cur L) v → UpHas E P i v
  dead : ∀ v, ¬ Alive (cur L) v → (∃ i, i < E.length ∧ Has' E i v) → ∃ i, i < E.length ∧ Has' E i v ∧ (∀ j, j < E.length → j ≠ i → Has' E j v → L[j]? = some none ∧ UpHas E P j v) ∧ ¬ UpHas E P i v
  rank : ∃ (r : Nat → Nat) (c : Nat), c + (cur L).length = E.length ∧ (∀ i : Nat, L[i]? = some none → r i < c) ∧ ∀ i k : Nat, L[i]? = some none → P.getD i 0 = (k : Int) → (∃ s, L[k]? = some (some s)) ∨ (L[k]? = some none ∧ r i < r k)
theorem RedI.start (E : List Nat) : RedI E (E.map some) (List.replicate E.length (-1)) := by
  have hc : cur (E.map some) = E := by
    unfold cur
    rw [List.filterMap_map]
    exact List.filterMap_some
  have hp : ∀ i : Nat, i < E.length → (List.replicate E.length (-1 : Int)).getD i 0 = -1 := fun i hi => by simp [List.getD_eq_getElem?_getD, hi]
  have hn : ∀ i : Nat, (E.map some)[i]? ≠ some none := fun i h => by
    rw [List.getElem?_map] at h
    cases e : E[i]? with
    | none => rw [e] at h; cases h
    | some x => rw [e] at h; cases h
  have hs : ∀ i s : Nat, (E.map some)[i]? = some (some s) → E.getD i 0 = s ∧ i < E.length ∧ s ∈ E := fun i s h => by
    rw [List.getElem?_map] at h
    cases e : E[i]? with
    | none => rw [e] at h; cases h
    | some x => rw [e] at h; cases h; exact ⟨by rw [List.getD_eq_getElem?_getD, e]; rfl, (List.getElem?_eq_some_iff.1 e).1, List.mem_of_getElem? e⟩
  refine ⟨by simp, by simp, by rw [hc]; exact Cof.self E, by rw [hc]; exact Keep.self E, fun i s h v => ?_, fun i s h => hp i (hs i s h).2.1, fun i hi => .inl (hp i hi), fun i h => absurd h (hn i), fun v hv ⟨i, hi, h⟩ => ?_, ⟨fun _ => 0, 0, by rw [hc]; omega, fun i h => absurd h (hn i), fun i k h => absurd h (hn i)⟩⟩
  · obtain ⟨e, -, hm⟩ := hs i s h
    rw [hc]
    unfold Has'
    rw [e]
    exact ⟨fun q => ⟨q, s, hm, q⟩, fun q => q.1⟩
  · refine absurd ?_ hv
    rw [hc]
    unfold Has' at h
    rw [List.getD_eq_getElem?_getD, List.getElem?_eq_getElem hi] at h
    exact ⟨_, List.getElem_mem hi, h⟩
/-- A set loses what no other one has. -/
theorem RedI.trim {E : List Nat} {L : List (Option Nat)} {P : List Int} (h : RedI E L P) {i s s' : Nat} (hi : L[i]? = some (some s)) (hs : Sub s' s) (hl : ∀ v, s.testBit v = true → s'.testBit v = false → ∀ j t : Nat, j ≠ i → L[j]? = some (some t) → t.testBit v = false) : RedI E (L.set i (some s')) P := by
  have hlt := at_lt hi
  have hlo : Loses (cur (L.take i)) s s' (cur (L.drop (i + 1))) := ⟨hs, fun v h1 h2 => ⟨fun t ht => by
    obtain ⟨j, hj, e⟩ := mem_rest.1 (.inl ht)
    exact hl v h1 h2 j t hj e, fun t ht => by
    obtain ⟨j, hj, e⟩ := mem_rest.1 (.inr ht)
    exact hl v h1 h2 j t hj e⟩⟩
  have e1 := cur_at hi
  have e2 := cur_some (s := s') hlt
  have hal : ∀ v, Alive (cur (L.set i (some s'))) v ↔ Alive (cur L) v ∧ ¬ (s.testBit v = true ∧ s'.testBit v = false) := fun v => by rw [e2, e1]; exact hlo.alive
  have hno : ∀ j : Nat, (L.set i (some s'))[j]? = some none ↔ L[j]? = some none := fun j => by
    rw [at_set hlt]
    by_cases e : j = i
    · subst e; rw [if_pos rfl, hi]; constructor <;> intro q <;> cases q
    · rw [if_neg e]
  refine ⟨by rw [List.length_set]; exact h.len, h.plen, by rw [e2]; exact hlo.cof (e1 ▸ h.cof), by rw [e2]; exact hlo.keep (e1 ▸ h.cof) (e1 ▸ h.keep), fun j t hj v => ?_, fun j t hj => ?_, h.bound, fun j hj v hv ha => h.up j ((hno j).1 hj) v hv ((hal v).1 ha).1, fun v hv hex => ?_, ?_⟩
  · rw [at_set hlt] at hj
    by_cases e : j = i
    · subst e
      rw [if_pos rfl] at hj
      cases hj
      rw [hal]
      constructor
      · intro q
        obtain ⟨q1, q2⟩ := (h.seen j s hi v).1 (hs v q)
        exact ⟨q1, q2, fun k => by rw [q] at k; cases k.2⟩
      · rintro ⟨q1, q2, q3⟩
        have := (h.seen j s hi v).2 ⟨q1, q2⟩
        cases q : s'.testBit v with
        | true => rfl
        | false => exact absurd ⟨this, q⟩ q3
    · rw [if_neg e] at hj
      rw [hal]
      constructor
      · intro q
        obtain ⟨q1, q2⟩ := (h.seen j t hj v).1 q
        refine ⟨q1, q2, fun k => ?_⟩
        rw [hl v k.1 k.2 j t e hj] at q
        cases q
      · rintro ⟨q1, q2, q3⟩
        exact (h.seen j t hj v).2 ⟨q1, q2⟩
  · rw [at_set hlt] at hj
    by_cases e : j = i
    · subst e; exact h.here j s hi
    · rw [if_neg e] at hj; exact h.here j t hj
  · by_cases ha : Alive (cur L) v
    · have hk : s.testBit v = true ∧ s'.testBit v = false := Classical.byContradiction fun q => hv ((hal v).2 ⟨ha, q⟩)
      refine ⟨i, by rw [← h.len]; exact hlt, ((h.seen i s hi v).1 hk.1).1, fun j hj hne hjv => ?_, fun ⟨k, hk1, hk2, hk3⟩ => ?_⟩
      · have hjl : j < L.length := by rw [h.len]; exact hj
        have : L[j]? = some none := by
          cases e : L[j]? with
          | none => rw [List.getElem?_eq_none_iff] at e; omega
          | some o =>
            cases o with
            | none => rfl
            | some t =>
              have := (h.seen j t e v).2 ⟨hjv, ha⟩
              rw [hl v hk.1 hk.2 j t hne e] at this
              cases this
        exact ⟨(hno j).2 this, h.up j this v hjv ha⟩
      · rw [h.here i s hi] at hk1
        omega
    · obtain ⟨j, h1, h2, h3, h4⟩ := h.dead v ha hex
      exact ⟨j, h1, h2, fun k k1 k2 k3 => ⟨(hno k).2 (h3 k k1 k2 k3).1, (h3 k k1 k2 k3).2⟩, h4⟩
  · obtain ⟨r, c, r1, r2, r3⟩ := h.rank
    refine ⟨r, c, ?_, fun j hj => r2 j ((hno j).1 hj), fun j k hj hp => ?_⟩
    · rw [← r1, e2, e1]; simp
    · rcases r3 j k ((hno j).1 hj) hp with ⟨t, ht⟩ | ⟨q1, q2⟩
      · by_cases e : k = i
        · subst e; exact .inl ⟨s', by rw [at_set hlt, if_pos rfl]⟩
        · exact .inl ⟨t, by rw [at_set hlt, if_neg e]; exact ht⟩
      · exact .inr ⟨(hno k).2 q1, q2⟩
/-- A set goes: it has nothing, or nothing but what another one has, that becomes its parent. -/
theorem RedI.drop {E : List Nat} {L : List (Option Nat)} {P P' : List Int} (h : RedI E L P) {i s : Nat} (hi : L[i]? = some (some s)) (hg : (s = 0 ∧ P' = P) ∨ ∃ k t : Nat, k ≠ i ∧ L[k]? = some (some t) ∧ Sub s t ∧ P' = P.set i (k : Int)) : RedI E (L.set i none) P' := by
  have hlt := at_lt hi
  have hgo : Goes (cur (L.take i)) s (cur (L.drop (i + 1))) := by
    rcases hg with ⟨h1, -⟩ | ⟨k, t, h1, h2, h3, -⟩
    · exact .inl h1
    · exact .inr ⟨t, mem_rest.2 ⟨k, h1, h2⟩, h3⟩
  have e1 := cur_at hi
  have e2 := cur_none hlt
  have hal : ∀ v, Alive (cur (L.set i none)) v ↔ Alive (cur L) v := fun v => by rw [e2, e1]; exact hgo.alive
  have hPl : P'.length = E.length := by
    rcases hg with ⟨-, rfl⟩ | ⟨k, t, -, -, -, rfl⟩
    · exact h.plen
    · rw [List.length_set]; exact h.plen
  have hiP : i < P.length := by rw [h.plen, ← h.len]; exact hlt
  have hP : ∀ j : Nat, j ≠ i → P'.getD j 0 = P.getD j 0 := fun j hj => by
    rcases hg with ⟨-, rfl⟩ | ⟨k, t, -, -, -, rfl⟩
    · rfl
    · rw [pat_set hiP, if_neg hj]
  have hUp : ∀ j v : Nat, j ≠ i → (UpHas E P' j v ↔ UpHas E P j v) := fun j v hj => by unfold UpHas; rw [hP j hj]
  have hPi : (s = 0 ∧ P'.getD i 0 = -1) ∨ ∃ k t : Nat, k ≠ i ∧ L[k]? = some (some t) ∧ Sub s t ∧ P'.getD i 0 = (k : Int) := by
    rcases hg with ⟨h1, rfl⟩ | ⟨k, t, h1, h2, h3, rfl⟩
    · exact .inl ⟨h1, h.here i s hi⟩
    · exact .inr ⟨k, t, h1, h2, h3, by rw [pat_set hiP, if_pos rfl]⟩
  refine ⟨by rw [List.length_set]; exact h.len, hPl, by rw [e2]; exact hgo.cof (e1 ▸ h.cof), by rw [e2]; exact hgo.keep (e1 ▸ h.keep), fun j t hj v => ?_, fun j t hj => ?_, fun j hj => ?_, fun j hj v hv ha => ?_, fun v hv hex => ?_, ?_⟩
  · rw [at_set hlt] at hj
    by_cases e : j = i
    · subst e; rw [if_pos rfl] at hj; cases hj
    · rw [if_neg e] at hj
      rw [hal]
      exact h.seen j t hj v
  · rw [at_set hlt] at hj
    by_cases e : j = i
    · subst e; rw [if_pos rfl] at hj; cases hj
    · rw [if_neg e] at hj
      rw [hP j e]
      exact h.here j t hj
  · by_cases e : j = i
    · subst e
      rcases hPi with ⟨-, h1⟩ | ⟨k, t, h1, h2, h3, h4⟩
      · exact .inl h1
      · exact .inr ⟨k, h4, by rw [← h.len]; exact at_lt h2⟩
    · rw [hP j e]; exact h.bound j hj
  · rw [hal] at ha
    by_cases e : j = i
    · subst e
      have hsv := (h.seen j s hi v).2 ⟨hv, ha⟩
      rcases hPi with ⟨h1, -⟩ | ⟨k, t, h1, h2, h3, h4⟩
      · rw [h1, Nat.zero_testBit] at hsv; cases hsv
      · exact ⟨k, h4, by rw [← h.len]; exact at_lt h2, ((h.seen k t h2 v).1 (h3 v hsv)).1⟩
    · rw [at_set hlt, if_neg e] at hj
      exact (hUp j v e).2 (h.up j hj v hv ha)
  · rw [hal] at hv
    obtain ⟨j, h1, h2, h3, h4⟩ := h.dead v hv hex
    refine ⟨j, h1, h2, fun m m1 m2 m3 => ?_, ?_⟩
    · obtain ⟨q1, q2⟩ := h3 m m1 m2 m3
      have hmi : m ≠ i := fun e => by rw [e, hi] at q1; cases q1
      exact ⟨by rw [at_set hlt, if_neg hmi]; exact q1, (hUp m v hmi).2 q2⟩
    · by_cases e : j = i
      · subst e
        rintro ⟨k, k1, k2, k3⟩
        rcases hPi with ⟨-, q⟩ | ⟨k', t, q1, q2, q3, q4⟩
        · omega
        · have hk : k = k' := by omega
          subst hk
          have := (h3 k k2 q1 k3).1
          rw [q2] at this
          cases this
      · rw [hUp j v e]; exact h4
  · obtain ⟨r, c, r1, r2, r3⟩ := h.rank
    refine ⟨fun j => if j = i then c else r j, c + 1, ?_, fun j hj => ?_, fun j k hj hp => ?_⟩
    · rw [← r1, e2, e1]; simp; omega
    · show (if j = i then c else r j) < c + 1
      by_cases e : j = i
      · rw [if_pos e]; omega
      · rw [if_neg e]
        rw [at_set hlt, if_neg e] at hj
        have := r2 j hj
        omega
    · show _ ∨ (_ ∧ (if j = i then c else r j) < (if k = i then c else r k))
      by_cases e : j = i
      · subst e
        rcases hPi with ⟨-, q⟩ | ⟨k', t, q1, q2, q3, q4⟩
        · omega
        · have hk : k = k' := by omega
          subst hk
          exact .inl ⟨t, by rw [at_set hlt, if_neg q1]; exact q2⟩
      · rw [at_set hlt, if_neg e] at hj
        rw [hP j e] at hp
        rw [if_neg e]
        by_cases e' : k = i
        · subst e'
          exact .inr ⟨by rw [at_set hlt, if_pos rfl], by rw [if_pos rfl]; exact r2 j hj⟩
        · rw [if_neg e']
          rcases r3 j k hj hp with ⟨t, ht⟩ | ⟨q1, q2⟩
          · exact .inl ⟨t, by rw [at_set hlt, if_neg e']; exact ht⟩
          · exact .inr ⟨by rw [at_set hlt, if_neg e']; exact q1, q2⟩
/-- The vertices of two sets or more. -/
def TwoS (L : List (Option Nat)) (tw : Nat) : Prop := ∀ v, tw.testBit v = true ↔ ∃ i j s t : Nat, i ≠ j ∧ L[i]? = some (some s) ∧ L[j]? = some (some t) ∧ s.testBit v = true ∧ t.testBit v = true
/-- While the places are gone through: the sets behind. -/
structure PassI (L : List (Option Nat)) (tw i : Nat) : Prop where
  two : TwoS L tw
  done : ∀ j s : Nat, j < i → L[j]? = some (some s) → Sub s tw ∧ s ≠ 0 ∧ ∀ k t : Nat, k ≠ j → L[k]? = some (some t) → ¬ Sub s t
theorem PassI.start {L : List (Option Nat)} {tw : Nat} (h : TwoS L tw) : PassI L tw 0 := ⟨h, fun j s hj => by omega⟩
theorem PassI.skip {L : List (Option Nat)} {tw i : Nat} (h : PassI L tw i) (hi : L[i]? = some none) : PassI L tw (i + 1) := ⟨h.two, fun j s hj hs => by
  by_cases e : j = i
  · subst e; rw [hi] at hs; cases hs
  · exact h.done j s (by omega) hs⟩
theorem TwoS.lone {L : List (Option Nat)} {tw : Nat} (h : TwoS L tw) {i s : Nat} (hi : L[i]? = some (some s)) : ∀ v, s.testBit v = true → (s &&& tw).testBit v = false → ∀ j t : Nat, j ≠ i → L[j]? = some (some t) → t.testBit v = false := fun v h1 h2 j t hj ht => by
  cases e : t.testBit v with
  | false => rfl
  | true =>
    have := (h v).2 ⟨i, j, s, t, fun q => hj q.symm, hi, ht, h1, e⟩
    rw [Nat.testBit_and, h1, this] at h2
    cases h2
theorem sub_and (s t : Nat) : Sub (s &&& t) s := fun v h => by rw [Nat.testBit_and, Bool.and_eq_true] at h; exact h.1
theorem sub_and' (s t : Nat) : Sub (s &&& t) t := fun v h => by rw [Nat.testBit_and, Bool.and_eq_true] at h; exact h.2
theorem PassI.trim {L : List (Option Nat)} {tw i s : Nat} (h : PassI L tw i) (hi : L[i]? = some (some s)) : PassI (L.set i (some (s &&& tw))) tw i := by
  have hlt := at_lt hi
  refine ⟨fun v => (h.two v).trans ⟨?_, ?_⟩, fun j t hj ht => ?_⟩
  · rintro ⟨a, b, x, y, hne, ha, hb, hx, hy⟩
    have htw := (h.two v).2 ⟨a, b, x, y, hne, ha, hb, hx, hy⟩
    by_cases ea : a = i
    · subst ea
      rw [hi] at ha
      cases ha
      exact ⟨a, b, s &&& tw, y, hne, by rw [at_set hlt, if_pos rfl], by rw [at_set hlt, if_neg (fun q => hne q.symm)]; exact hb, by rw [Nat.testBit_and, hx, htw]; rfl, hy⟩
    · by_cases eb : b = i
      · subst eb
        rw [hi] at hb
        cases hb
        exact ⟨a, b, x, s &&& tw, hne, by rw [at_set hlt, if_neg ea]; exact ha, by rw [at_set hlt, if_pos rfl], hx, by rw [Nat.testBit_and, hy, htw]; rfl⟩
      · exact ⟨a, b, x, y, hne, by rw [at_set hlt, if_neg ea]; exact ha, by rw [at_set hlt, if_neg eb]; exact hb, hx, hy⟩
  · rintro ⟨a, b, x, y, hne, ha, hb, hx, hy⟩
    have back : ∀ (c z : Nat), (L.set i (some (s &&& tw)))[c]? = some (some z) → z.testBit v = true → ∃ z', L[c]? = some (some z') ∧ z'.testBit v = true := fun c z hc hz => by
      rw [at_set hlt] at hc
      by_cases e : c = i
      · subst e
        rw [if_pos rfl] at hc
        cases hc
        exact ⟨s, hi, sub_and s tw v hz⟩
      · rw [if_neg e] at hc
        exact ⟨z, hc, hz⟩
    obtain ⟨x', a1, a2⟩ := back a x ha hx
    obtain ⟨y', b1, b2⟩ := back b y hb hy
    exact ⟨a, b, x', y', hne, a1, b1, a2, b2⟩
  · rw [at_set hlt, if_neg (by omega)] at ht
    obtain ⟨q1, q2, q3⟩ := h.done j t hj ht
    refine ⟨q1, q2, fun k u hk hu hs => ?_⟩
    rw [at_set hlt] at hu
    by_cases e : k = i
    · subst e
      rw [if_pos rfl] at hu
      cases hu
      exact q3 k s hk hi (hs.trans (sub_and s tw))
    · rw [if_neg e] at hu
      exact q3 k u hk hu hs
theorem PassI.next {L : List (Option Nat)} {tw i s : Nat} (h : PassI L tw i) (hi : L[i]? = some (some s)) (hs : Sub s tw) (h0 : s ≠ 0) (hn : ∀ k t : Nat, k ≠ i → L[k]? = some (some t) → ¬ Sub s t) : PassI L tw (i + 1) := ⟨h.two, fun j t hj ht => by
  by_cases e : j = i
  · subst e
    rw [hi] at ht
    cases ht
    exact ⟨hs, h0, hn⟩
  · exact h.done j t (by omega) ht⟩
theorem bit_of_ne {s : Nat} (h : s ≠ 0) : ∃ v, s.testBit v = true := by
  apply Classical.byContradiction
  intro hn
  refine h (Nat.eq_of_testBit_eq fun v => ?_)
  rw [Nat.zero_testBit]
  cases e : s.testBit v with
  | false => rfl
  | true => exact absurd ⟨v, e⟩ hn
theorem pair_at {L : List (Option Nat)} (h : ∀ j s : Nat, L[j]? = some (some s) → ∀ k t : Nat, k ≠ j → L[k]? = some (some t) → ¬ Sub s t) : (cur L).Pairwise fun a b => ¬ Sub a b ∧ ¬ Sub b a := by
  unfold cur
  rw [List.pairwise_filterMap, List.pairwise_iff_getElem]
  intro i j hi hj hij a ha b hb
  have h1 : L[i]? = some (some a) := by rw [List.getElem?_eq_getElem hi]; exact congrArg some ha
  have h2 : L[j]? = some (some b) := by rw [List.getElem?_eq_getElem hj]; exact congrArg some hb
  exact ⟨h i a h1 j b (by omega) h2, h j b h2 i a (by omega) h1⟩
/-- All places gone through: nothing can be done. -/
theorem PassI.irr {L : List (Option Nat)} {tw : Nat} (h : PassI L tw L.length) : Irr (cur L) := by
  have hd : ∀ j s : Nat, L[j]? = some (some s) → Sub s tw ∧ s ≠ 0 ∧ ∀ k t : Nat, k ≠ j → L[k]? = some (some t) → ¬ Sub s t := fun j s hj => h.done j s (at_lt hj) hj
  refine ⟨pair_at fun j s hj => (hd j s hj).2.2, fun s hs => ?_, fun s hs v hv => ?_⟩
  · obtain ⟨j, hj⟩ := mem_cur.1 hs
    exact bit_of_ne (hd j s hj).2.1
  · obtain ⟨j, hj⟩ := mem_cur.1 hs
    obtain ⟨a, b, x, y, hne, ha, hb, hx, hy⟩ := (h.two v).1 ((hd j s hj).1 v hv)
    by_cases e : a = j
    · refine ⟨y, mem_cur.2 ⟨b, hb⟩, fun q => ?_, hy⟩
      subst q
      exact (hd j y hj).2.2 b y (fun q => hne (by rw [q, e])) hb (Sub.refl y)
    · refine ⟨x, mem_cur.2 ⟨a, ha⟩, fun q => ?_, hx⟩
      subst q
      exact (hd j x hj).2.2 a x e ha (Sub.refl x)
end Go.Proofs.YtplidcbfbonjlaaDoor
