/-
  Of of Run is the trie, Run of Of the run; the keys under a path of a run's trie. No program in sight.
-/
import Derived.Test.YtdfnfdgkhflonaaTTellP
import Derived.Test.YtdfnfdgkhflonaaTOfP2
namespace Go.Proofs.Ytdfnfdgkhflonaa
open Go.RowKit
set_option linter.unusedVariables false

/-- The last branch of the first i pairs: where it begins, and what it holds. -/
theorem brTo_split {l : List Pr} (h : PairsTo l l.length) : ∀ i, 0 < i → i ≤ l.length → ∃ f, f < i ∧ brTo l i = brTo l f ++ [⟨(l.getD f Pr.no).a, f, i⟩] ∧ (∀ j, f ≤ j → j < i → (l.getD j Pr.no).a = (l.getD f Pr.no).a) ∧ (0 < f → (l.getD (f - 1) Pr.no).a < (l.getD f Pr.no).a) := by
  intro i
  induction i with
  | zero => intro h1; omega
  | succ i ih =>
    intro _ hi
    by_cases hn : newAt l i
    · refine ⟨i, by omega, ?_, fun j h1 h2 => (by obtain rfl : j = i := (by omega); rfl), fun h0 => ?_⟩
      · show setT (if newAt l i then _ else _) _ = _
        rw [if_pos hn, setT_snoc]
        simp
      · rcases hn with hn | hn
        · omega
        · have := run_mono h i (i - 1) (by omega) (by omega); omega
    · have h0 : 0 < i := by
        rcases Nat.eq_zero_or_pos i with e | e
        · exact absurd (Or.inl e) hn
        · exact e
      obtain ⟨f, hf, e, hs, hb⟩ := ih h0 (by omega)
      refine ⟨f, by omega, ?_, fun j h1 h2 => ?_, hb⟩
      · show setT (if newAt l i then _ else _) _ = _
        rw [if_neg hn, e, setT_snoc]
        simp
      · by_cases e2 : j = i
        · subst e2
          have h3 : (l.getD (j - 1) Pr.no).a = (l.getD j Pr.no).a := by
            refine Classical.byContradiction fun hc => hn (Or.inr hc)
          rw [← h3]
          exact hs (j - 1) (by omega) (by omega)
        · exact hs j h1 (by omega)
theorem getD_app_l {α : Type} {C D : List α} {d : α} {j : Nat} (h : j < C.length) : (C ++ D).getD j d = C.getD j d := by simp [List.getD, List.getElem?_append_left h]
theorem getD_app_r {α : Type} {C : List α} {c d : α} : (C ++ [c]).getD C.length d = c := by simp [List.getD]
theorem endAt_app {C : List Br} {D : List Br} {j : Nat} (h : j ≤ C.length) : endAt (C ++ D) j = endAt C j := by
  unfold endAt
  by_cases e : j = 0
  · rw [if_pos e, if_pos e]
  · rw [if_neg e, if_neg e, getD_app_l (by omega)]
theorem endAt_last {C : List Br} {c : Br} : endAt (C ++ [c]) (C ++ [c]).length = c.t := by
  unfold endAt
  rw [if_neg (by simp)]
  have : (C ++ [c]).length - 1 = C.length := by simp
  rw [this, getD_app_r]
theorem ok_snoc {C : List Br} {L : List Int} {c : Br} (h : ∀ i, i < C.length → BrOk C L i ∧ SegOk L (C.getD i Br.no)) (h1 : c.f = endAt C C.length) (h2 : c.f < c.t) (h3 : c.t ≤ L.length) (h4 : C.length = 0 ∨ (C.getD (C.length - 1) Br.no).k < c.k) (h5 : SegOk L c) :
    ∀ i, i < (C ++ [c]).length → BrOk (C ++ [c]) L i ∧ SegOk L ((C ++ [c]).getD i Br.no) := by
  intro i hi
  by_cases e : i < C.length
  · obtain ⟨⟨g1, g2, g3, g4⟩, g5⟩ := h i e
    refine ⟨⟨?_, ?_, ?_, ?_⟩, ?_⟩
    · rw [getD_app_l e, endAt_app (by omega)]; exact g1
    · rw [getD_app_l e]; exact g2
    · rw [getD_app_l e]; exact g3
    · rw [getD_app_l e, getD_app_l (by omega)]; exact g4
    · rw [getD_app_l e]; exact g5
  · obtain rfl : i = C.length := by simp at hi; omega
    refine ⟨⟨?_, ?_, ?_, ?_⟩, ?_⟩
    · rw [getD_app_r, endAt_app (Nat.le_refl _)]; exact h1
    · rw [getD_app_r]; exact h2
    · rw [getD_app_r]; exact h3
    · by_cases e0 : C.length = 0
      · exact .inl e0
      · rw [getD_app_r, getD_app_l (by omega)]
        rcases h4 with h4 | h4
        · exact absurd h4 e0
        · exact .inr h4
    · rw [getD_app_r]; exact h5
theorem brTo_ok {l : List Pr} (h : PairsTo l l.length) : ∀ n i, i ≤ n → i ≤ l.length →
    (∀ j, j < (brTo l i).length → BrOk (brTo l i) (l.map Pr.b) j ∧ SegOk (l.map Pr.b) ((brTo l i).getD j Br.no)) ∧ endAt (brTo l i) (brTo l i).length = i ∧ runOf (brTo l i) (l.map Pr.b) = l.take i ∧
      (0 < i → 0 < (brTo l i).length ∧ ((brTo l i).getD ((brTo l i).length - 1) Br.no).k = (l.getD (i - 1) Pr.no).a) := by
  intro n
  induction n with
  | zero =>
    intro i h1 h2
    obtain rfl : i = 0 := by omega
    exact ⟨fun j hj => by simp [brTo] at hj, by simp [brTo, endAt], by simp [brTo, runOf], fun h => by omega⟩
  | succ n ih =>
    intro i h1 h2
    by_cases h0 : i = 0
    · exact ih i (by omega) h2
    · obtain ⟨f, hf, e, hs, hb⟩ := brTo_split h i (by omega) h2
      obtain ⟨g1, g2, g3, g4⟩ := ih f (by omega) (by omega)
      rw [e]
      have hseg : SegOk (l.map Pr.b) ⟨(l.getD f Pr.no).a, f, i⟩ := by
        intro k hk1 hk2
        have hk1 : f < k := by simpa using hk1
        have hk2 : k < i := by simpa using hk2
        have a1 := h k (by omega) (by omega)
        rw [Ahd, hs (k - 1) (by omega) (by omega), hs k (by omega) hk2] at a1
        have e1 : (l.map Pr.b).getD (k - 1) 0 = (l.getD (k - 1) Pr.no).b := by simp [List.getD, List.getElem?_eq_getElem (show k - 1 < l.length by omega)]
        have e2 : (l.map Pr.b).getD k 0 = (l.getD k Pr.no).b := by simp [List.getD, List.getElem?_eq_getElem (show k < l.length by omega)]
        rw [e1, e2]
        omega
      refine ⟨ok_snoc g1 ?_ ?_ ?_ ?_ hseg, by rw [endAt_last], ?_, fun _ => ?_⟩
      · rw [g2]
      · simp only; omega
      · simp; omega
      · by_cases hf0 : f = 0
        · subst hf0; exact .inl rfl
        · obtain ⟨g5, g6⟩ := g4 (by omega)
          refine .inr ?_
          rw [g6]
          exact hb (by omega)
      · have e3 : runOf (brTo l f ++ [⟨(l.getD f Pr.no).a, f, i⟩]) (l.map Pr.b) = runOf (brTo l f) (l.map Pr.b) ++ segOf (l.map Pr.b) ⟨(l.getD f Pr.no).a, f, i⟩ := by simp [runOf]
        rw [e3, g3]
        have e4 : segOf (l.map Pr.b) ⟨(l.getD f Pr.no).a, f, i⟩ = (l.drop f).take (i - f) := by
          unfold segOf segTo
          apply List.ext_getElem
          · simp
          · intro j hj1 hj2
            simp at hj1
            simp
            have := hs (f + j) (by omega) (by omega)
            rw [getD_pr (show f + j < l.length by omega)] at this
            cases hq : l[f + j]
            rw [hq] at this
            simp at this ⊢
            exact this.symm
        rw [e4]
        have := List.take_add (l := l) (i := f) (j := i - f)
        rw [show f + (i - f) = i from by omega] at this
        exact this.symm
      · refine ⟨by simp, ?_⟩
        have : (brTo l f ++ [(⟨(l.getD f Pr.no).a, f, i⟩ : Br)]).length - 1 = (brTo l f).length := by simp
        rw [this, getD_app_r]
        exact (hs (i - 1) (by omega) (by omega)).symm
/-- A run's trie may be, and its run is the run. -/
theorem of_trie {l : List Pr} (h : RunOk l) : TrieOk (brOf l) (l.map Pr.b) := by
  obtain ⟨g1, g2, g3, g4⟩ := brTo_ok h.2 l.length l.length (Nat.le_refl _) (Nat.le_refl _)
  exact ⟨by simpa using h.1, g1, by rw [List.length_map]; exact g2⟩
theorem run_of {l : List Pr} (h : RunOk l) : runOf (brOf l) (l.map Pr.b) = l := by
  obtain ⟨g1, g2, g3, g4⟩ := brTo_ok h.2 l.length l.length (Nat.le_refl _) (Nat.le_refl _)
  have := g3
  rw [List.take_of_length_le (Nat.le_refl _)] at this
  exact this

theorem runTo_map {B : List Br} {L : List Int} (h : TrieOk B L) : ∀ i, i ≤ B.length → (runTo B L i).map Pr.b = L.take (endAt B i).toNat := by
  intro i
  induction i with
  | zero => intro _; simp [runTo, endAt]
  | succ i ih =>
    intro hi
    have ih := ih (by omega)
    obtain ⟨h1, h2, h3, -⟩ := (h.2.1 i (by omega)).1
    have h0 := endAt_nonneg (n := i) (fun j hj => (h.2.1 j (by omega)).1)
    have hg : B.getD i Br.no = B[i] := by simp [List.getD, List.getElem?_eq_getElem (show i < B.length by omega)]
    rw [hg] at h1 h2 h3
    have e : endAt B (i + 1) = B[i].t := by show (B.getD i Br.no).t = _; rw [hg]
    rw [runTo_succ (by omega), List.map_append, ih, e]
    have e2 : (segOf L B[i]).map Pr.b = (L.drop B[i].f.toNat).take (B[i].t.toNat - B[i].f.toNat) := by
      unfold segOf segTo; rw [List.map_map]; exact List.map_id _
    rw [e2, ← h1]
    have := List.take_add (l := L) (i := B[i].f.toNat) (j := B[i].t.toNat - B[i].f.toNat)
    rw [show B[i].f.toNat + (B[i].t.toNat - B[i].f.toNat) = B[i].t.toNat from by omega] at this
    exact this.symm
theorem run_leaves {B : List Br} {L : List Int} (h : TrieOk B L) : (runOf B L).map Pr.b = L := by
  have := runTo_map h B.length (Nat.le_refl _)
  rw [runTo_all (Nat.le_refl _), h.2.2] at this
  simpa using this
theorem run_key {B : List Br} {L : List Int} (h : TrieOk B L) {i j : Nat} (hi : i < B.length) (h1 : B[i].f ≤ j) (h2 : (j : Int) < B[i].t) : ((runOf B L).getD j Pr.no).a = B[i].k ∧ j < (runOf B L).length := by
  have hlen := runTo_len (L := L) (fun j hj => (h.2.1 j hj).1) (show i ≤ B.length by omega)
  obtain ⟨q1, q2, q3, -⟩ := (h.2.1 i hi).1
  have hg : B.getD i Br.no = B[i] := by simp [List.getD, List.getElem?_eq_getElem hi]
  rw [hg] at q1 q2 q3
  have h0 := endAt_nonneg (n := i) (fun j hj => (h.2.1 j (by omega)).1)
  have e : runOf B L = runTo B L i ++ (segOf L B[i] ++ (B.drop (i + 1)).flatMap (segOf L)) := by
    unfold runOf runTo
    conv => lhs; rw [← List.take_append_drop i B, List.flatMap_append, List.drop_eq_getElem_cons hi, List.flatMap_cons]
  have hs : (segOf L B[i]).length = B[i].t.toNat - B[i].f.toNat := segTo_len (by omega)
  have hj : (runTo B L i).length ≤ j := by omega
  have hj2 : j - (runTo B L i).length < (segOf L B[i]).length := by omega
  refine ⟨?_, by rw [e]; simp only [List.length_append]; omega⟩
  rw [e, List.getD, List.getElem?_append_right hj, List.getElem?_append_left hj2, List.getElem?_eq_getElem hj2]
  simp [segOf, segTo]
theorem brTo_take {B : List Br} {L : List Int} (h : TrieOk B L) : ∀ i, i ≤ B.length → brTo (runOf B L) (endAt B i).toNat = B.take i := by
  have hr := run_run h
  intro i
  induction i with
  | zero => intro _; simp [endAt, brTo]
  | succ i ih =>
    intro hi
    have ih := ih (by omega)
    have hi' : i < B.length := by omega
    obtain ⟨q1, q2, q3, q4⟩ := (h.2.1 i hi').1
    have hg : B.getD i Br.no = B[i] := by simp [List.getD, List.getElem?_eq_getElem hi']
    rw [hg] at q1 q2 q3 q4
    have h0 := endAt_nonneg (n := i) (fun j hj => (h.2.1 j (by omega)).1)
    have e : endAt B (i + 1) = B[i].t := by show (B.getD i Br.no).t = _; rw [hg]
    have hlast := run_key h hi' (j := B[i].t.toNat - 1) (by omega) (by omega)
    obtain ⟨f, hf, e2, hs, hb⟩ := brTo_split hr.2 B[i].t.toNat (by omega) (by omega)
    have hfl := hs (B[i].t.toNat - 1) (by omega) (by omega)
    have hff : f = B[i].f.toNat := by
      rcases Nat.lt_trichotomy f B[i].f.toNat with hc | hc | hc
      · exfalso
        have hc1 := hs (B[i].f.toNat - 1) (by omega) (by omega)
        have hi0 : i ≠ 0 := by
          intro e0; subst e0
          simp [endAt] at q1
          omega
        have hg1 : B.getD (i - 1) Br.no = B[i - 1] := by simp [List.getD, List.getElem?_eq_getElem (show i - 1 < B.length by omega)]
        have hprev := (h.2.1 (i - 1) (by omega)).1
        obtain ⟨p1, p2, p3, p4⟩ := hprev
        rw [hg1] at p1 p2 p3
        have hend : endAt B i = B[i - 1].t := by unfold endAt; rw [if_neg hi0, hg1]
        have h00 := endAt_nonneg (n := i - 1) (fun j hj => (h.2.1 j (by omega)).1)
        have hk := run_key h (show i - 1 < B.length by omega) (j := B[i].f.toNat - 1) (by omega) (by omega)
        rw [hg1] at q4
        rcases q4 with q4 | q4
        · exact hi0 q4
        · rw [hk.1] at hc1
          rw [hlast.1] at hfl
          omega
      · exact hc
      · exfalso
        have hc1 := hb (by omega)
        have hk1 := run_key h hi' (j := f - 1) (by omega) (by omega)
        have hk2 := run_key h hi' (j := f) (by omega) (by omega)
        rw [hk1.1, hk2.1] at hc1
        omega
    rw [e, e2, hff, List.take_succ_eq_append_getElem hi', q1, ih]
    have hk := run_key h hi' (j := B[i].f.toNat) (by omega) (by omega)
    rw [← q1, hk.1]
    congr 2
    cases hB : B[i]
    rw [hB] at q2 q3 q1
    simp at q1 q2 q3 ⊢
    omega
/-- Of of a trie's run is the trie. -/
theorem of_run {B : List Br} {L : List Int} (h : TrieOk B L) : brOf (runOf B L) = B := by
  have h1 := brTo_take h B.length (Nat.le_refl _)
  have h2 := runTo_len (L := L) (fun j hj => (h.2.1 j hj).1) (Nat.le_refl B.length)
  rw [runTo_all (Nat.le_refl _)] at h2
  unfold brOf
  rw [show (runOf B L).length = (endAt B B.length).toNat from by omega, h1, List.take_of_length_le (Nat.le_refl _)]

/-- The leaves under a key are the second numbers of the run's pairs with it. -/
theorem under_filter {B : List Br} {L : List Int} (h : TrieOk B L) (key : Int) : underL B L key = ((runOf B L).filter (fun p => p.a == key)).map Pr.b := by
  have hk := keys_rise h
  unfold underL runOf
  clear h
  induction B with
  | nil => simp
  | cons b B ih =>
    have hk' : ∀ i j, (hij : i < j) → (hj : j < B.length) → B[i].k < B[j].k := fun i j hij hj => by
      have := hk (i + 1) (j + 1) (by omega) (by simp only [List.length_cons]; omega)
      simp only [List.getElem_cons_succ] at this
      exact this
    have ih := ih hk'
    rw [List.flatMap_cons, List.filter_append, List.map_append]
    by_cases e : b.k = key
    · have h1 : (b :: B).find? (fun b => b.k == key) = some b := by simp [e]
      have h2 : B.find? (fun b => b.k == key) = none := by
        refine find_none (fun i hi he => ?_)
        have := hk 0 (i + 1) (by omega) (by simp; omega)
        simp at this
        omega
      rw [h2] at ih
      rw [h1, ← ih, List.append_nil]
      have h3 : (segOf L b).filter (fun p => p.a == key) = segOf L b := by
        rw [List.filter_eq_self]
        intro p hp
        have := (mem_seg.1 hp).1
        simp [this, e]
      rw [h3]
      unfold segOf segTo
      rw [List.map_map]
      exact (List.map_id _).symm
    · have h1 : (b :: B).find? (fun b => b.k == key) = B.find? (fun b => b.k == key) := by simp [e]
      have h3 : (segOf L b).filter (fun p => p.a == key) = [] := by
        rw [List.filter_eq_nil_iff]
        intro p hp
        have := (mem_seg.1 hp).1
        simp [this, e]
      rw [h1, h3, ih]
      rfl
/-- Numbers without those that stand behind an equal one, of the first i. -/
def onceTo (xs : List Int) : Nat → List Int
  | 0 => []
  | i + 1 => if i = 0 ∨ xs.getD (i - 1) 0 ≠ xs.getD i 0 then onceTo xs i ++ [xs.getD i 0] else onceTo xs i
theorem brTo_keys {l : List Pr} : ∀ i, i ≤ l.length → (brTo l i).map Br.k = onceTo (l.map Pr.a) i := by
  intro i
  induction i with
  | zero => intro _; rfl
  | succ i ih =>
    intro hi
    have ih := ih (by omega)
    have hst : ∀ (bs : List Br) (t : Int), bs ≠ [] → (setT bs t).map Br.k = bs.map Br.k := by
      intro bs t hne
      obtain ⟨init, b, rfl⟩ : ∃ init b, bs = init ++ [b] := ⟨bs.dropLast, bs.getLast hne, (List.dropLast_concat_getLast hne).symm⟩
      rw [setT_snoc]
      simp
    have e1 : ∀ j, j < l.length → (l.map Pr.a).getD j 0 = (l.getD j Pr.no).a := fun j hj => by simp [List.getD, List.getElem?_eq_getElem hj]
    show (setT (if newAt l i then _ else _) _).map Br.k = (if i = 0 ∨ _ then _ else _)
    by_cases hn : newAt l i
    · have hn' : i = 0 ∨ (l.map Pr.a).getD (i - 1) 0 ≠ (l.map Pr.a).getD i 0 := by
        rcases hn with h | h
        · exact .inl h
        · refine .inr ?_; rw [e1 _ (by omega), e1 _ (by omega)]; exact h
      rw [if_pos hn, if_pos hn', hst _ _ (by simp), List.map_append, ih, e1 _ (by omega)]
      rfl
    · have h0 : 0 < i := by
        rcases Nat.eq_zero_or_pos i with e | e
        · exact absurd (Or.inl e) hn
        · exact e
      have hn' : ¬ (i = 0 ∨ (l.map Pr.a).getD (i - 1) 0 ≠ (l.map Pr.a).getD i 0) := by
        rintro (h | h)
        · omega
        · rw [e1 _ (by omega), e1 _ (by omega)] at h; exact hn (.inr h)
      rw [if_neg hn, if_neg hn', hst _ _ (brTo_ne h0), ih]
theorem of_keys (l : List Pr) : (brOf l).map Br.k = onceTo (l.map Pr.a) l.length := brTo_keys l.length (Nat.le_refl _)
theorem has_pair {l : List Pr} (h : RunOk l) (p : Pr) : hasL (brOf l) (l.map Pr.b) [p.a, p.b] = decide (p ∈ l) := by
  show decide (p.b ∈ underL (brOf l) (l.map Pr.b) p.a) = _
  rw [under_filter (of_trie h), run_of h]
  refine decide_eq_decide.2 ?_
  rw [List.mem_map]
  constructor
  · rintro ⟨q, hq, e⟩
    obtain ⟨h1, h2⟩ := List.mem_filter.1 hq
    have h2 : q.a = p.a := by simpa using h2
    have : q = p := by cases q; cases p; simp at e h2 ⊢; exact ⟨h2, e⟩
    rw [← this]; exact h1
  · intro hp
    exact ⟨p, List.mem_filter.2 ⟨hp, by simp⟩, rfl⟩
end Go.Proofs.Ytdfnfdgkhflonaa
