/-
  Frames that agree but at some slots. No walk, no program.
-/
import Derived.Test.YtplidcbfbonjlaaDoorInv
namespace Go.Proofs.YtplidcbfbonjlaaDoor.Inv
open Go
set_option linter.unusedVariables false

/-- a is a0 but at the slots ds. -/
structure Ag (a0 : Act) (ds : List Nat) (a : Act) : Prop where
  defers : a.defers = a0.defers
  size : a.tmps.size = a0.tmps.size
  off : ∀ s, s ∉ ds → a.tmps[s]? = a0.tmps[s]?
theorem Ag.refl (a0 : Act) (ds : List Nat) : Ag a0 ds a0 := ⟨rfl, rfl, fun _ _ => rfl⟩
theorem Ag.put {a0 a : Act} {ds : List Nat} (h : Ag a0 ds a) {d : Nat} (hd : d ∈ ds) (v : Value) : Ag a0 ds (a.put (some d) v) :=
  ⟨h.defers, by simp [Act.put, h.size], fun s hs => by
    have hne : d ≠ s := fun e => hs (e ▸ hd)
    simp only [Act.put]
    rw [Array.getElem?_setIfInBounds_ne hne]
    exact h.off s hs⟩
theorem Ag.eval {a0 a : Act} {ds : List Nat} (h : Ag a0 ds a) {s : Nat} (hs : s ∉ ds) : a.eval (.tmp s) = a0.eval (.tmp s) := by
  simp only [Act.eval]
  rw [Array.getD_eq_getD_getElem?, Array.getD_eq_getD_getElem?, h.off s hs]
theorem eval_put_ne {a : Act} {d s : Nat} (h : d ≠ s) (v : Value) : (a.put (some d) v).eval (.tmp s) = a.eval (.tmp s) := by
  simp only [Act.eval, Act.put]
  rw [Array.getD_eq_getD_getElem?, Array.getD_eq_getD_getElem?, Array.getElem?_setIfInBounds_ne h]
theorem eval_put_same {a : Act} {d : Nat} (h : d < a.tmps.size) (v : Value) : (a.put (some d) v).eval (.tmp d) = v := by
  simp only [Act.eval, Act.put]
  simp [h]
theorem Ag.act {a0 a : Act} {ds : List Nat} (h : Ag a0 ds a) : a = ⟨ds.foldl (fun t d => t.setIfInBounds d (a.tmps.getD d undef)) a0.tmps, a0.defers⟩ := by
  have key : ∀ (l : List Nat) (t : Array Value), t.size = a.tmps.size → (l.foldl (fun t d => t.setIfInBounds d (a.tmps.getD d undef)) t).size = a.tmps.size ∧ ∀ s, (l.foldl (fun t d => t.setIfInBounds d (a.tmps.getD d undef)) t)[s]? = if s ∈ l then a.tmps[s]? else t[s]? := by
    intro l
    induction l with
    | nil => intro t ht; exact ⟨ht, fun s => by simp⟩
    | cons d l ih =>
      intro t ht
      obtain ⟨i1, i2⟩ := ih (t.setIfInBounds d (a.tmps.getD d undef)) (by simpa using ht)
      refine ⟨i1, fun s => ?_⟩
      rw [List.foldl_cons, i2 s]
      by_cases h1 : s ∈ l
      · simp [h1]
      · by_cases h2 : d = s
        · subst h2
          rcases Nat.lt_or_ge d a.tmps.size with h3 | h3
          · have h4 : d < t.size := by omega
            simp [h1, h3, h4]
          · have h4 : t.size ≤ d := by omega
            simp [h1, h3, h4]
        · simp [h1, h2, Ne.symm h2]
  obtain ⟨k1, k2⟩ := key ds a0.tmps h.size.symm
  have e1 : a.tmps = ds.foldl (fun t d => t.setIfInBounds d (a.tmps.getD d undef)) a0.tmps := by
    refine Array.ext_getElem? fun s => ?_
    rw [k2 s]
    split
    · rfl
    · next hs => exact h.off s hs
  obtain ⟨t, df⟩ := a
  obtain rfl := h.defers
  exact congrArg (fun t => Act.mk t _) e1

/-- One slot, and a block of slots behind it: the frame written out. -/
theorem Ag.block {a0 a : Act} {ds : List Nat} (h : Ag a0 ds a) (d s n : Nat) (hd : d < s) (hn : s + n ≤ a0.tmps.size) (hds : ∀ k, k ∈ ds → k = d ∨ (s ≤ k ∧ k < s + n)) :
    ∃ f : Nat → Value, a = ⟨(a0.tmps.toList.take d ++ a.tmps.getD d undef :: ((a0.tmps.toList.drop (d + 1)).take (s - (d + 1)) ++ ((List.range n).map f ++ a0.tmps.toList.drop (s + n)))).toArray, a0.defers⟩ := by
  refine ⟨fun j => a.tmps.getD (s + j) undef, ?_⟩
  have hsz := h.size
  have hl0 : a0.tmps.toList.length = a0.tmps.size := by simp
  have e1 : a.tmps = (a0.tmps.toList.take d ++ a.tmps.getD d undef :: ((a0.tmps.toList.drop (d + 1)).take (s - (d + 1)) ++ ((List.range n).map (fun j => a.tmps.getD (s + j) undef) ++ a0.tmps.toList.drop (s + n)))).toArray := by
    refine Array.ext_getElem? fun k => ?_
    have hoff : k ∉ ds → a.tmps[k]? = a0.tmps.toList[k]? := fun hk => by rw [h.off k hk]; simp
    refine Eq.trans ?_ ((show ∀ L : List Value, (L.toArray)[k]? = L[k]? from fun L => by simp) _).symm
    have hlt : (a0.tmps.toList.take d).length = d := by rw [List.length_take, hl0]; omega
    have hlm : ((a0.tmps.toList.drop (d + 1)).take (s - (d + 1))).length = s - (d + 1) := by rw [List.length_take, List.length_drop, hl0]; omega
    rcases Nat.lt_or_ge k d with h1 | h1
    · rw [List.getElem?_append_left (by omega), List.getElem?_take_of_lt h1]
      exact hoff (fun hk => by have := hds k hk; omega)
    · rw [List.getElem?_append_right (by omega), hlt]
      by_cases h2 : k = d
      · subst h2
        rw [Nat.sub_self, List.getElem?_cons_zero]
        have h3 : k < a.tmps.size := by omega
        simp [h3]
      · obtain ⟨j, hj⟩ : ∃ j, k - d = j + 1 := ⟨k - d - 1, by omega⟩
        rw [hj, List.getElem?_cons_succ]
        rcases Nat.lt_or_ge k s with h3 | h3
        · rw [List.getElem?_append_left (by omega), List.getElem?_take_of_lt (by omega), List.getElem?_drop]
          rw [show d + 1 + j = k from by omega]
          exact hoff (fun hk => by have := hds k hk; omega)
        · rw [List.getElem?_append_right (by omega), hlm]
          rcases Nat.lt_or_ge k (s + n) with h4 | h4
          · rw [List.getElem?_append_left (by simp; omega)]
            have h5 : k < a.tmps.size := by omega
            rw [List.getElem?_map, List.getElem?_range (by omega)]
            have h6 : s + (j - (s - (d + 1))) = k := by omega
            simp only [Option.map_some, h6]
            simp [h5]
          · rw [List.getElem?_append_right (by simp; omega), List.getElem?_drop]
            rw [List.length_map, List.length_range, show s + n + (j - (s - (d + 1)) - n) = k from by omega]
            exact hoff (fun hk => by have := hds k hk; omega)
  obtain ⟨t, df⟩ := a
  obtain rfl := h.defers
  exact congrArg (fun t => Act.mk t _) e1

/-- A state by facts: of each operation that is listed its fact stands. -/
structure Fa (n : Nat) (a0 : Act) (ds : List Nat) (F : Nat → Array Bool → Act → World → Prop) (L : Array Bool) (a : Act) (w : World) : Prop where
  ag : Ag a0 ds a
  facts : ∀ j, j < n → L.getD j false = true → F j L a w
theorem Fa.start {n : Nat} {a0 : Act} {ds : List Nat} {F : Nat → Array Bool → Act → World → Prop} {w : World} (m : Nat) : Fa n a0 ds F (Array.replicate m false) a0 w :=
  ⟨Ag.refl _ _, fun j _ h => by
    rw [Array.getD_eq_getD_getElem?, Array.getElem?_replicate] at h
    split at h <;> simp at h⟩
theorem Fa.step {n : Nat} {a0 : Act} {ds : List Nat} {F : Nat → Array Bool → Act → World → Prop} {L : Array Bool} {a : Act} {w w' : World} {i d : Nat} {v : Value} (h : Fa n a0 ds F L a w) (h0 : L.getD i true = false) (hd : d ∈ ds)
    (keep : ∀ j, j < n → j ≠ i → L.getD j false = true → F j L a w → F j (L.setIfInBounds i true) (a.put (some d) v) w') (new : F i (L.setIfInBounds i true) (a.put (some d) v) w') : Fa n a0 ds F (L.setIfInBounds i true) (a.put (some d) v) w' := by
  refine ⟨h.ag.put hd v, fun j hj hL => ?_⟩
  rw [listed_set h0] at hL
  by_cases e : i = j
  · subst e; exact new
  · simp [e] at hL
    exact keep j hj (fun e' => e e'.symm) (by simpa using hL) (h.facts j hj (by simpa using hL))
/-- An operation without a slot. -/
theorem Fa.step0 {n : Nat} {a0 : Act} {ds : List Nat} {F : Nat → Array Bool → Act → World → Prop} {L : Array Bool} {a : Act} {w w' : World} {i : Nat} (h : Fa n a0 ds F L a w) (h0 : L.getD i true = false)
    (keep : ∀ j, j < n → j ≠ i → L.getD j false = true → F j L a w → F j (L.setIfInBounds i true) a w') (new : F i (L.setIfInBounds i true) a w') : Fa n a0 ds F (L.setIfInBounds i true) a w' := by
  refine ⟨h.ag, fun j hj hL => ?_⟩
  rw [listed_set h0] at hL
  by_cases e : i = j
  · subst e; exact new
  · simp [e] at hL
    exact keep j hj (fun e' => e e'.symm) (by simpa using hL) (h.facts j hj (by simpa using hL))
end Go.Proofs.YtplidcbfbonjlaaDoor.Inv
