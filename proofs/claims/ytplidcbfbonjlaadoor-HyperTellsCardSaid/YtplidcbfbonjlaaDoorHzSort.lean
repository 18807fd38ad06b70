/-
  slices.SortFunc at rows of int by slices.Compare: rows of the call's own.
-/
import Derived.Shelf.SlSortCmp.NoneTotal
import Derived.Test.YtplidcbfbonjlaaDoorHzLay
import Derived.Test.YtplidcbfbonjlaaDoorHzCmp
namespace Go.Proofs.YtplidcbfbonjlaaDoor
open Go.RowKit Go.Sort Go.Shelf Go.Proofs
set_option linter.unusedVariables false

section
variable {enc : Nat → Value}
theorem holds_of_block {w : World} {g : Nat} {cur : Array Value} {e : TypeId} {d : Array Nat} (hb : w.heap[g]? = some (.cells cur e (0, 0))) (ht : cur.toList.take d.size = d.toList.map enc) : Holds enc w g 0 d := by
  intro j hj
  refine ⟨?_, by simp [World.frozen?, hb]⟩
  have h1 : (cur.toList.take d.size)[j]? = (d.toList.map enc)[j]? := by rw [ht]
  rw [List.getElem?_take_of_lt hj] at h1
  simp only [World.cell?, hb, Nat.zero_add]
  simp only [Option.isSome_none, Bool.false_eq_true, if_false]
  rw [← Array.getElem?_toList, h1]
  simp [hj]
theorem heap_sorted {w : World} {g n : Nat} {os : Array Obj} {cur : Array Value} {e : TypeId} {fr : Nat × Nat} (d : Array Nat) (hb : w.heap[g]? = some (.cells cur e fr)) :
    (sortWorld enc w g 0 n d os).heap[g]? = some (.cells (putCells enc 0 d cur) e fr) := by
  have hg : g < w.heap.size := (Array.getElem?_eq_some_iff.1 hb).1
  unfold sortWorld
  rw [heap_grow_old _ _ (by simpa using hg)]
  simp [putRow, mapBlock, Sort.ahead, Array.getElem?_modify, hb, onCells]
theorem grownBy_sorted {w : World} {g n : Nat} {os : Array Obj} (d : Array Nat) : w.grownBy (sortWorld enc w g 0 n d os) (some g) := by
  unfold sortWorld
  refine ⟨rfl, rfl, rfl, by simp, fun k hk hne => ?_⟩
  rw [heap_grow_old _ _ (by simpa using hk)]
  have : g ≠ k := fun e => hne (by rw [e])
  simp [putRow, mapBlock, Sort.ahead, Array.getElem?_modify, this]
theorem take_putCells (cur : Array Value) (d : Array Nat) (h : d.size ≤ cur.size) : (putCells enc 0 d cur).toList.take d.size = d.toList.map enc := by
  apply List.ext_getElem?
  intro j
  by_cases hj : j < d.size
  · rw [List.getElem?_take_of_lt hj, Array.getElem?_toList]
    simp [putCells, hj, show j < cur.size by omega]
  · rw [List.getElem?_take_eq_none (by omega), List.getElem?_eq_none (by simp; omega)]
end
theorem swo_cmp (rw' : Nat → List Int) : SWO (ltOf fun x y => cmpL (rw' x) (rw' y)) := by
  have lt : ∀ x y, ltOf (fun x y => cmpL (rw' x) (rw' y)) x y = true ↔ cmpL (rw' x) (rw' y) = -1 := fun x y => by
    unfold ltOf
    rw [decide_eq_true_iff]
    show cmpL (rw' x) (rw' y) < 0 ↔ _
    rcases cmpL_cases (rw' x) (rw' y) with e | e | e <;> rw [e] <;> decide
  have ltf : ∀ x y, ltOf (fun x y => cmpL (rw' x) (rw' y)) x y = false ↔ cmpL (rw' x) (rw' y) ≠ -1 := fun x y => by
    rw [← Bool.not_eq_true, lt]
  refine ⟨fun x => (ltf x x).2 (by rw [cmpL_self]; decide), fun x y z h1 h2 => ?_, fun x y z h1 h2 => ?_⟩
  · exact (lt x z).2 (cmpL_trans ((lt x y).1 h1) ((lt y z).1 h2))
  · refine (ltf x z).2 fun hxz => ?_
    have g1 := (ltf x y).1 h1
    have g2 := (ltf y z).1 h2
    rcases cmpL_cases (rw' x) (rw' y) with e | e | e
    · exact g1 e
    · rw [cmpL_eq e] at hxz
      exact g2 hxz
    · have h3 : cmpL (rw' y) (rw' x) = -1 := by rw [cmpL_neg (rw' x), e]
      exact g2 (cmpL_trans h3 hxz)
set_option maxHeartbeats 1000000 in
theorem sortI_any {w : World} {base : Nat} {v : Value} {ps : List (Value × List Int)} (hO : OwnRK .i64 3 27 base w v ps) (hbw : base ≤ w.heap.size) (hlen : ps.length < 4611686018427387904) :
    Calls Tryd.prog 40 #[v, .func (.func 41) #[] #[]] w fun e w' => e = .returned (.tuple #[]) ∧ ∃ ps', OwnRK .i64 3 27 base w' v ps' ∧ (∀ x, x ∈ ps'.map Prod.snd ↔ x ∈ ps.map Prod.snd) ∧ (∀ i j, i < j → j < (ps'.map Prod.snd).length → cmpL (rowN (ps'.map Prod.snd) j) (rowN (ps'.map Prod.snd) i) ≠ -1) ∧ ps'.Perm ps ∧ Below base w w' := by
  have hSn := fun a c w => AnyF.slices_SortFunc_none (P := Tryd.prog) (ρ := sortL_ren) { sortL with } a c (.func (.func 41) #[] #[]) w
  obtain ⟨m, hm⟩ : ∃ m, ps.length = m := ⟨_, rfl⟩
  by_cases h0 : m = 0
  · have hps : ps = [] := List.eq_nil_of_length_eq_zero (by omega)
    subst hps
    obtain ⟨a, c, rfl⟩ := owns_shape2 hO.own
    have hS := hSn a c w
    change Calls Tryd.prog 40 _ _ _ at hS
    refine hS.mono ?_
    rintro e w' ⟨rfl, rfl⟩
    exact ⟨rfl, [], hO, fun x => Iff.rfl, fun i j h1 h2 => (by simp at h2), List.Perm.refl _, Below.refl _ _⟩
  · obtain ⟨at_, hat⟩ : ∃ at_ : Nat → Value × List Int, at_ = fun i => ps.getD (if i < m then i else 0) (undef, []) := ⟨_, rfl⟩
    have hcl : ∀ i : Nat, (if i < m then i else 0) < ps.length := fun i => by split <;> omega
    have hatm : ∀ i, at_ i ∈ ps := fun i => by
      rw [hat]
      simp only [List.getD_eq_getElem?_getD, List.getElem?_eq_getElem (hcl i), Option.getD_some]
      exact List.getElem_mem (hcl i)
    have hpr : ps = (List.range m).map at_ := by
      refine List.ext_getElem (by simp [hm]) fun i h1 h2 => ?_
      have hi : i < m := by omega
      rw [List.getElem_map, List.getElem_range, hat]
      simp only [if_pos hi]
      simp [List.getD, h1]
    obtain ⟨enc, henc⟩ : ∃ enc : Nat → Value, enc = fun i => (at_ i).1 := ⟨_, rfl⟩
    have hex : ∀ i, enc i = (at_ i).1 := fun i => by rw [henc]
    have hone : OneCell enc := fun i => by
      rw [henc]
      obtain ⟨a, c, e⟩ := owns_shape2 (hO.rows _ (hatm i)).1
      simp only [e]
      rfl
    rcases hO.own.2 with ⟨rfl, h1⟩ | ⟨g, cap, cur, rfl, hg, hh, h1, h2, h3, h4⟩
    · exact absurd (hm ▸ h1) h0
    · have hlt : g < w.heap.size := (Array.getElem?_eq_some_iff.1 hh).1
      have hds : (Array.range m).size = m := Array.size_range
      have hfst : ps.map Prod.fst = (List.range m).map enc := by
        rw [hpr, List.map_map, henc]
        rfl
      have hHd : Holds enc w g 0 (Array.range m) := holds_of_block hh (by
        rw [hds]
        have h5 := h4
        rw [hm, Nat.mul_one] at h5
        rw [h5, hfst]
        simp)
      have eg : ∀ args w, (callFunc 41 args).run Tryd.prog w = .ok (.enter 41 args) w := enters_of Tryd.func41 (by kernel_rfl) rfl
      have hbelow : ∀ (q : Nat) (dk : Array Nat) (os : Array Obj), Below base w (sortWorld enc w g 0 q dk os) := fun q dk os => (Below.refl base w).grown (grownBy_sorted dk) hbw (fun k e => by cases e; exact hg)
      have hrow : ∀ (q : Nat) (dk : Array Nat) (os : Array Obj) (p : Value × List Int), p ∈ ps → (sortWorld enc w g 0 q dk os).ownsRow base 3 1 p.1 p.2.length (p.2.map (.int .i64)) := fun q dk os p hp =>
        own_grown hO.own (grownBy_sorted dk) (hO.rows p hp).1 (by decide)
      have hcmp : CmpLays1 Tryd.prog 41 #[] enc (fun x y => cmpL (at_ x).2 (at_ y).2) g 0 (Array.range m).size w := fun q os dk hs x y => by
        refine (CompareI_any (enc x) (enc y) (at_ x).2 (at_ y).2 _ (by rw [hex x]; exact SlI.of_owns (hrow q dk os _ (hatm x)) (hO.rows _ (hatm x)).2) (by rw [hex y]; exact SlI.of_owns (hrow q dk os _ (hatm y)) (hO.rows _ (hatm y)).2)).mono ?_
        rintro e w' ⟨rfl, rfl⟩
        exact ⟨rfl, 0, #[], by rw [grow_empty]; rfl⟩
      have hS := Any.slices_SortFunc sortL enc hone (fun x y => cmpL (at_ x).2 (at_ y).2) (swo_cmp fun x => (at_ x).2) 41 #[] g 0 cap (Array.range m) w eg hcmp hHd hlt (by rw [hds]; omega)
      change Calls Tryd.prog 40 _ _ _ at hS
      rw [hds] at hS
      rw [hm]
      refine hS.mono ?_
      rintro e w' ⟨rfl, d', q, os, hp, hs, rfl⟩
      obtain ⟨p1, -, p3⟩ := hp
      rw [hds] at p1
      have hperm : d'.toList.Perm (List.range m) := by
        have e1 : d'.extract 0 m = d' := by rw [← p1]; exact Array.extract_size
        have e2 : (Array.range m).extract 0 m = Array.range m := by
          have := Array.extract_size (xs := Array.range m)
          rwa [hds] at this
        rw [e1, e2] at p3
        simpa using p3
      have hdl : d'.toList.length = m := by simpa using p1
      have hpp : (d'.toList.map at_).Perm ps := by rw [hpr]; exact hperm.map at_
      refine ⟨rfl, d'.toList.map at_, ⟨⟨by simp, .inr ⟨g, cap, _, by simp [p1], hg, heap_sorted d' hh, by simp [p1]; omega, h2, by simpa [putCells] using h3, ?_⟩⟩, fun p hp => ⟨hrow q d' os p (hpp.mem_iff.1 hp), (hO.rows p (hpp.mem_iff.1 hp)).2⟩⟩, fun x => ?_, fun i j hij hj => ?_, hpp, hbelow _ _ _⟩
      · rw [Nat.mul_one, List.length_map, hdl]
        have := take_putCells (enc := enc) cur d' (by rw [p1]; omega)
        rw [p1] at this
        rw [this, henc, List.map_map]
        rfl
      · exact (hpp.map Prod.snd).mem_iff
      · rw [List.length_map, List.length_map, hdl] at hj
        have h5 := hs i j (Nat.zero_le _) hij hj
        rw [rowN_at (by rw [List.length_map, List.length_map]; omega), rowN_at (by rw [List.length_map, List.length_map]; omega), List.getElem_map, List.getElem_map, List.getElem_map, List.getElem_map]
        rw [getElem!_pos d' j (by omega), getElem!_pos d' i (by omega)] at h5
        unfold ltOf at h5
        have h6 : ¬ cmpL (at_ (d'[j]'(by omega))).2 (at_ (d'[i]'(by omega))).2 < 0 := of_decide_eq_false h5
        intro h7
        have h8 : cmpL (at_ (d'[j]'(by omega))).2 (at_ (d'[i]'(by omega))).2 = -1 := by simpa using h7
        rw [h8] at h6
        exact h6 (by decide)
end Go.Proofs.YtplidcbfbonjlaaDoor
