/-
  A hypergraph with an edge more: of all vertices, or within another. Plain: no program in sight.
-/
import Derived.Test.YtplidcbfbonjlaaDoorHzLaw
namespace Go.Proofs.YtplidcbfbonjlaaDoor
set_option linter.unusedVariables false
set_option linter.unusedSimpArgs false

theorem edgeB_ok {m : Int} {e : List Int} (h : edgeB m e = true) {j : Nat} (hj : j < e.length) : elOk m e j = true := by
  cases q : elOk m e j with
  | true => rfl
  | false => rw [edge_no hj q] at h; cases h
theorem hypB_edge {m : Int} {E : List (List Int)} (h : hypB m E = true) {j : Nat} (hj : j < E.length) : edgeB m (rowN E j) = true := by
  unfold hypB at h
  rw [Bool.and_eq_true] at h
  cases q : edgeB m (rowN E j) with
  | true => rfl
  | false =>
    have := allR_no (ls := E) (p := fun _ e => edgeB m e) hj q
    rw [this] at h
    cases h.2
theorem rowN_app {E : List (List Int)} {x : List Int} {r : Nat} (h : r < E.length) : rowN (E ++ [x]) r = rowN E r := by
  unfold rowN
  rw [List.getD_eq_getElem?_getD, List.getElem?_append_left h, ← List.getD_eq_getElem?_getD]
theorem rowN_last {E : List (List Int)} {x : List Int} : rowN (E ++ [x]) E.length = x := by
  unfold rowN
  rw [List.getD_eq_getElem?_getD, List.getElem?_append_right (Nat.le_refl _), Nat.sub_self]; rfl
theorem hyp_app {m : Int} {E : List (List Int)} {x : List Int} (h : hypB m E = true) (hl : E.length < 40) (hx : edgeB m x = true) : hypB m (E ++ [x]) = true := by
  obtain ⟨h1, h2, -, -⟩ := hypB_yes h
  unfold hypB
  rw [Bool.and_eq_true]
  refine ⟨?_, allR_yes fun j hj => ?_⟩
  · unfold sizesB
    simp only [Bool.and_eq_true, decide_eq_true_eq]
    refine ⟨⟨h1, h2⟩, ?_⟩
    rw [List.length_append, List.length_singleton]
    omega
  · rw [List.length_append, List.length_singleton] at hj
    by_cases q : j < E.length
    · show edgeB m (rowN (E ++ [x]) j) = true
      rw [rowN_app q]; exact hypB_edge h q
    · obtain rfl : j = E.length := by omega
      show edgeB m (rowN (E ++ [x]) E.length) = true
      rw [rowN_last]; exact hx
theorem take_edge {m : Int} {e : List Int} (h : edgeB m e = true) (k : Nat) : edgeB m (e.take k) = true := by
  refine edge_yes fun j hj => ?_
  rw [List.length_take] at hj
  have h1 := edgeB_ok h (j := j) (by omega)
  have e1 : ∀ i, i < k → (e.take k).getD i 0 = e.getD i 0 := fun i hi => by
    rw [List.getD_eq_getElem?_getD, List.getD_eq_getElem?_getD, List.getElem?_take, if_pos hi]
  unfold elOk riseI at h1 ⊢
  rw [e1 j (by omega), e1 (j - 1) (by omega)]
  exact h1
def upL (k : Nat) : List Int := (List.range k).map fun (i : Nat) => (i : Int)
theorem upL_snoc (k : Nat) : upL (k + 1) = upL k ++ [(k : Int)] := by
  unfold upL
  rw [List.range_succ, List.map_append]; rfl
theorem upL_len (k : Nat) : (upL k).length = k := by unfold upL; simp
theorem upL_at {k j : Nat} (h : j < k) : (upL k).getD j 0 = (j : Int) := by
  unfold upL
  rw [List.getD_eq_getElem?_getD, List.getElem?_map, List.getElem?_range h]; rfl
theorem up_edge (k : Nat) : edgeB (k : Int) (upL k) = true := by
  refine edge_yes fun j hj => ?_
  rw [upL_len] at hj
  unfold elOk riseI
  rw [upL_at hj, upL_at (show j - 1 < k by omega)]
  simp only [Bool.and_eq_true, Bool.or_eq_true, decide_eq_true_eq]
  omega
theorem upL_mem {k : Nat} {x : Int} : x ∈ upL k ↔ 0 ≤ x ∧ x < k := by
  unfold upL
  rw [List.mem_map]
  constructor
  · rintro ⟨i, hi, rfl⟩
    have := List.mem_range.1 hi
    omega
  · rintro ⟨h1, h2⟩
    exact ⟨x.toNat, List.mem_range.2 (by omega), by omega⟩
/-- With an edge of all vertices it is acyclic. -/
theorem whole_tree {k : Nat} {E : List (List Int)} (h : hypB k E = true) (hl : E.length < 40) {P : List Int} {no : Int} (hT : TreeP k (E ++ [upL k]) P no) : no = 0 ∧ acB k (E ++ [upL k]) = true ∧ JoinP ((E ++ [upL k]).map setL) P := by
  have hy := hyp_app h hl (up_edge k)
  rcases hT.yes hy with ⟨h1, L, h2, h3, h4⟩ | ⟨h1, h2, c, hc, hL⟩
  · exact ⟨h1, acB_iff.2 ⟨hy, h4⟩, h3.join h2⟩
  · refine absurd (hL.whole (a := setL (upL k)) (by rw [List.map_append]; exact List.mem_append_right _ (List.mem_singleton.2 rfl)) fun e he => ?_) hc
    obtain ⟨r, hr, rfl⟩ := List.mem_map.1 he
    have hv := (hypB_yes hy).2.2.2
    intro v hvb
    rw [setL_bit (fun x hx => (hv r hr x hx).1), decide_eq_true_iff] at hvb
    rw [setL_bit (fun x hx => (upL_mem.1 hx).1), decide_eq_true_iff]
    exact upL_mem.2 (hv r hr _ hvb)
theorem NoFree.more {S : List Nat} {sx s0 : Nat} {V : Nat → Prop} (h : NoFree S V) (h0 : s0 ∈ S) (hs : Sub sx s0) : NoFree (S ++ [sx]) V := by
  have mx : ∀ e, MaxAt S V e → MaxAt (S ++ [sx]) V e := fun e he f hf hsub => by
    rcases List.mem_append.1 hf with hf | hf
    · exact he f hf hsub
    · obtain rfl := List.mem_singleton.1 hf
      intro x hx hfx
      exact he s0 h0 (fun y hy ey => hs y (hsub y hy ey)) x hx (hs x hfx)
  intro v hv
  obtain ⟨e, he, f, hf, h1, h2, h3, h4, h5⟩ := h v hv
  exact ⟨e, List.mem_append_left _ he, f, List.mem_append_left _ hf, h1, h2, mx e h3, mx f h4, h5⟩
theorem LeftOf.less {S cur : List Nat} {sx s0 : Nat} (h : LeftOf (S ++ [sx]) cur) (h0 : s0 ∈ S) (hs : Sub sx s0) : LeftOf S cur := by
  refine ⟨⟨fun c hc => ?_, fun e he => h.cof.up e (List.mem_append_left _ he)⟩, fun V hV => h.keep V (hV.more h0 hs), h.irr⟩
  obtain ⟨e, he, hsub⟩ := h.cof.low c hc
  rcases List.mem_append.1 he with he | he
  · exact ⟨e, he, hsub⟩
  · obtain rfl := List.mem_singleton.1 he
    exact ⟨s0, h0, fun v hv => hs v (hsub v hv)⟩
theorem sub_take {e : List Int} {k : Nat} (h : ∀ x ∈ e, 0 ≤ x) : Sub (setL (e.take k)) (setL e) := fun v hv => by
  rw [setL_bit (fun x hx => h x (List.mem_of_mem_take hx)), decide_eq_true_iff] at hv
  rw [setL_bit h, decide_eq_true_iff]
  exact List.mem_of_mem_take hv
/-- What an edge within another has changes nothing of what is left. -/
theorem left_more {m : Int} {E : List (List Int)} {j k : Nat} {o1 o2 : List (List Int)} (h : hypB m E = true) (hl : E.length < 40) (hj : j < E.length) (h1 : LeftP m (E ++ [(rowN E j).take k]) o1) (h2 : LeftP m E o2) : o1 = o2 := by
  obtain ⟨c, hc, hr, hm⟩ := h1.yes (hyp_app h hl (take_edge (hypB_edge h hj) k))
  rw [List.map_append] at hc
  have hc' := LeftOf.less hc (s0 := setL (rowN E j)) (List.mem_map.2 ⟨_, rowN_mem hj, rfl⟩) (sub_take fun x hx => ((hypB_yes h).2.2.2 _ (rowN_mem hj) x hx).1)
  exact LeftR.unique ⟨c, hc', hr, hm⟩ (h2.yes h)
theorem reach_more {E : List (List Int)} {j k : Nat} (hj : j < E.length) : Reach (E ++ [(rowN E j).take k]) = Reach E := by
  funext u v
  refine propext ⟨fun h => ?_, fun h => ?_⟩
  · induction h with
    | refl => exact .refl
    | step _ he hx hy ih =>
      rcases List.mem_append.1 he with he | he
      · exact .step ih he hx hy
      · obtain rfl := List.mem_singleton.1 he
        exact .step ih (rowN_mem hj) (List.mem_of_mem_take hx) (List.mem_of_mem_take hy)
  · induction h with
    | refl => exact .refl
    | step _ he hx hy ih => exact .step ih (List.mem_append_left _ he) hx hy
theorem parts_more {E : List (List Int)} {j k n : Nat} (hj : j < E.length) : partsTo (E ++ [(rowN E j).take k]) n = partsTo E n := by
  unfold partsTo
  have e : partL (E ++ [(rowN E j).take k]) = partL E := by
    funext v
    unfold partL
    rw [reach_more hj]
  rw [e, reach_more hj]
end Go.Proofs.YtplidcbfbonjlaaDoor
