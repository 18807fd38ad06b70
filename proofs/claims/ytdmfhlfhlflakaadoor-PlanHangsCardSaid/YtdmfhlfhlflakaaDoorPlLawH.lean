/-
  The law PlanHangs, walked.
-/
import Derived.Test.YtdmfhlfhlflakaaDoorCos
import Derived.Test.YtdmfhlfhlflakaaDoorPlFew
import Derived.Test.YtdmfhlfhlflakaaDoorPlWakes
import Derived.Test.YtdmfhlfhlflakaaDoorPlOrdP
import Derived.Test.YtdmfhlfhlflakaaDoorHys
namespace Go.Proofs.YtdmfhlfhlflakaaDoor
section
set_option linter.unusedVariables false

theorem shpB_hyp {S : Shp} (h : shpB S = true) : hypB S.many S.edges = true := by
  unfold shpB at h
  rw [Bool.and_eq_true, Bool.and_eq_true] at h
  exact h.1.1
/-- May a variable be taken? -/
def Cand (S : Shp) (T : List Int) (near : Bool) (v : Nat) : Prop := (v : Int) ∉ T ∧ (near = true → nearB S T v = true)
theorem skip_cand {S : Shp} {T : List Int} {near : Bool} {v : Nat} : (decide ((v : Int) ∈ T) || (near && !nearB S T v)) = false ↔ Cand S T near v := by
  unfold Cand
  rw [Bool.or_eq_false_iff, decide_eq_false_iff_not]
  cases near <;> cases nearB S T v <;> simp
theorem passTo_is {S : Shp} {T : List Int} {near : Bool} : ∀ k : Nat, (passTo S T near k = -1 ∧ ∀ v, v < k → ¬ Cand S T near v) ∨ ∃ v : Nat, v < k ∧ passTo S T near k = v ∧ Cand S T near v
  | 0 => .inl ⟨rfl, fun v h => by omega⟩
  | k + 1 => by
    have ih := passTo_is (S := S) (T := T) (near := near) k
    cases hs : (decide ((k : Int) ∈ T) || (near && !nearB S T k)) with
    | true =>
      have hn : ¬ Cand S T near k := fun h => by rw [skip_cand.2 h] at hs; cases hs
      rw [passTo_skip hs]
      rcases ih with ⟨h1, h2⟩ | ⟨v, h1, h2, h3⟩
      · refine .inl ⟨h1, fun v hv => ?_⟩
        by_cases e : v = k
        · subst e; exact hn
        · exact h2 v (by omega)
      · exact .inr ⟨v, by omega, h2, h3⟩
    | false =>
      have hc := skip_cand.1 hs
      cases ht : (decide (passTo S T near k < 0) || !aheadB S (passTo S T near k) k) with
      | true =>
        rw [passTo_take hs ht]
        exact .inr ⟨k, by omega, rfl, hc⟩
      | false =>
        rw [passTo_leave hs ht]
        rcases ih with ⟨h1, h2⟩ | ⟨v, h1, h2, h3⟩
        · rw [h1] at ht
          simp at ht
        · exact .inr ⟨v, by omega, h2, h3⟩
theorem nodup_le : ∀ (l T : List Int), l.Nodup → (∀ x ∈ l, x ∈ T) → l.length ≤ T.length
  | [], _, _, _ => Nat.zero_le _
  | x :: l, T, hn, hs => by
    have hx := hs x List.mem_cons_self
    obtain ⟨h1, h2⟩ := List.nodup_cons.1 hn
    have := nodup_le l (T.erase x) h2 (fun y hy => (List.mem_erase_of_ne (fun e : y = x => h1 (e ▸ hy))).2 (hs y (List.mem_cons_of_mem _ hy)))
    have hp := List.length_pos_of_mem hx
    rw [List.length_erase_of_mem hx] at this
    rw [List.length_cons]
    omega
theorem free_one {n : Nat} {T : List Int} (h : T.length < n) : ∃ v : Nat, v < n ∧ (v : Int) ∉ T := by
  apply Classical.byContradiction
  intro hn
  have := nodup_le ((List.range n).map fun (i : Nat) => (i : Int)) T (List.Pairwise.map _ (fun a b (hab : a ≠ b) => by show (a : Int) ≠ (b : Int); omega) List.nodup_range) (fun x hx => by
    obtain ⟨i, hi, rfl⟩ := List.mem_map.1 hx
    exact Classical.byContradiction fun h1 => hn ⟨i, List.mem_range.1 hi, h1⟩)
  rw [List.length_map, List.length_range] at this
  omega
/-- The next one: not taken yet; near, or none is. -/
theorem nextV_is {S : Shp} {T : List Int} (h : T.length < S.many.toNat) : ∃ v : Nat, v < S.many.toNat ∧ nextV S T = v ∧ (v : Int) ∉ T ∧ (nearB S T v = true ∨ ∀ u : Nat, u < S.many.toNat → (u : Int) ∉ T → nearB S T u = false) := by
  unfold nextV
  rcases passTo_is (S := S) (T := T) (near := true) S.many.toNat with ⟨h1, h2⟩ | ⟨v, h1, h2, h3⟩
  · rw [if_neg (by omega)]
    rcases passTo_is (S := S) (T := T) (near := false) S.many.toNat with ⟨g1, g2⟩ | ⟨v, g1, g2, g3⟩
    · obtain ⟨v, hv, hT⟩ := free_one h
      exact (g2 v hv ⟨hT, fun e => by cases e⟩).elim
    · refine ⟨v, g1, g2, g3.1, .inr fun u hu hT => ?_⟩
      cases hn : nearB S T u with
      | false => rfl
      | true => exact (h2 u hu ⟨hT, fun _ => hn⟩).elim
  · rw [if_pos (by omega)]
    exact ⟨v, h1, h2, h3.1, .inl (h3.2 rfl)⟩
theorem chosen_take (S : Shp) : ∀ (n k : Nat), k ≤ n → (chosenTo S n).take k = chosenTo S k
  | 0, k, h => by obtain rfl : k = 0 := by omega
                  rfl
  | n + 1, k, h => by
    by_cases e : k = n + 1
    · subst e
      exact List.take_of_length_le (by rw [chosenTo_len]; omega)
    · show (chosenTo S n ++ [_]).take k = _
      rw [List.take_append_of_le_length (by rw [chosenTo_len]; omega), chosen_take S n k (by omega)]
theorem chosen_at {S : Shp} (h : shpB S = true) {n i : Nat} (hi : i < n) : (chosenTo S n).getD i 0 = nextV S (chosenTo S i) := by
  have h1 := chosen_take S n (i + 1) (by omega)
  rw [chosenTo_next h] at h1
  have h2 : ((chosenTo S n).take (i + 1))[i]? = some (nextV S (chosenTo S i)) := by
    rw [h1, List.getElem?_append_right (by rw [chosenTo_len]; omega), chosenTo_len]
    simp
  rw [List.getElem?_take, if_pos (by omega)] at h2
  rw [List.getD_eq_getElem?_getD, h2]
  rfl
theorem chosen_mem {S : Shp} (h : shpB S = true) {n : Nat} {x : Int} : x ∈ chosenTo S n ↔ ∃ i, i < n ∧ nextV S (chosenTo S i) = x := by
  constructor
  · intro hx
    obtain ⟨i, hi, e⟩ := List.getElem_of_mem hx
    have hi' := hi
    rw [chosenTo_len] at hi'
    exact ⟨i, hi', by rw [← chosen_at h hi', getD_at hi]; exact e⟩
  · rintro ⟨i, hi, rfl⟩
    rw [← chosen_at h hi, getD_at (by rw [chosenTo_len]; exact hi)]
    exact List.getElem_mem _
theorem chosen_next {S : Shp} {i : Nat} (hi : i < S.many.toNat) : ∃ v : Nat, v < S.many.toNat ∧ nextV S (chosenTo S i) = v ∧ (v : Int) ∉ chosenTo S i ∧ (nearB S (chosenTo S i) v = true ∨ ∀ u : Nat, u < S.many.toNat → (u : Int) ∉ chosenTo S i → nearB S (chosenTo S i) u = false) :=
  nextV_is (by rw [chosenTo_len]; exact hi)
theorem chosen_orders {S : Shp} (h : shpB S = true) : ordersB S.many (chosenTo S S.many.toNat) = true := by
  have hm := (shpB_yes h).1
  unfold ordersB
  rw [Bool.and_eq_true, chosenTo_len, decide_eq_true_eq]
  refine ⟨List.all_eq_true.2 fun i hi => ?_, by omega⟩
  have hi := List.mem_range.1 hi
  obtain ⟨v, h1, h2, h3, -⟩ := chosen_next hi
  unfold ordAt
  rw [chosen_at h hi, h2, chosen_take S _ i (by omega)]
  simp only [Bool.and_eq_true, Bool.not_eq_true', decide_eq_true_eq, decide_eq_false_iff_not]
  exact ⟨by omega, by omega, h3⟩
/-- All variables are chosen. -/
theorem chosen_all {S : Shp} (h : shpB S = true) {v : Nat} (hv : v < S.many.toNat) : (v : Int) ∈ chosenTo S S.many.toNat := by
  apply Classical.byContradiction
  intro hn
  have hnd : ∀ n, n ≤ S.many.toNat → (chosenTo S n).Nodup := by
    intro n
    induction n with
    | zero => intro _; exact List.nodup_nil
    | succ n ih =>
      intro hl
      obtain ⟨u, h1, h2, h3, -⟩ := chosen_next (S := S) (i := n) (by omega)
      rw [chosenTo_next h, h2]
      refine List.nodup_append.2 ⟨ih (by omega), by simp, fun a ha b hb => ?_⟩
      obtain rfl := List.mem_singleton.1 hb
      exact fun e => h3 (e ▸ ha)
  have h1 := nodup_le ((v : Int) :: chosenTo S S.many.toNat) ((List.range S.many.toNat).map fun (i : Nat) => (i : Int)) (List.nodup_cons.2 ⟨hn, hnd _ (Nat.le_refl _)⟩) (fun x hx => by
    rcases List.mem_cons.1 hx with e | hx
    · exact List.mem_map.2 ⟨v, List.mem_range.2 hv, e.symm⟩
    · obtain ⟨i, hi, rfl⟩ := (chosen_mem h).1 hx
      obtain ⟨u, g1, g2, -⟩ := chosen_next (S := S) hi
      exact List.mem_map.2 ⟨u, List.mem_range.2 g1, g2.symm⟩)
  rw [List.length_cons, chosenTo_len, List.length_map, List.length_range] at h1
  omega
/-- The first one of a part in an order. -/
def firstAt (o p : List Int) : Nat := o.findIdx fun v => decide (v ∈ p)
/-- The first ones of the parts. -/
noncomputable def firstsL (o : List Int) (ps : List (List Int)) : List Int := ps.map fun p => o.getD (firstAt o p) 0
open Classical in
theorem part_of (ls : List (List Int)) (hv : VertsOk ls) {n x : Nat} (hx : x < n) (hn : n ≤ 64) : ∃ u : Nat, u < n ∧ partL ls u ∈ partsTo ls n ∧ (x : Int) ∈ partL ls u := by
  obtain ⟨u, hu, hmin⟩ := least_of (p := fun u => Reach ls ((u : Nat) : Int) (x : Int)) ⟨x, .refl⟩
  have hux := hmin x .refl
  refine ⟨u, by omega, ?_, (partL_mem hv (by omega)).2 hu⟩
  unfold partsTo
  refine List.mem_map.2 ⟨u, List.mem_filter.2 ⟨List.mem_range.2 (by omega), decide_eq_true fun t ht hr => ?_⟩, rfl⟩
  have := hmin t (hr.trans hu)
  omega
theorem hangs {S : Shp} (h : shpB S = true) {i v : Nat} (hi : i < S.many.toNat) (hv : nextV S (chosenTo S i) = v) : ((v : Int) ∈ firstsL (chosenTo S S.many.toNat) (partsTo S.edges S.many.toNat)) ↔ nearB S (chosenTo S i) v = false := by
  have hok := hypB_ok (shpB_hyp h)
  obtain ⟨hm0, hm32, -, hel⟩ := hypB_yes (shpB_hyp h)
  obtain ⟨v', h1, h2, h3, h4⟩ := chosen_next (S := S) hi
  obtain rfl : v = v' := by omega
  have hat : ∀ j, j < S.many.toNat → (chosenTo S S.many.toNat).getD j 0 = nextV S (chosenTo S j) := fun j hj => chosen_at h hj
  have hle : ∀ {j : Nat}, j < S.many.toNat → nextV S (chosenTo S j) = v → j = i := by
    intro j hj e
    rcases Nat.lt_trichotomy j i with hl | hl | hl
    · exact (h3 ((chosen_mem h).2 ⟨j, hl, e⟩)).elim
    · exact hl
    · obtain ⟨u, g1, g2, g3, -⟩ := chosen_next (S := S) hj
      refine (g3 ((chosen_mem h).2 ⟨i, hl, ?_⟩)).elim
      omega
  constructor
  · intro hF
    obtain ⟨p, hp, he⟩ := List.mem_map.1 hF
    obtain ⟨u, hu, rfl⟩ := List.mem_map.1 (show p ∈ ((List.range S.many.toNat).filter _).map (partL S.edges) from hp)
    have hun := List.mem_range.1 (List.mem_filter.1 hu).1
    have hu64 : u < 64 := by omega
    have hlt : firstAt (chosenTo S S.many.toNat) (partL S.edges u) < (chosenTo S S.many.toNat).length :=
      List.findIdx_lt_length_of_exists ⟨u, chosen_all h hun, decide_eq_true ((partL_mem hok hu64).2 .refl)⟩
    have hin : (chosenTo S S.many.toNat)[firstAt (chosenTo S S.many.toNat) (partL S.edges u)]'hlt ∈ partL S.edges u := of_decide_eq_true (p := (chosenTo S S.many.toNat)[firstAt (chosenTo S S.many.toNat) (partL S.edges u)]'hlt ∈ partL S.edges u) (List.findIdx_getElem (p := fun v => decide (v ∈ partL S.edges u)) (w := hlt))
    have hlt' := hlt
    rw [chosenTo_len] at hlt'
    have e1 := he
    rw [hat _ hlt'] at e1
    have e2 := hle hlt' e1
    cases hn : nearB S (chosenTo S i) v with
    | false => rfl
    | true =>
      exfalso
      unfold nearB at hn
      obtain ⟨e, hem, hb⟩ := List.any_eq_true.1 hn
      rw [Bool.and_eq_true, decide_eq_true_eq] at hb
      obtain ⟨w, hwe, hwT⟩ := List.any_eq_true.1 hb.2
      have hwT := of_decide_eq_true hwT
      have hvp : Reach S.edges u v := (partL_mem hok hu64).1 (by
        rw [getD_at hlt] at he
        rw [← he]; exact hin)
      have hwp : w ∈ partL S.edges u := (partL_mem hok hu64).2 (.step hvp hem hb.1 hwe)
      obtain ⟨j, hj, ej⟩ := (chosen_mem h).1 hwT
      have hnot := List.not_of_lt_findIdx (p := fun x => decide (x ∈ partL S.edges u)) (xs := chosenTo S S.many.toNat) (i := j) (by show j < firstAt _ _; omega)
      rw [← getD_at (by rw [chosenTo_len]; omega), hat j (by omega), ej] at hnot
      simp [hwp] at hnot
  · intro hn
    obtain ⟨u, hun, hup, hvp⟩ := part_of S.edges hok h1 (show S.many.toNat ≤ 64 by omega)
    have hu64 : u < 64 := by omega
    have hrv := (partL_mem hok hu64).1 hvp
    have hlt : firstAt (chosenTo S S.many.toNat) (partL S.edges u) < (chosenTo S S.many.toNat).length :=
      List.findIdx_lt_length_of_exists ⟨v, chosen_all h h1, decide_eq_true hvp⟩
    have hin : (chosenTo S S.many.toNat)[firstAt (chosenTo S S.many.toNat) (partL S.edges u)]'hlt ∈ partL S.edges u := of_decide_eq_true (p := (chosenTo S S.many.toNat)[firstAt (chosenTo S S.many.toNat) (partL S.edges u)]'hlt ∈ partL S.edges u) (List.findIdx_getElem (p := fun v => decide (v ∈ partL S.edges u)) (w := hlt))
    have hlt' := hlt
    rw [chosenTo_len] at hlt'
    obtain ⟨a, ha⟩ : ∃ a, firstAt (chosenTo S S.many.toNat) (partL S.edges u) = a := ⟨_, rfl⟩
    have hai : a ≤ i := by
      refine Nat.le_of_not_lt fun hl => ?_
      have hnot := List.not_of_lt_findIdx (p := fun x => decide (x ∈ partL S.edges u)) (xs := chosenTo S S.many.toNat) (i := i) (by show i < firstAt _ _; omega)
      rw [← getD_at (by rw [chosenTo_len]; omega), hat i hi, hv] at hnot
      simp [hvp] at hnot
    have hwp : nextV S (chosenTo S a) ∈ partL S.edges u := by
      rw [← getD_at hlt, hat _ hlt'] at hin
      rw [← ha]; exact hin
    have hrw := (partL_mem hok hu64).1 hwp
    by_cases e : a = i
    · refine List.mem_map.2 ⟨_, hup, ?_⟩
      rw [hat _ hlt', ha, e, hv]
    · exfalso
      have hwT : nextV S (chosenTo S a) ∈ chosenTo S i := (chosen_mem h).2 ⟨a, by omega, rfl⟩
      have hnone : ∀ u : Nat, u < S.many.toNat → (u : Int) ∉ chosenTo S i → nearB S (chosenTo S i) u = false := by
        rcases h4 with h4 | h4
        · rw [hn] at h4; cases h4
        · exact h4
      have hcl : ∀ x, Reach S.edges (nextV S (chosenTo S a)) x → x ∈ chosenTo S i := by
        intro x hx
        induction hx with
        | refl => exact hwT
        | step hr hem hx hy ih =>
          rename_i x y e
          apply Classical.byContradiction
          intro hny
          have hb := hel e hem y hy
          have := hnone y.toNat (by omega) (by rw [Int.toNat_of_nonneg hb.1]; exact hny)
          rw [Int.toNat_of_nonneg hb.1] at this
          unfold nearB at this
          have h5 := List.any_eq_false.1 this e hem
          rw [Bool.and_eq_true, decide_eq_true_eq] at h5
          exact h5 ⟨hy, List.any_eq_true.2 ⟨x, hx, decide_eq_true ih⟩⟩
      exact h3 (hcl v (hrw.symm.trans hrv))
end
open Go.RowKit Go.Shelf Go.Maps Go.Lib
set_option linter.unusedVariables false
set_option linter.unusedSimpArgs false

theorem hang1_any {x : Nat} {pv : Value} {p : List Int} {v : Int} {W : World} (h : W.heap[x]? = some (.cells #[pv] 25 (0, 0))) (hp : SlI .i64 W pv p) :
    Calls Tryd.prog 42 #[.int .i64 v, .pointer (some ⟨x, 0, none⟩)] W fun e w' => e = .returned (.bool (decide (v ∈ p))) ∧ Below W.heap.size W w' := by
  have c0 : W.cell? ⟨x, 0, none⟩ = some pv := by simpa using box_cell (i := 0) h
  have HC := Lib.hid ((Contains_any pv p v W hp).mono (fun e w' (h : _ ∧ _) => (⟨h.1, by rw [h.2]; exact later_refl _⟩ : e = .returned (.bool (decide (v ∈ p))) ∧ Below W.heap.size W w')))
  obtain ⟨a, c, rfl, -⟩ := hp.open
  clear h hp
  go_enter Tryd.func42, Tryd.ntmps42
  go_wp2_with fail
  refine HC.out.mono ?_
  rintro e w' ⟨rfl, hb⟩
  have HB := Lib.hid hb
  clear hb
  go_wp2_with fail
  go_ret
  exact ⟨rfl, HB.out⟩
theorem hang21_any {x : Nat} {pv : Value} {p : List Int} {v : Int} {W : World} (h : W.heap[x]? = some (.cells #[pv] 25 (0, 0))) (hp : SlI .i64 W pv p) :
    Calls Tryd.prog 47 #[.int .i64 v, .pointer (some ⟨x, 0, none⟩)] W fun e w' => e = .returned (.bool (decide (v ∈ p))) ∧ Below W.heap.size W w' := by
  have c0 : W.cell? ⟨x, 0, none⟩ = some pv := by simpa using box_cell (i := 0) h
  have HC := Lib.hid ((Contains_any pv p v W hp).mono (fun e w' (h : _ ∧ _) => (⟨h.1, by rw [h.2]; exact later_refl _⟩ : e = .returned (.bool (decide (v ∈ p))) ∧ Below W.heap.size W w')))
  obtain ⟨a, c, rfl, -⟩ := hp.open
  clear h hp
  go_enter Tryd.func47, Tryd.ntmps47
  go_wp2_with fail
  refine HC.out.mono ?_
  rintro e w' ⟨rfl, hb⟩
  have HB := Lib.hid hb
  clear hb
  go_wp2_with fail
  go_ret
  exact ⟨rfl, HB.out⟩
set_option maxHeartbeats 1000000 in
theorem hang2_any {xv xo xi i : Nat} {ov ev : Value} {o e : List Int} {v : Int} {W : World} (hv : W.heap[xv]? = some (.cells #[.int .i64 v] 3 (0, 0))) (ho : W.heap[xo]? = some (.cells #[ov] 25 (0, 0))) (hi : W.heap[xi]? = some (.cells #[.int .i64 (i : Int)] 3 (0, 0))) (hO : SlI .i64 W ov o) (hE : SlI .i64 W ev e) (hil : i ≤ o.length) :
    Calls Tryd.prog 45 #[ev, .pointer (some ⟨xv, 0, none⟩), .pointer (some ⟨xo, 0, none⟩), .pointer (some ⟨xi, 0, none⟩)] W fun en w' => en = .returned (.bool (togE (o.take i) v e)) ∧ Below W.heap.size W w' := by
  have hb0 := later_alloc W (.cells #[ev] 25)
  have hEn : Enters 47 := enters_of Tryd.func47 (by kernel_rfl) rfl
  have HC := Lib.hid ((Contains_any ev e v _ (hE.later hb0)).mono (fun en w' (h : _ ∧ _) => (⟨h.1, by rw [h.2]; exact later_refl _⟩ : en = .returned (.bool (decide (v ∈ e))) ∧ Below (W.alloc (.cells #[ev] 25)).heap.size (W.alloc (.cells #[ev] 25)) w')))
  have hx := box_new W #[ev] 25
  obtain ⟨ao, co, rfl, ho1, ho2, -⟩ := hO.open
  have hcut := SlI.cut2 hO hil
  have HF : Hid (∀ W', Below (W.alloc (.cells #[ev] 25)).heap.size (W.alloc (.cells #[ev] 25)) W' → Calls Tryd.prog 46 #[.slice ao i co, .func (.func 47) #[] #[.pointer (some ⟨W.heap.size, 0, none⟩)]] W' fun e' w' => e' = .returned (.bool ((o.take i).any fun w => decide (w ∈ e))) ∧ Below W'.heap.size W' w') := Lib.hid (fun W' hb' =>
    ContainsFunc_any hEn ((SlI.later hcut hb0).later hb') fun x _ W2 hb2 => hang21_any (kept (later_trans hb' hb2) hx) ((hE.later hb0).later (later_trans hb' hb2)))
  have c0 : W.cell? ⟨xv, 0, none⟩ = some (.int .i64 v) := by simpa using box_cell (i := 0) hv
  have c1 : W.cell? ⟨xo, 0, none⟩ = some (.slice ao o.length co) := by simpa using box_cell (i := 0) ho
  have c2 : W.cell? ⟨xi, 0, none⟩ = some (.int .i64 (i : Int)) := by simpa using box_cell (i := 0) hi
  have lv := lt_of_block hv
  have lo := lt_of_block ho
  have li := lt_of_block hi
  have hmf : ∀ (fn : Fn) (first cap : Array Value) (w : World), (Instr.makeFunc fn first cap).run Tryd.prog w = .ok (.func fn first cap) w := fun _ _ _ _ => rfl
  obtain ⟨ae, ce, rfl, -⟩ := hE.open
  have hilI : (i : Int) ≤ o.length := by omega
  have hico : i ≤ co := by omega
  have HX := Lib.hid hx
  clear hE hO hb0 hcut hx hv ho hi hEn
  by_cases hin : v ∈ e
  · rw [decide_eq_true hin] at HC
    have HV := Lib.hid hin
    clear hin
    go_enter Tryd.func45, Tryd.ntmps45
    go_wp2_with fail
    refine HC.out.mono ?_
    rintro en w1 ⟨rfl, hb1⟩
    have x0 : w1.cell? ⟨W.heap.size, 0, none⟩ = some (.slice ae e.length ce) := by simpa using box_cell (i := 0) (kept hb1 HX.out)
    have HB1 := Lib.hid hb1
    have c1' := cell_next (later_trans (later_alloc W _) hb1) c1
    have c2' := cell_next (later_trans (later_alloc W _) hb1) c2
    clear hb1
    go_wp2_with fail
    refine (HF.out _ HB1.out).mono ?_
    rintro en w2 ⟨rfl, hb2⟩
    have HB2 := Lib.hid (below_new (later_trans HB1.out hb2))
    clear hb2
    go_wp2_with fail
    go_ret
    refine ⟨?_, HB2.out⟩
    unfold togE
    rw [decide_eq_true HV.out, Bool.true_and]
    rfl
  · rw [decide_eq_false hin] at HC
    have HV := Lib.hid hin
    clear hin
    go_enter Tryd.func45, Tryd.ntmps45
    go_wp2_with fail
    refine HC.out.mono ?_
    rintro en w1 ⟨rfl, hb1⟩
    have HB1 := Lib.hid (below_new hb1)
    clear hb1
    go_wp2_with fail
    go_ret
    refine ⟨?_, HB1.out⟩
    unfold togE
    rw [decide_eq_false HV.out, Bool.false_and]
    rfl
theorem best_two {S : Shp} {o : List Int} (h : shpB S = true) (ho : ordersB S.many o = true) : bestX S [o, o] = 0 ∧ bestE S [o, o] = 0 := by
  have hbad : badOs S.many [o, o] = false := by unfold badOs; simp [ho]
  have hbi : bestI S [o, o] = 0 := by
    unfold bestI
    have e0 : cO S [o, o] 0 = cO S [o, o] 1 := rfl
    show ((bestTo (cO S [o, o]) 2).getD 0 : Nat) = (0 : Int)
    by_cases hc : cO S [o, o] 0 < 340282366920938463463374607431768211456
    · rw [bestTo_more (by rw [← e0]; exact hc) (bestTo_first hc rfl) (by show ¬ cO S [o, o] 1 < cO S [o, o] 0; rw [e0]; omega)]
      rfl
    · rw [bestTo_over (by rw [← e0]; exact hc), bestTo_over hc]
      rfl
  constructor
  · unfold bestX
    rw [if_pos h, if_neg (by simp), hbad, if_neg (by decide), hbi]
  · unfold bestE
    rw [if_pos h, if_neg (by simp), hbad, if_neg (by decide)]
theorem two_rows {w : World} {ov : Value} {o : List Int} (h : SlI .i64 w ov o) : SlRK .i64 (w.alloc (.cells #[ov, ov] 25)) (.slice (some ⟨w.heap.size, 0, none⟩) 2 2) [o, o] := by
  refine ⟨fun _ => ov, ⟨some ⟨w.heap.size, 0, none⟩, 2, rfl, Nat.le_refl _, (by unfold maxLen; omega), (fun h => by cases h), fun _ => ⟨_, _, rfl, (by simp), fun i u hu => ?_⟩⟩, fun r hr => ?_⟩
  · have hb := box_new w #[ov, ov] 25
    match i, hu with
    | 0, hu =>
      have e : ov = u := by simpa using hu
      rw [← e]
      exact box_cell (i := 0) hb
    | 1, hu =>
      have e : ov = u := by simpa using hu
      rw [← e]
      exact box_cell (i := 1) hb
    | i + 2, hu => simp at hu
  · have e : rowN [o, o] r = o := by
      match r, hr with
      | 0, _ => rfl
      | 1, _ => rfl
      | r + 2, hr => exact absurd hr (by show ¬ r + 2 < 2; omega)
    rw [e]
    exact h.alloc _
theorem part_idx {S : Shp} (h : shpB S = true) {p : List Int} (hp : p ∈ partsTo S.edges S.many.toNat) : firstAt (chosenTo S S.many.toNat) p < (chosenTo S S.many.toNat).length ∧ idxP (chosenTo S S.many.toNat) (fun v => decide (v ∈ p)) = (firstAt (chosenTo S S.many.toNat) p : Nat) := by
  have hok := hypB_ok (shpB_hyp h)
  have hm := (shpB_yes h).2.1
  obtain ⟨u, hu, rfl⟩ := List.mem_map.1 (show p ∈ ((List.range S.many.toNat).filter _).map (partL S.edges) from hp)
  have hun := List.mem_range.1 (List.mem_filter.1 hu).1
  have hex : ∃ x, x ∈ chosenTo S S.many.toNat ∧ (fun v => decide (v ∈ partL S.edges u)) x = true := ⟨u, chosen_all h hun, decide_eq_true ((partL_mem hok (by omega)).2 .refl)⟩
  refine ⟨List.findIdx_lt_length_of_exists hex, ?_⟩
  unfold idxP
  rw [if_pos (List.any_eq_true.2 hex)]
  rfl
/-- What stands while the law goes on. -/
structure HgW (w : World) (m : Int) (ev sv : Value) (S : Shp) (Y Z : Nat) (ov : Value) (o : List Int) (W : World) : Prop where
  bel : Below w.heap.size w W
  box : SB W Y m ev sv
  own : ShR W ev sv S
  boz : W.heap[Z]? = some (.cells #[ov] 25 (0, 0))
  row : SlI .i64 W ov o
  low : w.heap.size ≤ Y ∧ Y < Z
theorem HgW.later {w W W' : World} {m : Int} {ev sv ov : Value} {S : Shp} {Y Z : Nat} {o : List Int} (h : HgW w m ev sv S Y Z ov o W) (hb : Below W.heap.size W W') : HgW w m ev sv S Y Z ov o W' :=
  ⟨later_trans h.bel hb, kept hb h.box, h.own.later hb, kept hb h.boz, SlI.later h.row hb, h.low⟩

theorem MapsOnly.cell {A B : World} (h : MapsOnly A B) {a : Addr} {u : Value} (hc : A.cell? a = some u) : B.cell? a = some u := by
  unfold World.cell? at hc ⊢
  cases hb : A.heap[a.block]? with
  | none => rw [hb] at hc; cases hc
  | some o =>
    rw [hb] at hc
    cases o with
    | cells c e f => rw [h.block _ _ hb (fun _ _ e => by cases e)]; exact hc
    | _ => cases hc
theorem SlC.maps {A B : World} {v : Value} {cs : List Value} (h : SlC A v cs) (hm : MapsOnly A B) : SlC B v cs := by
  obtain ⟨a, c, h1, h2, h3, h4, h5⟩ := h
  refine ⟨a, c, h1, h2, h3, h4, fun hn => ?_⟩
  obtain ⟨b, o, e, hb, hc⟩ := h5 hn
  exact ⟨b, o, e, Nat.lt_of_lt_of_le hb hm.size, fun i u hu => hm.cell (hc i u hu)⟩
theorem SlI.maps {k : IntKind} {A B : World} {v : Value} {xs : List Int} (h : SlI k A v xs) (hm : MapsOnly A B) : SlI k B v xs := ⟨h.1.maps hm, h.2⟩
theorem SlRK.maps {k : IntKind} {A B : World} {v : Value} {ls : List (List Int)} (h : SlRK k A v ls) (hm : MapsOnly A B) : SlRK k B v ls := by
  obtain ⟨rv, h1, h2⟩ := h
  exact ⟨rv, h1.maps hm, fun r hr => (h2 r hr).maps hm⟩
theorem ShR.maps {A B : World} {ev sv : Value} {S : Shp} (h : ShR A ev sv S) (hm : MapsOnly A B) : ShR B ev sv S := ⟨h.edges.maps hm, h.sizes.maps hm, h.many⟩
theorem HgW.maps {w A B : World} {m : Int} {ev sv ov : Value} {S : Shp} {Y Z : Nat} {o : List Int} (h : HgW w m ev sv S Y Z ov o A) (hm : MapsOnly A B) (hb : Below w.heap.size w B) : HgW w m ev sv S Y Z ov o B :=
  ⟨hb, hm.block _ _ h.box (fun _ _ e => by cases e), h.own.maps hm, hm.block _ _ h.boz (fun _ _ e => by cases e), h.row.maps hm, h.low⟩

set_option maxRecDepth 100000 in
set_option maxHeartbeats 8000000 in
theorem planHangs_any (S : Shp) (ev sv : Value) (w : World) (h : ShR w ev sv S) (hT : TabW w) (hO : One w) :
    Calls Tryd.prog 8 #[shpV S.many ev sv] w fun e w' => e = .returned (.bool true) ∧ Below w.heap.size w w' := by
  obtain ⟨S2, hS2⟩ : ∃ S2, S2 = ownS S := ⟨_, rfl⟩
  have hm2 : S2.many = S.many := by rw [hS2]; rfl
  obtain ⟨m, ls, zs⟩ := S
  simp only at hm2 ⊢
  have H := Lib.hid (And.intro h (And.intro hT hO))
  have HM := Lib.hid (And.intro hm2 hS2)
  obtain ⟨ae, ce, rfl, -⟩ := h.edges.open
  obtain ⟨az, cz, rfl, -⟩ := h.sizes.open
  simp only at H ⊢
  clear h hT hO hm2 hS2
  go_enter Tryd.func8, Tryd.ntmps8
  have H0 := Lib.hid (And.intro (box_new w #[.int .i64 m, .slice ae ls.length ce, .slice az zs.length cz] 27) (later_alloc w (.cells #[.int .i64 m, .slice ae ls.length ce, .slice az zs.length cz] 27)))
  go_wp2_with fail
  refine (wakes_any _ (H.out.2.2.later H0.out.2)).mono ?_
  rintro e w1 ⟨rfl, hb1⟩
  have H1 := Lib.hid (And.intro (kept hb1 H0.out.1) (later_trans H0.out.2 hb1))
  obtain ⟨c0, c1, c2, f0, f1, f2, lN⟩ := three_of H1.out.1
  clear hb1
  go_wp2_with fail
  refine (own_any ⟨m, ls, zs⟩ _ _ _ (H.out.1.later H1.out.2)).mono ?_
  rintro e w2 ⟨ev2, sv2, rfl, hS2, hb2⟩
  rw [← HM.out.2] at hS2
  have hb2' := later_trans hb2 (later_alloc w2 (.cells #[.int .i64 m, ev2, sv2] 27))
  have hX2 := box_new w2 #[.int .i64 m, ev2, sv2] 27
  have hSh := hS2.shR.later (later_alloc w2 (.cells #[.int .i64 m, ev2, sv2] 27))
  obtain ⟨p1, q1, rfl, -⟩ := hS2.shR.edges.open
  obtain ⟨p2, q2, rfl, -⟩ := hS2.shR.sizes.open
  have hYw := hb2.size
  have H2 := Lib.hid (And.intro hX2 (And.intro hSh (And.intro (later_trans H1.out.2 hb2') (Nat.le_trans (Nat.le_of_lt lN) hYw))))
  clear hb2 hb2' hS2 hX2 hSh hYw c0 c1 c2 f0 f1 f2
  go_upto_region 4 with fail
  obtain ⟨W2, hw2⟩ : ∃ W, w2.alloc (.cells #[.int .i64 m, .slice p1 S2.edges.length q1, .slice p2 S2.sizes.length q2] 27) = W := ⟨_, rfl⟩
  rw [hw2] at H2
  try rw [hw2]
  obtain ⟨Y, hY⟩ : ∃ Y, w2.heap.size = Y := ⟨_, rfl⟩
  rw [hY] at H2 ⊢
  obtain ⟨c0, c1, c2, -, -, -, lY⟩ := three_of H2.out.1
  have hOr := Order_any S2 _ _ (.slice none 0 0) [] W2 H2.out.2.1 (SlI.nil .i64 W2)
  rw [HM.out.1] at hOr
  have HOr := Lib.hid hOr
  clear hOr hw2 hY
  go_wp2_with fail
  refine HOr.out.mono ?_
  rintro e w3 ⟨ov, rfl, hov, hb3⟩
  have hovI := SlI.of_owns hov (ordL_wf S2 [])
  obtain ⟨ao, co, rfl⟩ := owns_shape2 hov
  have hZ3 := box_new w3 #[.slice ao (ordL S2 []).length co] 25
  have hb3' := later_trans hb3 (later_alloc w3 (.cells #[.slice ao (ordL S2 []).length co] 25))
  have hW3 : HgW w m (.slice p1 S2.edges.length q1) (.slice p2 S2.sizes.length q2) S2 Y w3.heap.size (.slice ao (ordL S2 []).length co) (ordL S2 []) (w3.alloc (.cells #[.slice ao (ordL S2 []).length co] 25)) :=
    ⟨later_trans H2.out.2.2.1 hb3', kept hb3' H2.out.1, H2.out.2.1.later hb3', hZ3, hovI.alloc _, by have := H2.out.2.2.2; have := hb3.size; omega⟩
  obtain ⟨o, ho⟩ : ∃ o, ordL S2 [] = o := ⟨_, rfl⟩
  rw [ho] at hW3
  try rw [ho]
  have HO := Lib.hid ho
  have HW3 := Lib.hid hW3
  clear hov hovI hZ3 hb3 hb3' ho hW3 c0 c1 c2 lY
  obtain ⟨c0, c1, c2, -, -, -, lY⟩ := three_of HW3.out.box
  have z0 : (w3.alloc (.cells #[.slice ao o.length co] 25)).cell? ⟨w3.heap.size, 0, none⟩ = some (.slice ao o.length co) := by simp
  obtain ⟨Z, hZ⟩ : ∃ Z, w3.heap.size = Z := ⟨_, rfl⟩
  go_upto_region 5 with fail
  obtain ⟨W3, hw3⟩ : ∃ W, w3.alloc (.cells #[.slice ao o.length co] 25) = W := ⟨_, rfl⟩
  rw [hw3, hZ] at HW3
  rw [hw3] at c0 c1 c2 lY z0
  rw [hZ] at z0
  try rw [hw3]
  try rw [hZ]
  clear hw3 hZ
  by_cases hok : shpB S2 = true
  · -- [A
    have he0 : ordE S2 [] = 0 := by unfold ordE; rw [if_pos hok, if_pos (show ([] : List Int).length = 0 from rfl)]
    have ho0 : o = chosenTo S2 S2.many.toNat := by rw [← HO.out]; unfold ordL; rw [if_pos hok, if_pos (show ([] : List Int).length = 0 from rfl)]
    have hord : ordersB S2.many o = true := by rw [ho0]; exact chosen_orders hok
    have hol : o.length = S2.many.toNat := by rw [ho0, chosenTo_len]
    have hmb := shpB_yes hok
    have hOs := planOrders1_any S2 _ _ _ o W3 HW3.out.own HW3.out.row
    rw [hok, hord, HM.out.1, Bool.true_and] at hOs
    have hAg : 0 < o.length → ∀ W, Below W3.heap.size W3 W → Calls Tryd.prog 22 #[shpV m (.slice p1 S2.edges.length q1) (.slice p2 S2.sizes.length q2), .slice ao o.length co] W fun e w' => ∃ v', e = .returned (.tuple #[v', .int .i64 0]) ∧ w'.ownsRow W.heap.size 3 1 v' o.length (o.map (.int .i64)) ∧ Below W.heap.size W w' := fun hl W hb => by
      have h1 := Order_any S2 _ _ _ o W (HW3.out.own.later hb) (SlI.later HW3.out.row hb)
      have e1 : ordL S2 o = o := by unfold ordL; rw [if_pos hok, if_neg (by omega), if_pos hord]
      have e2 : ordE S2 o = 0 := by unfold ordE; rw [if_pos hok, if_neg (by omega), if_pos hord]
      rw [e1, e2, HM.out.1] at h1
      exact h1
    have HA := Lib.hid (And.intro hok (And.intro ho0 (And.intro hord (And.intro hol (And.intro hOs hAg)))))
    rw [he0]
    clear ho0 hord hol hOs hAg he0 hmb
    go_wp2_with fail
    refine HA.out.2.2.2.2.1.mono ?_
    rintro e w4 ⟨rfl, hb4⟩
    have hW4 := HW3.out.later hb4
    have HW4 := Lib.hid (And.intro hW4 hb4)
    obtain ⟨c0, c1, c2, -, -, -, lY⟩ := three_of hW4.box
    have z0 : w4.cell? ⟨Z, 0, none⟩ = some (.slice ao o.length co) := by simpa using box_cell (i := 0) hW4.boz
    clear hW4 hb4
    go_upto_if 42 with fail
    go_cut [6, 7] (fun s6 s7 wx => Below w4.heap.size w4 wx)
    case first =>
      by_cases hl0 : 0 < o.length
      · have hlI : (0 : Int) < o.length := by omega
        have hAg := HA.out.2.2.2.2.2 hl0 w4 HW4.out.2
        have HAg := Lib.hid hAg
        clear hAg hl0
        go_wp2_with fail
        refine HAg.out.mono ?_
        rintro e w5 ⟨v5, rfl, hv5, hb5⟩
        have hEq := equalI_any v5 (.slice ao o.length co) o o w5 (SlI.of_owns hv5 HW4.out.1.row.2) (SlI.later HW4.out.1.row hb5)
        rw [decide_eq_true rfl] at hEq
        obtain ⟨a5, c5, rfl⟩ := owns_shape2 hv5
        have z5 : w5.cell? ⟨Z, 0, none⟩ = some (.slice ao o.length co) := by simpa using box_cell (i := 0) (kept hb5 HW4.out.1.boz)
        have HEq := Lib.hid (And.intro hEq hb5)
        clear hEq hb5 hv5
        go_wp2_with fail
        refine HEq.out.1.mono ?_
        rintro e w6 ⟨rfl, n6, hw6⟩
        have HB6 := Lib.hid (later_trans HEq.out.2 (show Below w5.heap.size w5 w6 by rw [hw6]; exact later_drewN _ _))
        clear hw6
        go_wp2_with fail
        go_meet
        exact HB6.out
      · have hlI : ¬ (0 : Int) < o.length := by omega
        clear hl0
        go_wp2_with fail
        go_meet
        exact later_refl _
    case rest =>
      have hW5 := HW4.out.1.later hcut
      have hTb := H.out.2.1.later hW5.bel
      have hb0 := later_alloc wc (.map #[] 0)
      have hPa := Parts_any S2.many (.slice p1 S2.edges.length q1) S2.edges _ (hW5.own.edges.later hb0) (hTb.later hb0) (shpB_hyp HA.out.1)
      rw [HM.out.1] at hPa
      obtain ⟨ps, hps⟩ : ∃ ps, partsTo S2.edges m.toNat = ps := ⟨_, rfl⟩
      rw [hps] at hPa
      have hpl : ps.length ≤ 32 := by
        rw [← hps]
        have h1 := partsTo_len S2.edges m.toNat
        have h2 := (shpB_yes HA.out.1).2.1
        rw [HM.out.1] at h2
        omega
      have HPa := Lib.hid hPa
      have HPs := Lib.hid hps
      have H5 := Lib.hid hW5
      have hmm := @run_makeMap Tryd.prog
      obtain ⟨c0, c1, c2, -, -, -, lY⟩ := three_of (hW5.later hb0).box
      clear hPa hps hW5 hTb hb0 hcut z0
      go_wp2_with fail
      refine HPa.out.mono ?_
      rintro e w6 ⟨v6, rfl, hv6, hb6⟩
      have hW6 := (H5.out.later (later_alloc wc (.map #[] 0))).later hb6
      have hM6 := (MpI.made wc).later hb6
      have hwM : w.heap.size ≤ wc.heap.size := H5.out.bel.size
      obtain ⟨a6, c6, rfl, hc61, hc62, -⟩ := hv6.open
      have H6 := Lib.hid (And.intro hW6 (And.intro hM6 (And.intro hv6 hwM)))
      obtain ⟨bm, hbm⟩ : ∃ bm, wc.heap.size = bm := ⟨_, rfl⟩
      rw [hbm] at H6
      try rw [hbm]
      clear hb6 hW6 hM6 hv6 hwM hbm c0 c1 c2
      go_wp2_with fail
      go_loopw [62] (fun i wr => ∃ k : Nat, k ≤ ps.length ∧ i = .int .i64 k ∧ MpI wr bm k ((firstsL o ps).take k) ∧ Below w.heap.size w6 wr ∧ HgW w m (.slice p1 S2.edges.length q1) (.slice p2 S2.sizes.length q2) S2 Y Z (.slice ao o.length co) o wr ∧ SlRK .i64 wr (.slice a6 ps.length c6) ps) (fun i _ => ps.length - (intOf i).toNat)
      case atStart => exact ⟨0, Nat.zero_le _, rfl, H6.out.2.1, Below.refl _ _, H6.out.1, H6.out.2.2.1⟩
      case round =>
        obtain ⟨k, hk, rfl, hMp, hb, hW, hR⟩ := hrel
        by_cases hlt : k < ps.length
        · -- [B
          obtain ⟨_, _, e1, _, _, _, f4⟩ := hR.open
          obtain ⟨b, of', e2, hbw, fc⟩ := f4 (by omega)
          injection e1 with e1a e1b e1c
          subst e1a e1c
          subst e2
          obtain ⟨rv, c9, hrv⟩ := fc k hlt
          have hpm := rowN_mem hlt
          have hix := part_idx HA.out.1 (p := rowN ps k) (by rw [HM.out.1, HPs.out]; exact hpm)
          rw [← HA.out.2.1] at hix
          obtain ⟨p, hp⟩ : ∃ p, rowN ps k = p := ⟨_, rfl⟩
          have hst : (firstsL o ps).take (k + 1) = (firstsL o ps).take k ++ [o.getD (firstAt o p) 0] := by
            have hl1 : k < (firstsL o ps).length := by unfold firstsL; rw [List.length_map]; exact hlt
            rw [List.take_succ_eq_append_getElem hl1]
            have e9 : (firstsL o ps)[k]? = some (o.getD (firstAt o p) 0) := by
              unfold firstsL
              rw [List.getElem?_map, List.getElem?_eq_getElem hlt, ← rowN_at hlt, hp]
              rfl
            rw [List.getElem?_eq_getElem hl1] at e9
            rw [Option.some.inj e9]
          rw [hp] at hrv hix
          obtain ⟨a, ha⟩ : ∃ a, firstAt o p = a := ⟨_, rfl⟩
          rw [ha] at hix hst
          have hb1 := later_alloc wr (.cells #[rv] 25)
          have hE : Enters 42 := enters_of Tryd.func42 (by kernel_rfl) rfl
          have hx1 := box_new wr #[rv] 25
          have hIF := IndexFunc_any (p := fun v => decide (v ∈ p)) (caps := #[.pointer (some ⟨wr.heap.size, 0, none⟩)]) hE (SlI.later hW.row hb1) (fun x hx W hbW => hang1_any (kept hbW hx1) (SlI.later hrv (later_trans hb1 hbW)))
          rw [hix.2] at hIF
          obtain ⟨ar, cr, rfl, -⟩ := hrv.open
          have z0 : wr.cell? ⟨Z, 0, none⟩ = some (.slice ao o.length co) := by simpa using box_cell (i := 0) hW.boz
          have lZ := lt_of_block hW.boz
          have hmf : ∀ (fn : Fn) (first cap : Array Value) (w : World), (Instr.makeFunc fn first cap).run Tryd.prog w = .ok (.func fn first cap) w := fun _ _ _ _ => rfl
          have HB := Lib.hid (And.intro hMp (And.intro hb (And.intro hW (And.intro hR (And.intro hIF (And.intro hst (And.intro hix.1 hlt)))))))
          have hlt1 := hlt
          clear hMp hb hW hR fc f4 e1b hrv hpm hp hst ha hb1 hx1 hIF hix hlt
          go_wp2_with fail
          refine HB.out.2.2.2.2.1.mono ?_
          rintro e w7 ⟨rfl, hb7⟩
          have hW7 := (HB.out.2.2.1.later (later_alloc wr (.cells #[.slice ar p.length cr] 25))).later hb7
          have hM7 := (HB.out.1.later (later_alloc wr (.cells #[.slice ar p.length cr] 25))).later hb7
          have hR7 := (HB.out.2.2.2.1.later (later_alloc wr (.cells #[.slice ar p.length cr] 25))).later hb7
          have hB7 := HB.out.2.1.trans ((later_trans (later_alloc wr (.cells #[.slice ar p.length cr] 25)) hb7).mono HB.out.2.2.1.bel.size)
          have hal := HB.out.2.2.2.2.2.2.1
          obtain ⟨_, _, g1, _, _, _, g4⟩ := hW7.row.open
          obtain ⟨bo, oo, g2, _, gc⟩ := g4 (by omega)
          injection g1 with g1a g1b g1c
          subst g1a g1c
          subst g2
          have co1 := gc a hal
          rw [← getD_at hal] at co1
          have hwf : (Lit.int .i64 (o.getD a 0)).wf = true := by rw [getD_at hal]; exact hW7.row.2 _ (List.getElem_mem hal)
          obtain ⟨x, hx⟩ : ∃ x, o.getD a 0 = x := ⟨_, rfl⟩
          rw [hx] at co1 hwf
          have z0 : w7.cell? ⟨Z, 0, none⟩ = some (.slice (some ⟨bo, oo, none⟩) o.length co) := by simpa using box_cell (i := 0) hW7.boz
          have haI : (a : Int) < o.length := by omega
          have HM7 := Lib.hid hM7
          obtain ⟨D, hD1, hD2⟩ := hM7
          have hkm : k < maxLen := by unfold maxLen; omega
          have hbmw : w.heap.size ≤ bm := H6.out.2.2.2
          have H7 := Lib.hid (And.intro hW7 (And.intro hR7 (And.intro hB7 hx)))
          clear hb7 hW7 hR7 hB7 g4 gc g1b hx hal z0
          have z0 : w7.cell? ⟨Z, 0, none⟩ = some (.slice (some ⟨bo, oo, none⟩) o.length co) := by simpa using box_cell (i := 0) H7.out.1.boz
          go_wp2_with (at_mapUpdate; refine wpList_mapUpdate_own _ rfl _ _ _ 69 rfl 3 3 lawI Tryd.underlying69 _ bm k D rfl hD1 hkm _ _ _ rfl rfl (keyOf_int_mk Tryd.underlying3 hwf) _ [] (plainElem_int Tryd.underlying3 (by decide)) ?_; intro w8 hown8 hgrow8)
          have hMo := MapsOnly.grown HM7.out hgrow8
          have hm8 := MpI.put hD2 hwf hD1 hown8
          have hB8 : Below w.heap.size w7 w8 := (Below.refl w.heap.size w7).grown hgrow8 H7.out.1.bel.size (fun k e => by cases e; exact hbmw)
          have hW8 := H7.out.1.maps hMo (H7.out.1.bel.trans hB8)
          have hR8 := H7.out.2.1.maps hMo
          refine ⟨⟨k + 1, hlt1, by go_num, by rw [HB.out.2.2.2.2.2.1, H7.out.2.2.2]; exact hm8, H7.out.2.2.1.trans hB8, hW8, hR8⟩, ?_⟩
          simp [intOf]; omega
          -- B]
        · obtain rfl : k = ps.length := by omega
          -- [C
          rw [show (firstsL o ps).take ps.length = firstsL o ps from List.take_of_length_le (by unfold firstsL; rw [List.length_map]; omega)] at hMp
          have H9 := Lib.hid (And.intro hMp hW)
          obtain ⟨c0, c1, c2, -, -, -, lY⟩ := three_of hW.box
          have z0 : wr.cell? ⟨Z, 0, none⟩ = some (.slice ao o.length co) := by simpa using box_cell (i := 0) hW.boz
          have hon : o.length ≤ 32 := by
            have h1 := HA.out.2.2.2.1
            have h2 := (shpB_yes HA.out.1).2.1
            omega
          obtain ⟨W9, hw9⟩ : ∃ W, W = wr := ⟨wr, rfl⟩
          rw [← hw9] at H9 c0 c1 c2 lY z0
          rw [← hw9]
          clear hw9 hMp hb hW hR
          go_wp2_with fail
          go_loopw [77] (fun i wr => ∃ k : Nat, k ≤ o.length ∧ i = .int .i64 k ∧ Below W9.heap.size W9 wr) (fun i _ => o.length - (intOf i).toNat)
          case atStart => exact ⟨0, Nat.zero_le _, rfl, later_refl _⟩
          case round =>
            obtain ⟨i, hi, rfl, hb⟩ := hrel
            have hW := H9.out.2.later hb
            by_cases hlt : i < o.length
            · obtain ⟨_, _, g1, _, _, _, g4⟩ := hW.row.open
              obtain ⟨bo, oo, g2, _, gc⟩ := g4 (by omega)
              injection g1 with g1a g1b g1c
              subst g1a g1c
              subst g2
              have co1 := gc i hlt
              rw [← getD_at hlt] at co1
              have hin : i < S2.many.toNat := by rw [← HA.out.2.2.2.1]; exact hlt
              obtain ⟨v, hv1, hv2, -⟩ := chosen_next (S := S2) hin
              have hxv : o.getD i 0 = (v : Int) := by rw [HA.out.2.1, chosen_at HA.out.1 hin, hv2]
              have hhg := hangs HA.out.1 hin hv2
              rw [← HA.out.2.1, HM.out.1, HPs.out] at hhg
              have htk : o.take i = chosenTo S2 i := by rw [HA.out.2.1]; exact chosen_take S2 _ i (by omega)
              rw [← htk] at hhg
              rw [hxv] at co1
              have hv32 : v < 32 := by have := (shpB_yes HA.out.1).2.1; omega
              have HV := Lib.hid (And.intro hhg (And.intro hb (And.intro hW hlt)))
              have z0 : wr.cell? ⟨Z, 0, none⟩ = some (.slice (some ⟨bo, oo, none⟩) o.length co) := by simpa using box_cell (i := 0) hW.boz
              have hiI : (i : Int) < o.length := by omega
              clear g4 gc g1b hin hv1 hv2 hxv hhg htk hb hW hlt
              go_upto_region 23 with fail
              obtain ⟨V, hV⟩ : ∃ V, (wr.alloc (.cells #[.int .i64 (i : Int)] 3)).alloc (.cells #[.int .i64 (v : Int)] 3) = V := ⟨_, rfl⟩
              have hbV : Below wr.heap.size wr V := by rw [← hV]; exact later_trans (later_alloc _ _) (later_alloc _ _)
              have hxi : V.heap[wr.heap.size]? = some (.cells #[.int .i64 (i : Int)] 3 (0, 0)) := by rw [← hV]; exact box_alloc (box_new wr _ _) _
              have hxv : V.heap[wr.heap.size + 1]? = some (.cells #[.int .i64 (v : Int)] 3 (0, 0)) := by
                rw [← hV]
                have h1 := box_new (wr.alloc (.cells #[.int .i64 (i : Int)] 3)) #[.int .i64 (v : Int)] 3
                rw [World.size_alloc] at h1; exact h1
              rw [hV]
              obtain ⟨xi, hxe⟩ : ∃ xi, wr.heap.size = xi := ⟨_, rfl⟩
              rw [hxe] at hxi hxv
              rw [hxe]
              have hWV := HV.out.2.2.1.later hbV
              obtain ⟨c0, c1, c2, -, -, -, lY⟩ := three_of hWV.box
              have hE : Enters 45 := enters_of Tryd.func45 (by kernel_rfl) rfl
              have hCF := ContainsFuncR_any (p := togE (o.take i) v) (caps := #[.pointer (some ⟨xi + 1, 0, none⟩), .pointer (some ⟨Z, 0, none⟩), .pointer (some ⟨xi, 0, none⟩)]) hE hWV.own.edges (fun r hr rv W' hb' hrv => hang2_any (kept hb' hxv) (kept hb' hWV.boz) (kept hb' hxi) (SlI.later hWV.row hb') hrv hi)
              rw [← near_togE] at hCF
              have hbV9 : Below W9.heap.size W9 V := later_trans HV.out.2.1 (by rw [← hxe] at *; exact hbV)
              have HCF := Lib.hid (And.intro hCF (And.intro hbV9 hxv))
              have hmf : ∀ (fn : Fn) (first cap : Array Value) (w : World), (Instr.makeFunc fn first cap).run Tryd.prog w = .ok (.func fn first cap) w := fun _ _ _ _ => rfl
              clear hV hbV hxi hxv hWV hE hCF hbV9 co1 z0 hxe
              go_wp2_with fail
              refine HCF.out.1.mono ?_
              rintro e w8 ⟨rfl, hb8⟩
              have hL := (H9.out.1.later (later_trans HCF.out.2.1 hb8)).look (x := (v : Int)) (WalkArith.wf_i64 (by omega))
              have x0 : w8.cell? ⟨xi + 1, 0, none⟩ = some (.int .i64 (v : Int)) := by simpa using box_cell (i := 0) (kept hb8 HCF.out.2.2)
              have hI := inI_one (l := firstsL o ps) (x := (v : Int))
              have HB8 := Lib.hid (later_trans HCF.out.2.1 hb8)
              have hhg := HV.out.1
              have hlt1 := HV.out.2.2.2
              clear hb8 c0 c1 c2
              cases hq : nearB S2 (o.take i) v with
              | true =>
                have hm : ¬ (v : Int) ∈ firstsL o ps := fun h1 => by rw [hhg.1 h1] at hq; cases hq
                rw [show inI (firstsL o ps) v = 0 by unfold inI; rw [if_neg hm]] at hL
                clear hI hhg hq hm
                go_wp2_with fail
                go_roundw
                case rel => first | exact ⟨i + 1, hlt1, by go_num, HB8.out⟩ | ((repeat apply Exists.intro); refine ⟨?_, rfl⟩; exact ⟨i + 1, hlt1, by go_num, HB8.out⟩)
                case measure => simp [intOf]; omega
              | false =>
                have hm : (v : Int) ∈ firstsL o ps := hhg.2 hq
                rw [show inI (firstsL o ps) v = 1 by unfold inI; rw [if_pos hm]] at hL
                clear hI hhg hq hm
                go_wp2_with fail
                go_roundw
                case rel => first | exact ⟨i + 1, hlt1, by go_num, HB8.out⟩ | ((repeat apply Exists.intro); refine ⟨?_, rfl⟩; exact ⟨i + 1, hlt1, by go_num, HB8.out⟩)
                case measure => simp [intOf]; omega
            · obtain rfl : i = o.length := by omega
              have hB2 := best_two HA.out.1 HA.out.2.2.1
              have hBe := Best_any S2 _ _ _ [o, o] _ (hW.own.later (later_alloc wr (.cells #[.slice ao o.length co, .slice ao o.length co] 25))) (two_rows hW.row)
              rw [hB2.1, hB2.2, HM.out.1] at hBe
              have HBe := Lib.hid (And.intro hBe (later_trans hW.bel (later_alloc wr (.cells #[.slice ao o.length co, .slice ao o.length co] 25))))
              obtain ⟨c0, c1, c2, -, -, -, lY⟩ := three_of hW.box
              have z0 : wr.cell? ⟨Z, 0, none⟩ = some (.slice ao o.length co) := by simpa using box_cell (i := 0) hW.boz
              have lZ := lt_of_block hW.boz
              clear hB2 hBe hb hW
              go_wp2_with fail
              refine HBe.out.1.mono ?_
              rintro e w8 ⟨rfl, hb8⟩
              have HB8 := Lib.hid (later_trans HBe.out.2 hb8)
              clear hb8 c0 c1 c2 z0
              go_wp2_with fail
              go_ret
              exact ⟨rfl, HB8.out⟩
          -- C]
    -- A]
  · -- [E
    have he0 : ordE S2 [] = 320 := by unfold ordE; rw [if_neg hok]
    have ho0 : o = [] := by rw [← HO.out]; unfold ordL; rw [if_neg hok]
    have hCk := Check_any S2 _ _ W3 HW3.out.own
    rw [if_neg hok, HM.out.1] at hCk
    have HCk := Lib.hid (And.intro hCk HW3.out.bel)
    rw [he0]
    subst ho0
    have h0n : ((([] : List Int).length : Int) == 0) = true := rfl
    clear hCk he0 hok
    go_wp2_with fail
    refine HCk.out.1.mono ?_
    rintro e w4 ⟨rfl, hb4⟩
    have z0 : w4.cell? ⟨Z, 0, none⟩ = some (.slice ao ([] : List Int).length co) := by simpa using box_cell (i := 0) (kept hb4 HW3.out.boz)
    have HB4 := Lib.hid (later_trans HCk.out.2 hb4)
    clear hb4 c0 c1 c2
    go_wp2_with fail
    go_ret
    exact ⟨rfl, HB4.out⟩
    -- E]
end Go.Proofs.YtdmfhlfhlflakaaDoor
