/-
  Joins, plainly: what a row has of a variable; which rows a join has.
-/
import Derived.Test.YtdeiinfljfgmeaaHaPl
namespace Go.Proofs.Ytdeiinfljfgmeaa
open Go.RowKit
set_option linter.unusedVariables false
set_option linter.unusedSimpArgs false

/-- What a row has of a variable. -/
def valL (vs r : List Int) (v : Int) : Int := r.getD (idxI vs v).toNat 0
theorem cells_places (vs o r : List Int) : cellsL r (placesL vs o) = o.map (valL vs r) := by
  unfold cellsL placesL
  rw [List.map_map]
  rfl
theorem valL_in {vs r : List Int} {v : Int} (h : v ∈ vs) : valL vs r v = r.getD (vs.idxOf v) 0 := by
  unfold valL idxI
  rw [if_pos h]
  rfl
theorem valL_self {vs r : List Int} (hn : vs.Nodup) (hl : r.length = vs.length) : vs.map (valL vs r) = r := by
  refine List.ext_getElem (by simp [hl]) fun i h1 h2 => ?_
  have hi : i < vs.length := by simpa using h1
  rw [List.getElem_map, valL_in (List.getElem_mem hi), hn.idxOf_getElem i hi, getD_at h2]
theorem valL_map {vs : List Int} {f : Int → Int} {v : Int} (h : v ∈ vs) : valL vs (vs.map f) v = f v := by
  rw [valL_in h, getD_at (by rw [List.length_map]; exact List.idxOf_lt_length_of_mem h), List.getElem_map, List.getElem_idxOf]
theorem valL_left {vs ws x y : List Int} {v : Int} (h : v ∈ vs) (hl : x.length = vs.length) : valL (vs ++ ws) (x ++ y) v = valL vs x v := by
  have hi := List.idxOf_lt_length_of_mem h
  rw [valL_in (List.mem_append_left _ h), valL_in h, List.idxOf_append, if_pos h]
  simp only [List.getD_eq_getElem?_getD]
  rw [List.getElem?_append_left (by omega)]
theorem valL_right {vs ws x y : List Int} {v : Int} (h : v ∉ vs) (hw : v ∈ ws) (hl : x.length = vs.length) : valL (vs ++ ws) (x ++ y) v = valL ws y v := by
  rw [valL_in (List.mem_append_right _ hw), valL_in hw, List.idxOf_append, if_neg h]
  simp only [List.getD_eq_getElem?_getD]
  rw [List.getElem?_append_right (by omega), hl]
  congr 2
  omega
/-- Values in bounds. -/
def U64 (R : Rl) : Prop := ∀ r ∈ R.rows, ∀ x ∈ r, 0 ≤ x ∧ x < 18446744073709551616
theorem valL_u64 {R : Rl} (h : U64 R) {r : List Int} (hr : r ∈ R.rows) (vs : List Int) (v : Int) : 0 ≤ valL vs r v ∧ valL vs r v < 18446744073709551616 := by
  unfold valL
  rw [List.getD_eq_getElem?_getD]
  cases q : r[(idxI vs v).toNat]? with
  | none => simp
  | some x => exact h r hr x (List.mem_of_getElem? q)
theorem U64.of {w : World} {v1 v2 : Value} {R : Rl} (h : RlR w v1 v2 R) : U64 R := fun r hr x hx => by
  obtain ⟨i, hi, rfl⟩ := List.getElem_of_mem hr
  obtain ⟨rv, -, h2⟩ := h.rows
  have := (h2 i hi).2 x (by rw [rowN_at hi]; exact hx)
  have := wf_u64 this
  omega
/-- Two rows match. -/
def Mate (A B : Rl) (x y : List Int) : Prop := ∀ v, v ∈ A.vars → v ∈ B.vars → valL A.vars x v = valL B.vars y v
theorem mem_shared {A B : Rl} {v : Int} : v ∈ sharedL A B ↔ v ∈ A.vars ∧ v ∈ B.vars := by
  unfold sharedL
  rw [List.mem_filter, decide_eq_true_iff]
theorem mem_alone {A B : Rl} {v : Int} : v ∈ aloneL A B ↔ v ∈ B.vars ∧ v ∉ A.vars := by
  unfold aloneL
  rw [List.mem_filter, Bool.not_eq_true', decide_eq_false_iff_not]
theorem key_mate {A B : Rl} (hA : U64 A) (hB : U64 B) {x y : List Int} (hx : x ∈ A.rows) (hy : y ∈ B.rows) :
    keyL (cellsL y (placesL B.vars (sharedL A B))) = keyL (cellsL x (placesL A.vars (sharedL A B))) ↔ Mate A B x y := by
  rw [cells_places, cells_places]
  constructor
  · intro h v h1 h2
    have e := keyL_inj (fun z hz => by obtain ⟨u, -, rfl⟩ := List.mem_map.1 hz; exact valL_u64 hB hy _ _) (fun z hz => by obtain ⟨u, -, rfl⟩ := List.mem_map.1 hz; exact valL_u64 hA hx _ _) h
    exact (List.map_inj_left.1 e v (mem_shared.2 ⟨h1, h2⟩)).symm
  · intro h
    congr 1
    exact List.map_congr_left fun v hv => (h v (mem_shared.1 hv).1 (mem_shared.1 hv).2).symm
theorem mem_match {A B : Rl} (hA : U64 A) (hB : U64 B) {x y : List Int} : (x, y) ∈ matchL A B ↔ x ∈ A.rows ∧ y ∈ B.rows ∧ Mate A B x y := by
  constructor
  · intro h
    obtain ⟨h1, h2⟩ := matchL_mem h
    refine ⟨h1, h2, ?_⟩
    unfold matchL mateL at h
    obtain ⟨x', hx', h3⟩ := List.mem_flatMap.1 h
    obtain ⟨y', hy', e⟩ := List.mem_map.1 h3
    cases e
    exact (key_mate hA hB h1 h2).1 (of_decide_eq_true (List.mem_filter.1 hy').2)
  · rintro ⟨h1, h2, h3⟩
    unfold matchL mateL
    exact List.mem_flatMap.2 ⟨x, h1, List.mem_map.2 ⟨y, List.mem_filter.2 ⟨h2, decide_eq_true ((key_mate hA hB h1 h2).2 h3)⟩, rfl⟩⟩
/-- A relation that may be, with values in bounds. -/
structure Ok (R : Rl) : Prop where
  nod : R.vars.Nodup
  wd : Wd R.vars.length R.rows
  rise : RiseR R.rows
  u64 : U64 R
theorem Ok.of {R : Rl} (h : rightB R = true) (hu : U64 R) : Ok R := by
  obtain ⟨h1, h2, h3, h4⟩ := (rightB_iff R).1 h
  exact ⟨((colB_iff _).1 h1).2.1, h3, h4, hu⟩
theorem join_nod {A B : Rl} (hA : Ok A) (hB : Ok B) : (A.vars ++ aloneL A B).Nodup := by
  refine List.nodup_append.2 ⟨hA.nod, hB.nod.filter _, fun x hx y hy e => ?_⟩
  subst e
  exact (mem_alone.1 hy).2 hx
theorem mem_joinV {A B : Rl} {v : Int} : v ∈ A.vars ++ aloneL A B ↔ v ∈ A.vars ∨ v ∈ B.vars := by
  rw [List.mem_append, mem_alone]
  by_cases h : v ∈ A.vars
  · simp [h]
  · simp [h]
/-- Which rows a join has. -/
theorem join_mem {A B : Rl} (hA : Ok A) (hB : Ok B) (z : List Int) : z ∈ (matchL A B).map (joinP (placesL B.vars (aloneL A B))) ↔
    z.length = (A.vars ++ aloneL A B).length ∧ ∃ x ∈ A.rows, ∃ y ∈ B.rows, (∀ v ∈ A.vars, valL (A.vars ++ aloneL A B) z v = valL A.vars x v) ∧ ∀ v ∈ B.vars, valL (A.vars ++ aloneL A B) z v = valL B.vars y v := by
  constructor
  · intro h
    obtain ⟨⟨x, y⟩, hp, rfl⟩ := List.mem_map.1 h
    obtain ⟨h1, h2, h3⟩ := (mem_match hA.u64 hB.u64).1 hp
    simp only [joinP, cells_places]
    have hl : ∀ v ∈ A.vars, valL (A.vars ++ aloneL A B) (x ++ (aloneL A B).map (valL B.vars y)) v = valL A.vars x v := fun v hv => valL_left hv (hA.wd x h1)
    refine ⟨by rw [List.length_append, List.length_append, List.length_map, hA.wd x h1], x, h1, y, h2, hl, fun v hv => ?_⟩
    by_cases hvA : v ∈ A.vars
    · rw [hl v hvA]
      exact h3 v hvA hv
    · have hva := mem_alone.2 ⟨hv, hvA⟩
      rw [valL_right hvA hva (hA.wd x h1), valL_map hva]
  · rintro ⟨h0, x, h1, y, h2, h3, h4⟩
    refine List.mem_map.2 ⟨(x, y), (mem_match hA.u64 hB.u64).2 ⟨h1, h2, fun v q1 q2 => (h3 v q1).symm.trans (h4 v q2)⟩, ?_⟩
    simp only [joinP, cells_places]
    rw [← valL_self (join_nod hA hB) h0, List.map_append]
    congr 1
    · refine (valL_self hA.nod (hA.wd x h1)).symm.trans ?_
      exact List.map_congr_left fun v hv => (h3 v hv).symm
    · exact List.map_congr_left fun v hv => (h4 v (mem_alone.1 hv).1).symm
theorem join_rows {A B : Rl} (hA : Ok A) (hB : Ok B) (z : List Int) : z ∈ (joinL A B).rows ↔
    z.length = (A.vars ++ aloneL A B).length ∧ ∃ x ∈ A.rows, ∃ y ∈ B.rows, (∀ v ∈ A.vars, valL (A.vars ++ aloneL A B) z v = valL A.vars x v) ∧ ∀ v ∈ B.vars, valL (A.vars ++ aloneL A B) z v = valL B.vars y v :=
  (ofL_mem (joinRow_wd hA.wd) z).trans (join_mem hA hB z)
theorem U64.ofL {n : Nat} {rows : List (List Int)} {vs : List Int} (hw : Wd n rows) (h : ∀ r ∈ rows, ∀ x ∈ r, 0 ≤ x ∧ x < 18446744073709551616) : U64 ⟨vs, ofL rows⟩ := fun r hr x hx => h r ((ofL_mem hw r).1 hr) x hx
theorem join_ok {A B : Rl} (hA : Ok A) (hB : Ok B) : Ok (joinL A B) := by
  refine ⟨join_nod hA hB, ofL_wd (joinRow_wd hA.wd), ofL_rise (joinRow_wd hA.wd), U64.ofL (joinRow_wd hA.wd) fun r hr x hx => ?_⟩
  obtain ⟨⟨a, b⟩, hp, rfl⟩ := List.mem_map.1 hr
  obtain ⟨h1, h2⟩ := matchL_mem hp
  rcases List.mem_append.1 hx with q | q
  · exact hA.u64 _ h1 _ q
  · rw [cells_places] at q
    obtain ⟨v, -, rfl⟩ := List.mem_map.1 q
    exact valL_u64 hB.u64 h2 _ _
/-- Rows are told by what they have. -/
theorem row_eq {vs r s : List Int} (hn : vs.Nodup) (hr : r.length = vs.length) (hs : s.length = vs.length) (h : ∀ v ∈ vs, valL vs r v = valL vs s v) : r = s := by
  rw [← valL_self hn hr, ← valL_self hn hs]
  exact List.map_congr_left h
theorem mem_proj {R : Rl} {o r : List Int} : r ∈ R.rows.map (fun r => cellsL r (placesL R.vars o)) ↔ ∃ z ∈ R.rows, r = o.map (valL R.vars z) := by
  rw [List.mem_map]
  constructor
  · rintro ⟨z, hz, rfl⟩; exact ⟨z, hz, cells_places _ _ _⟩
  · rintro ⟨z, hz, rfl⟩; exact ⟨z, hz, cells_places _ _ _⟩
theorem proj_wd (R : Rl) (o : List Int) : Wd o.length (R.rows.map fun r => cellsL r (placesL R.vars o)) := fun r hr => by
  obtain ⟨z, -, rfl⟩ := mem_proj.1 hr
  rw [List.length_map]
theorem proj_rows {R : Rl} {o r : List Int} : r ∈ (projL R o).rows ↔ ∃ z ∈ R.rows, r = o.map (valL R.vars z) := (ofL_mem (proj_wd R o) r).trans mem_proj
theorem proj_ok {R : Rl} {o : List Int} (ho : o.Nodup) (hR : Ok R) : Ok (projL R o) := by
  refine ⟨ho, ofL_wd (proj_wd R o), ofL_rise (proj_wd R o), U64.ofL (proj_wd R o) fun r hr x hx => ?_⟩
  obtain ⟨z, hz, rfl⟩ := mem_proj.1 hr
  obtain ⟨v, -, rfl⟩ := List.mem_map.1 hx
  exact valL_u64 hR.u64 hz _ _
/-- Two relations of the same columns and the same rows are one. -/
theorem rl_eq {R S : Rl} (hR : Ok R) (hS : Ok S) (hv : R.vars = S.vars) (h : ∀ r, r ∈ R.rows ↔ r ∈ S.rows) : R = S := by
  obtain ⟨vs, rs⟩ := R
  obtain ⟨vs', rs'⟩ := S
  simp only at hv h
  subst hv
  have := rise_unique hR.wd hS.wd hR.rise hS.rise h
  simp only at this
  subst this
  rfl
/-- Joined the other way round, its columns put in order. -/
theorem join_turned {A B : Rl} (hA : Ok A) (hB : Ok B) : projL (joinL B A) (joinL A B).vars = joinL A B := by
  have hnod := join_nod hA hB
  have hnod' := join_nod hB hA
  refine rl_eq (proj_ok hnod (join_ok hB hA)) (join_ok hA hB) rfl fun r => ?_
  rw [proj_rows, join_rows hA hB]
  constructor
  · rintro ⟨z, hz, rfl⟩
    obtain ⟨h0, y, h1, x, h2, h3, h4⟩ := (join_rows hB hA z).1 hz
    refine ⟨by rw [List.length_map]; rfl, x, h2, y, h1, fun v hv => ?_, fun v hv => ?_⟩
    · show valL (A.vars ++ aloneL A B) ((A.vars ++ aloneL A B).map _) v = _
      rw [valL_map (mem_joinV.2 (.inl hv))]
      exact h4 v hv
    · show valL (A.vars ++ aloneL A B) ((A.vars ++ aloneL A B).map _) v = _
      rw [valL_map (mem_joinV.2 (.inr hv))]
      exact h3 v hv
  · rintro ⟨h0, x, h1, y, h2, h3, h4⟩
    refine ⟨(B.vars ++ aloneL B A).map (valL (A.vars ++ aloneL A B) r), (join_rows hB hA _).2 ⟨by rw [List.length_map], y, h2, x, h1, fun v hv => ?_, fun v hv => ?_⟩, ?_⟩
    · rw [valL_map (mem_joinV.2 (.inl hv))]
      exact h4 v hv
    · rw [valL_map (mem_joinV.2 (.inr hv))]
      exact h3 v hv
    · have e : (joinL A B).vars = A.vars ++ aloneL A B := rfl
      have e' : (joinL B A).vars = B.vars ++ aloneL B A := rfl
      rw [e, e']
      refine (valL_self hnod h0).symm.trans (List.map_congr_left fun v hv => ?_)
      rw [valL_map (mem_joinV.2 ((mem_joinV.1 hv).symm))]
theorem alone_self (A : Rl) : aloneL A A = [] := by
  unfold aloneL
  exact List.filter_eq_nil_iff.2 fun v hv => by simp [hv]
/-- Joined with itself it is itself. -/
theorem join_self {A : Rl} (hA : Ok A) : joinL A A = A := by
  have hv : (A.vars ++ aloneL A A) = A.vars := by rw [alone_self, List.append_nil]
  refine rl_eq (join_ok hA hA) hA hv fun r => ?_
  rw [join_rows hA hA, hv]
  constructor
  · rintro ⟨h0, x, h1, y, h2, h3, h4⟩
    have := row_eq hA.nod h0 (hA.wd x h1) h3
    subst this
    exact h1
  · intro h
    exact ⟨hA.wd r h, r, h, r, h, fun v _ => rfl, fun v _ => rfl⟩
theorem has_joinA (A B : Rl) : hasL (joinL A B).vars A.vars = true := hasL_sub fun v hv => List.mem_append_left _ hv
theorem has_turned (A B : Rl) : hasL (joinL B A).vars (joinL A B).vars = true := hasL_sub fun v hv => mem_joinV.2 ((mem_joinV.1 hv).symm)
theorem once_iff {o : List Int} : Once o ↔ o.Nodup := by
  rw [nodup_at]
  rfl
/-- Which rows have a mate. -/
theorem mateB_iff {A B : Rl} (hA : U64 A) (hB : U64 B) {x : List Int} (hx : x ∈ A.rows) : mateB (placesL A.vars (sharedL A B)) (placesL B.vars (sharedL A B)) B.rows x = true ↔ ∃ y ∈ B.rows, Mate A B x y := by
  unfold mateB grpL
  rw [decide_eq_true_iff, List.length_pos_iff_exists_mem]
  constructor
  · rintro ⟨y, hy⟩
    obtain ⟨h1, h2⟩ := List.mem_filter.1 hy
    exact ⟨y, h1, (key_mate hA hB hx h1).1 (of_decide_eq_true h2)⟩
  · rintro ⟨y, h1, h2⟩
    exact ⟨y, List.mem_filter.2 ⟨h1, decide_eq_true ((key_mate hA hB hx h1).2 h2)⟩⟩
theorem semi_wd {A B : Rl} (hA : Wd A.vars.length A.rows) : Wd A.vars.length (A.rows.filter (mateB (placesL A.vars (sharedL A B)) (placesL B.vars (sharedL A B)) B.rows)) := fun r hr => hA r (List.mem_filter.1 hr).1
theorem semi_rows {A B : Rl} (hA : Ok A) (hB : Ok B) (x : List Int) : x ∈ (semiL A B).rows ↔ x ∈ A.rows ∧ ∃ y ∈ B.rows, Mate A B x y := by
  show x ∈ ofL _ ↔ _
  rw [ofL_mem (semi_wd hA.wd), List.mem_filter]
  constructor
  · rintro ⟨h1, h2⟩; exact ⟨h1, (mateB_iff hA.u64 hB.u64 h1).1 h2⟩
  · rintro ⟨h1, h2⟩; exact ⟨h1, (mateB_iff hA.u64 hB.u64 h1).2 h2⟩
theorem semi_ok {A B : Rl} (hA : Ok A) (hB : Ok B) : Ok (semiL A B) :=
  ⟨hA.nod, ofL_wd (semi_wd hA.wd), ofL_rise (semi_wd hA.wd), U64.ofL (semi_wd hA.wd) fun r hr x hx => hA.u64 r (List.mem_filter.1 hr).1 x hx⟩
/-- Semi is the join, seen in the first one's columns. -/
theorem semi_seen {A B : Rl} (hA : Ok A) (hB : Ok B) : projL (joinL A B) A.vars = semiL A B := by
  refine rl_eq (proj_ok hA.nod (join_ok hA hB)) (semi_ok hA hB) rfl fun r => ?_
  rw [proj_rows, semi_rows hA hB]
  have e : (joinL A B).vars = A.vars ++ aloneL A B := rfl
  rw [e]
  constructor
  · rintro ⟨z, hz, rfl⟩
    obtain ⟨h0, x, h1, y, h2, h3, h4⟩ := (join_rows hA hB z).1 hz
    have hx : A.vars.map (valL (A.vars ++ aloneL A B) z) = x := (List.map_congr_left h3).trans (valL_self hA.nod (hA.wd x h1))
    rw [hx]
    exact ⟨h1, y, h2, fun v q1 q2 => (h3 v q1).symm.trans (h4 v q2)⟩
  · rintro ⟨h1, y, h2, h3⟩
    have hz : r ++ (aloneL A B).map (valL B.vars y) ∈ (joinL A B).rows := by
      refine (ofL_mem (joinRow_wd hA.wd) _).2 (List.mem_map.2 ⟨(r, y), (mem_match hA.u64 hB.u64).2 ⟨h1, h2, h3⟩, ?_⟩)
      simp only [joinP, cells_places]
    refine ⟨_, hz, ?_⟩
    refine (valL_self hA.nod (hA.wd r h1)).symm.trans (List.map_congr_left fun v hv => ?_)
    exact (valL_left hv (hA.wd r h1)).symm
/-- What is left matches. -/
theorem semi_join {A B : Rl} (hA : Ok A) (hB : Ok B) : joinL (semiL A B) B = joinL A B := by
  have hs := semi_ok hA hB
  have e : (semiL A B).vars = A.vars := rfl
  have ea : aloneL (semiL A B) B = aloneL A B := rfl
  refine rl_eq (join_ok hs hB) (join_ok hA hB) rfl fun r => ?_
  rw [join_rows hs hB, join_rows hA hB, e, ea]
  constructor
  · rintro ⟨h0, x, h1, y, h2, h3, h4⟩
    exact ⟨h0, x, ((semi_rows hA hB x).1 h1).1, y, h2, h3, h4⟩
  · rintro ⟨h0, x, h1, y, h2, h3, h4⟩
    exact ⟨h0, x, (semi_rows hA hB x).2 ⟨h1, y, h2, fun v q1 q2 => (h3 v q1).symm.trans (h4 v q2)⟩, y, h2, h3, h4⟩
/-- A right semi-join is right. -/
theorem semi_right {A B : Rl} (hA : rightB A = true) : rightB (semiL A B) = true := by
  obtain ⟨cA, lA, wA, rA⟩ := (rightB_iff A).1 hA
  exact (rightB_iff _).2 ⟨cA, Nat.le_trans (ofL_len _) (Nat.le_trans (List.length_filter_le _ _) lA), ofL_wd (semi_wd wA), ofL_rise (semi_wd wA)⟩
/-- A projection of a projection. -/
theorem proj_proj {R : Rl} {o q : List Int} (hR : Ok R) (ho : o.Nodup) (hq : q.Nodup) (hs : ∀ v ∈ q, v ∈ o) : projL (projL R o) q = projL R q := by
  refine rl_eq (proj_ok hq (proj_ok ho hR)) (proj_ok hq hR) rfl fun r => ?_
  rw [proj_rows, proj_rows]
  have e : (projL R o).vars = o := rfl
  rw [e]
  constructor
  · rintro ⟨z, hz, rfl⟩
    obtain ⟨u, hu, rfl⟩ := proj_rows.1 hz
    exact ⟨u, hu, List.map_congr_left fun v hv => valL_map (hs v hv)⟩
  · rintro ⟨u, hu, rfl⟩
    exact ⟨_, proj_rows.2 ⟨u, hu, rfl⟩, List.map_congr_left fun v hv => (valL_map (hs v hv)).symm⟩
theorem nodup_sub : ∀ {o l : List Int}, o.Nodup → (∀ v ∈ o, v ∈ l) → o.length ≤ l.length
  | [], l, _, _ => Nat.zero_le _
  | a :: o, l, hn, hs => by
    obtain ⟨h1, h2⟩ := List.nodup_cons.1 hn
    have ha := hs a (List.mem_cons_self ..)
    have ih := nodup_sub (l := l.erase a) h2 fun v hv => by
      have hne : v ≠ a := fun e => h1 (e ▸ hv)
      exact (List.mem_erase_of_ne hne).2 (hs v (List.mem_cons_of_mem _ hv))
    rw [List.length_erase_of_mem ha] at ih
    have := List.length_pos_of_mem ha
    rw [List.length_cons]
    omega
theorem proj_right {R : Rl} {o : List Int} (hR : rightB R = true) (ho : o.Nodup) (hs : ∀ v ∈ o, v ∈ R.vars) : rightB (projL R o) = true := by
  obtain ⟨cA, lA, wA, rA⟩ := (rightB_iff R).1 hR
  obtain ⟨c1, c2, c3⟩ := (colB_iff _).1 cA
  refine (rightB_iff _).2 ⟨(colB_iff _).2 ⟨fun v hv => c1 v (hs v hv), ho, ?_⟩, ?_, ofL_wd (proj_wd R o), ofL_rise (proj_wd R o)⟩
  · have : o.length ≤ R.vars.length := nodup_sub ho hs
    show o.length ≤ 64
    omega
  · show (ofL _).length ≤ _
    refine Nat.le_trans (ofL_len _) ?_
    rw [List.length_map]
    exact lA
end Go.Proofs.Ytdeiinfljfgmeaa
