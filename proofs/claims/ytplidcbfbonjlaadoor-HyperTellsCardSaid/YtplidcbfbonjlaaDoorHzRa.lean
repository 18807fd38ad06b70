/-
  The document's Part: what one comes to, round by round. Plain: no program in sight.
-/
import Derived.Test.YtplidcbfbonjlaaDoorHzWi
namespace Go.Proofs.YtplidcbfbonjlaaDoor
set_option linter.unusedVariables false
set_option linter.unusedSimpArgs false

def meetB (out e : List Int) : Bool := e.any fun x => decide (x ∈ out)
def addE (out e : List Int) : List Int := if meetB out e = true then e.foldl withI out else out
def partR (ls : List (List Int)) (o : List Int) : Nat → List Int
  | 0 => o
  | k + 1 => ls.foldl addE (partR ls o k)
theorem meetB_iff {out e : List Int} : meetB out e = true ↔ ∃ x ∈ e, x ∈ out := by
  unfold meetB
  rw [List.any_eq_true]
  simp only [decide_eq_true_eq]
theorem nodup_leI : ∀ {o l : List Int}, o.Nodup → (∀ v ∈ o, v ∈ l) → o.length ≤ l.length
  | [], l, _, _ => Nat.zero_le _
  | a :: o, l, hn, hs => by
    obtain ⟨h1, h2⟩ := List.nodup_cons.1 hn
    have ha := hs a (List.mem_cons_self ..)
    have ih := nodup_leI (l := l.erase a) h2 fun v hv => by
      have hne : v ≠ a := fun e => h1 (e ▸ hv)
      exact (List.mem_erase_of_ne hne).2 (hs v (List.mem_cons_of_mem _ hv))
    rw [List.length_erase_of_mem ha] at ih
    have := List.length_pos_of_mem ha
    rw [List.length_cons]
    omega
theorem pw_nodup {o : List Int} (h : o.Pairwise (· < ·)) : o.Nodup := h.imp fun h => by omega
theorem foldI_mem' {e o : List Int} {x : Int} : x ∈ e.foldl withI o ↔ x ∈ o ∨ x ∈ e := foldI_mem e
/-- What is known of a part that grows. -/
structure PartO (ls : List (List Int)) (v : Nat) (o : List Int) : Prop where
  pw : o.Pairwise (· < ·)
  has : (v : Int) ∈ o
  all : ∀ x ∈ o, Reach ls v x
theorem PartO.start (ls : List (List Int)) (v : Nat) : PartO ls v [(v : Int)] := ⟨List.pairwise_singleton _ _, List.mem_singleton.2 rfl, fun x hx => by rw [List.mem_singleton.1 hx]; exact .refl⟩
theorem addE_sub {o e : List Int} {x : Int} (h : x ∈ o) : x ∈ addE o e := by
  unfold addE
  split
  · exact foldI_mem'.2 (.inl h)
  · exact h
theorem PartO.take {ls : List (List Int)} {v : Nat} {o e : List Int} (h : PartO ls v o) (he : e ∈ ls) (hm : meetB o e = true) (t : Nat) : PartO ls v ((e.take t).foldl withI o) := by
  obtain ⟨y, hy, hyo⟩ := meetB_iff.1 hm
  refine ⟨foldI_pw _ h.pw, foldI_mem'.2 (.inl h.has), fun x hx => ?_⟩
  rcases foldI_mem'.1 hx with q | q
  · exact h.all x q
  · exact .step (h.all y hyo) he hy (List.mem_of_mem_take q)
theorem PartO.add {ls : List (List Int)} {v : Nat} {o e : List Int} (h : PartO ls v o) (he : e ∈ ls) : PartO ls v (addE o e) := by
  unfold addE
  by_cases hm : meetB o e = true
  · rw [if_pos hm]
    have := h.take he hm e.length
    rwa [List.take_length] at this
  · rw [if_neg hm]; exact h
theorem PartO.adds {ls : List (List Int)} {v : Nat} : ∀ {es : List (List Int)} {o : List Int}, PartO ls v o → (∀ e ∈ es, e ∈ ls) → PartO ls v (es.foldl addE o) ∧ (∀ x ∈ o, x ∈ es.foldl addE o) ∧ ∀ e ∈ es, meetB o e = true → ∀ x ∈ e, x ∈ es.foldl addE o
  | [], o, h, _ => ⟨h, fun x hx => hx, fun e he => by cases he⟩
  | e :: es, o, h, hs => by
    obtain ⟨k1, k2, k3⟩ := PartO.adds (es := es) (h.add (hs e (List.mem_cons_self ..))) fun a ha => hs a (List.mem_cons_of_mem _ ha)
    refine ⟨k1, fun x hx => k2 x (addE_sub hx), fun a ha hm x hx => ?_⟩
    rcases List.mem_cons.1 ha with rfl | ha
    · refine k2 x ?_
      unfold addE
      rw [if_pos hm]
      exact foldI_mem'.2 (.inr hx)
    · refine k3 a ha ?_ x hx
      obtain ⟨y, h1, h2⟩ := meetB_iff.1 hm
      exact meetB_iff.2 ⟨y, h1, addE_sub h2⟩
theorem PartO.rounds {ls : List (List Int)} {v : Nat} : ∀ k, PartO ls v (partR ls [(v : Int)] k)
  | 0 => .start ls v
  | k + 1 => (PartO.adds (PartO.rounds k) fun e he => he).1
def ClosedO (ls : List (List Int)) (o : List Int) : Prop := ∀ e ∈ ls, meetB o e = true → ∀ x ∈ e, x ∈ o
theorem PartO.whole {ls : List (List Int)} {v : Nat} {o : List Int} (h : PartO ls v o) (hc : ClosedO ls o) (x : Int) : x ∈ o ↔ Reach ls v x := by
  refine ⟨h.all x, fun hr => ?_⟩
  induction hr with
  | refl => exact h.has
  | step _ he hx hy ih => exact hc _ he (meetB_iff.2 ⟨_, hx, ih⟩) _ hy
theorem rounds_len {ls : List (List Int)} {v : Nat} : ∀ k, ClosedO ls (partR ls [(v : Int)] k) ∨ k + 1 ≤ (partR ls [(v : Int)] k).length
  | 0 => .inr (Nat.le_refl _)
  | k + 1 => by
    have hk := PartO.rounds (ls := ls) (v := v) k
    obtain ⟨a1, a2, a3⟩ := PartO.adds hk fun e he => he
    have a1' : PartO ls v (partR ls [(v : Int)] (k + 1)) := a1
    by_cases hc : ClosedO ls (partR ls [(v : Int)] k)
    · refine .inl fun e he hm x hx => a2 x ((hk.whole hc x).2 ?_)
      obtain ⟨y, h1, h2⟩ := meetB_iff.1 hm
      exact .step (a1'.all y h2) he h1 hx
    · rcases rounds_len (ls := ls) (v := v) k with q | q
      · exact absurd q hc
      · refine .inr ?_
        have : ∃ e ∈ ls, meetB (partR ls [(v : Int)] k) e = true ∧ ∃ x ∈ e, x ∉ partR ls [(v : Int)] k := by
          apply Classical.byContradiction
          intro hn
          refine hc fun e he hm x hx => ?_
          apply Classical.byContradiction
          intro hx'
          exact hn ⟨e, he, hm, x, hx, hx'⟩
        obtain ⟨e, he, hm, x, hx, hxn⟩ := this
        have h9 := nodup_leI (o := x :: partR ls [(v : Int)] k) (l := partR ls [(v : Int)] (k + 1)) (List.nodup_cons.2 ⟨hxn, pw_nodup hk.pw⟩) fun y hy => by
          rcases List.mem_cons.1 hy with rfl | hy
          · exact a3 e he hm _ hx
          · exact a2 y hy
        rw [List.length_cons] at h9
        omega
theorem PartO.len {ls : List (List Int)} {v m : Nat} {o : List Int} (h : PartO ls v o) (hv : v < m) (hm : ∀ e ∈ ls, ∀ x ∈ e, 0 ≤ x ∧ x < (m : Int)) : o.length ≤ m := by
  have := nodup_leI (o := o) (l := upL m) (pw_nodup h.pw) fun x hx => upL_mem.2 (by
    cases h.all x hx with
    | refl => omega
    | step _ he _ hy => exact hm _ he x hy)
  unfold upL at this
  rwa [List.length_map, List.length_range] at this
/-- After as many rounds as there are vertices it is the part. -/
theorem rounds_part {ls : List (List Int)} {v m : Nat} (hv : v < m) (h64 : m ≤ 64) (hm : ∀ e ∈ ls, ∀ x ∈ e, 0 ≤ x ∧ x < (m : Int)) : partR ls [(v : Int)] m = partL ls v := by
  have hk := PartO.rounds (ls := ls) (v := v) m
  have hl := hk.len hv hm
  have hvo : VertsOk ls := fun e he x hx => by have := hm e he x hx; exact ⟨this.1, by show x < 64; omega⟩
  rcases rounds_len (ls := ls) (v := v) m with q | q
  · refine lt_unique hk.pw (partL_pw ls v) fun x => ?_
    rw [hk.whole q, partL_mem hvo (by omega)]
  · omega
open Classical in
/-- The parts so far, one vertex more. -/
theorem parts_next {ls : List (List Int)} {v : Nat} (hvo : VertsOk ls) (h64 : v < 64) : partsTo ls (v + 1) = partsTo ls v ++ (if (partL ls v).getD 0 0 = (v : Int) then [partL ls v] else []) ∧ 0 < (partL ls v).length := by
  have hm : (v : Int) ∈ partL ls v := (partL_mem hvo h64).2 .refl
  have hp := List.length_pos_of_mem hm
  refine ⟨?_, hp⟩
  unfold partsTo
  rw [List.range_succ, List.filter_append, List.map_append]
  simp only [List.filter_cons, List.filter_nil]
  congr 1
  by_cases hl : ∀ u : Nat, u < v → ¬ Reach ls u v
  · rw [if_pos (by rw [decide_eq_true_iff]; exact hl), if_pos (part_first hvo h64 hl).2]
    rfl
  · rw [if_neg (by rw [decide_eq_true_iff]; exact hl), if_neg]
    · rfl
    · intro e
      apply hl
      intro u hu hr
      have hum : (u : Int) ∈ partL ls v := (partL_mem hvo h64).2 hr.symm
      obtain ⟨j, hj, ej⟩ := List.getElem_of_mem hum
      rw [getD_at hp] at e
      by_cases q : j = 0
      · subst q; rw [e] at ej; omega
      · have := (List.pairwise_iff_getElem.1 (partL_pw ls v)) 0 j hp hj (by omega)
        omega
end Go.Proofs.YtplidcbfbonjlaaDoor
