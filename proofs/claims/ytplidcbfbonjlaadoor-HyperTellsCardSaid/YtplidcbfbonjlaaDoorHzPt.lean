/-
  Acyclic just if each part is. Plain: no program in sight.
-/
import Derived.Test.YtplidcbfbonjlaaDoorHzPl
namespace Go.Proofs.YtplidcbfbonjlaaDoor
set_option linter.unusedVariables false
set_option linter.unusedSimpArgs false

/-- No V is left. -/
def acyc (E : List Nat) : Prop := ∀ V : Nat → Prop, NoFree E V → ∀ v, ¬ V v
theorem leftNil_iff {E : List Nat} : LeftOf E [] ↔ acyc E := by
  constructor
  · intro h V hV v hv
    obtain ⟨s, hs, _⟩ := h.keep V hV v hv
    cases hs
  · intro h
    exact ⟨⟨fun c hc => (by cases hc), fun e he => .inl fun v _ ⟨s, hs, _⟩ => (by cases hs)⟩, fun V hV v hv => absurd hv (h V hV v), irr_nil⟩
/-- Each edge lies within, or without. -/
def Closed (E : List Nat) (p : Nat → Prop) : Prop := ∀ e ∈ E, (∀ v, e.testBit v = true → p v) ∨ ∀ v, e.testBit v = true → ¬ p v
/-- D are the edges within. -/
def Inside (E D : List Nat) (p : Nat → Prop) : Prop := ∀ e, e ∈ D ↔ e ∈ E ∧ ∃ v, p v ∧ e.testBit v = true
theorem Closed.all {E D : List Nat} {p : Nat → Prop} (hc : Closed E p) (hD : Inside E D p) {e : Nat} (he : e ∈ D) {v : Nat} (hv : e.testBit v = true) : p v := by
  obtain ⟨h1, u, h2, h3⟩ := (hD e).1 he
  rcases hc e h1 with h | h
  · exact h v hv
  · exact absurd h2 (h u h3)
theorem acyc_down {E D : List Nat} {p : Nat → Prop} (hc : Closed E p) (hD : Inside E D p) (h : acyc E) : acyc D := fun V hV => by
  refine h V fun v hv => ?_
  obtain ⟨e, he, f, hf, h1, h2, h3, h4, h5⟩ := hV v hv
  have hp := hc.all hD he h1
  have up : ∀ {a : Nat}, a.testBit v = true → MaxAt D V a → MaxAt E V a := fun {a} ha hm g hg hs => hm g ((hD g).2 ⟨hg, v, hp, hs v hv ha⟩) hs
  exact ⟨e, ((hD e).1 he).1, f, ((hD f).1 hf).1, h1, h2, up h1 h3, up h2 h4, h5⟩
theorem acyc_up {E : List Nat} (h : ∀ v, (∃ e ∈ E, e.testBit v = true) → ∃ (D : List Nat) (p : Nat → Prop), Closed E p ∧ Inside E D p ∧ p v ∧ acyc D) : acyc E := fun V hV v hv => by
  obtain ⟨e0, he0, -, -, h0, -⟩ := hV v hv
  obtain ⟨D, p, hc, hD, hpv, hA⟩ := h v ⟨e0, he0, h0⟩
  refine hA (fun u => V u ∧ p u) (fun u ⟨hu, hpu⟩ => ?_) v ⟨hv, hpv⟩
  obtain ⟨e, he, f, hf, h1, h2, h3, h4, x, h5, h6, h7⟩ := hV u hu
  have hin : ∀ {a : Nat}, a ∈ E → a.testBit u = true → a ∈ D := fun {a} ha hau => (hD a).2 ⟨ha, u, hpu, hau⟩
  have down : ∀ {a : Nat}, a ∈ D → MaxAt E V a → MaxAt D (fun u => V u ∧ p u) a := fun {a} ha hm g hg hs x hx hgx =>
    hm g ((hD g).1 hg).1 (fun y hy hay => hs y ⟨hy, hc.all hD ha hay⟩ hay) x hx.1 hgx
  exact ⟨e, hin he h1, f, hin hf h2, h1, h2, down (hin he h1) h3, down (hin hf h2) h4, x, ⟨h5, hc.all hD (hin he h1) h6⟩, h6, h7⟩
/-- The edges that have something of p. -/
def insideL (ls : List (List Int)) (p : List Int) : List (List Int) := ls.filter fun e => e.any fun x => decide (x ∈ p)
theorem insideL_mem {ls : List (List Int)} {p e : List Int} : e ∈ insideL ls p ↔ e ∈ ls ∧ ∃ x ∈ e, x ∈ p := by
  unfold insideL
  rw [List.mem_filter, List.any_eq_true]
  simp only [decide_eq_true_eq]
theorem inside_sets {ls : List (List Int)} {p : List Int} (hv : VertsOk ls) : Inside (ls.map setL) ((insideL ls p).map setL) (fun v => (v : Int) ∈ p) := fun s => by
  constructor
  · intro hs
    obtain ⟨e, he, rfl⟩ := List.mem_map.1 hs
    obtain ⟨h1, x, h2, h3⟩ := insideL_mem.1 he
    refine ⟨List.mem_map.2 ⟨e, h1, rfl⟩, x.toNat, ?_, ?_⟩
    · have := (hv e h1 x h2).1
      show ((x.toNat : Nat) : Int) ∈ p
      rw [Int.toNat_of_nonneg this]; exact h3
    · have := (hv e h1 x h2).1
      rw [setL_bit (fun y hy => (hv e h1 y hy).1), decide_eq_true_iff, Int.toNat_of_nonneg this]; exact h2
  · rintro ⟨hs, v, h1, h2⟩
    obtain ⟨e, he, rfl⟩ := List.mem_map.1 hs
    rw [setL_bit (fun y hy => (hv e he y hy).1), decide_eq_true_iff] at h2
    exact List.mem_map.2 ⟨e, insideL_mem.2 ⟨he, _, h2, h1⟩, rfl⟩
/-- An edge lies within a part, or without. -/
theorem part_edge {ls : List (List Int)} {v : Nat} (hv : VertsOk ls) (h64 : v < 64) {e : List Int} (he : e ∈ ls) {x y : Int} (hx : x ∈ e) (hy : y ∈ e) (h : x ∈ partL ls v) : y ∈ partL ls v := by
  rw [partL_mem hv h64] at h ⊢
  exact .step h he hx hy
theorem part_closed {ls : List (List Int)} {v : Nat} (hv : VertsOk ls) (h64 : v < 64) : Closed (ls.map setL) (fun u => (u : Int) ∈ partL ls v) := fun s hs => by
  obtain ⟨e, he, rfl⟩ := List.mem_map.1 hs
  by_cases q : ∃ x ∈ e, x ∈ partL ls v
  · obtain ⟨x, h1, h2⟩ := q
    refine .inl fun u hu => ?_
    rw [setL_bit (fun y hy => (hv e he y hy).1), decide_eq_true_iff] at hu
    exact part_edge hv h64 he h1 hu h2
  · refine .inr fun u hu h2 => q ⟨_, ?_, h2⟩
    rw [setL_bit (fun y hy => (hv e he y hy).1), decide_eq_true_iff] at hu
    exact hu
theorem least_part {ls : List (List Int)} {m : Nat} {x : Nat} (hx : x < m) : ∃ v : Nat, v ≤ x ∧ (∀ u : Nat, u < v → ¬ Reach ls u (v : Nat)) ∧ Reach ls (v : Nat) (x : Nat) := by
  induction x using Nat.strongRecOn with
  | _ x ih =>
    by_cases q : ∃ u : Nat, u < x ∧ Reach ls u (x : Nat)
    · obtain ⟨u, h1, h2⟩ := q
      obtain ⟨v, h3, h4, h5⟩ := ih u h1 (by omega)
      exact ⟨v, by omega, h4, h5.trans h2⟩
    · exact ⟨x, Nat.le_refl _, fun u hu hr => q ⟨u, hu, hr⟩, .refl⟩
open Classical in
theorem partsTo_mem {ls : List (List Int)} {m : Nat} {p : List Int} : p ∈ partsTo ls m ↔ ∃ v : Nat, v < m ∧ (∀ u : Nat, u < v → ¬ Reach ls u (v : Nat)) ∧ p = partL ls v := by
  unfold partsTo
  rw [List.mem_map]
  constructor
  · rintro ⟨v, hv, rfl⟩
    obtain ⟨h1, h2⟩ := List.mem_filter.1 hv
    exact ⟨v, List.mem_range.1 h1, of_decide_eq_true h2, rfl⟩
  · rintro ⟨v, h1, h2, rfl⟩
    exact ⟨v, List.mem_filter.2 ⟨List.mem_range.2 h1, decide_eq_true h2⟩, rfl⟩
/-- It is acyclic just if each part is. -/
theorem acyc_parts {m : Int} {ls : List (List Int)} (h : hypB m ls = true) : acyc (ls.map setL) ↔ ∀ p ∈ partsTo ls m.toNat, acyc ((insideL ls p).map setL) := by
  have hv := hypB_ok h
  obtain ⟨h0, h32, -, hm⟩ := hypB_yes h
  constructor
  · intro hA p hp
    obtain ⟨v, h1, -, rfl⟩ := partsTo_mem.1 hp
    exact acyc_down (part_closed hv (by omega)) (inside_sets hv) hA
  · intro hA
    refine acyc_up fun v ⟨s, hs, hb⟩ => ?_
    obtain ⟨e, he, rfl⟩ := List.mem_map.1 hs
    rw [setL_bit (fun y hy => (hv e he y hy).1), decide_eq_true_iff] at hb
    have hvm := hm e he _ hb
    obtain ⟨u, h1, h2, h3⟩ := least_part (ls := ls) (m := m.toNat) (x := v) (by omega)
    have hu64 : u < 64 := by omega
    exact ⟨_, _, part_closed hv hu64, inside_sets hv, (partL_mem hv hu64).2 h3, hA _ (partsTo_mem.2 ⟨u, by omega, h2, rfl⟩)⟩
end Go.Proofs.YtplidcbfbonjlaaDoor
