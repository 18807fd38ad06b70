/-
  What a slice reads as: 'SlC w v cs': the slice value v has the elements cs (one cell each) in the world w; 'SlI': they are integers of one kind. No program in sight.
-/
import Derived.WalkKit
import Derived.WalkSpells
import Derived.Laws.AppendOwnNone
import Derived.Lib.Hide
import Derived.Deep.Draws
namespace Go.Proofs.YtplidcbfbonjlaaDoor
open Go.RowKit

/-- The slice value v, read in w: its elements, one cell each, hold cs. -/
def SlC (w : World) (v : Value) (cs : List Value) : Prop :=
  ∃ (a : Option Addr) (c : Nat), v = .slice a cs.length c ∧ cs.length ≤ c ∧ c ≤ maxLen ∧ (a = none → c = 0) ∧
    (cs ≠ [] → ∃ b o, a = some ⟨b, o, none⟩ ∧ b < w.heap.size ∧ ∀ i u, cs[i]? = some u → w.cell? ⟨b, o + i, none⟩ = some u)

theorem SlC.len {w : World} {v : Value} {cs : List Value} (h : SlC w v cs) : cs.length ≤ maxLen := by
  obtain ⟨a, c, _, h1, h2, _⟩ := h; omega

theorem SlC.nil (w : World) : SlC w (.slice none 0 0) [] := ⟨none, 0, rfl, by simp, by simp [maxLen], fun _ => rfl, fun h => absurd rfl h⟩

theorem SlC.below {w w' : World} {B : Nat} {v : Value} {cs : List Value} (h : SlC w v cs) (hb : Below B w w') (hB : w.heap.size ≤ B) : SlC w' v cs := by
  obtain ⟨a, c, rfl, h1, h2, h3, h4⟩ := h
  refine ⟨a, c, rfl, h1, h2, h3, fun hne => ?_⟩
  obtain ⟨b, o, rfl, hlt, hc⟩ := h4 hne
  exact ⟨b, o, rfl, Nat.lt_of_lt_of_le hlt hb.size, fun i u hi => by rw [hb.cell (p := ⟨b, o + i, none⟩) (by show b < B; omega)]; exact hc i u hi⟩

/-- The same, read in a later world. -/
theorem SlC.later {w w' : World} {v : Value} {cs : List Value} (h : SlC w v cs) (hb : Below w.heap.size w w') : SlC w' v cs := h.below hb (Nat.le_refl _)

theorem SlC.alloc {w : World} {v : Value} {cs : List Value} (h : SlC w v cs) (o : Obj) : SlC (w.alloc o) v cs := h.later ((Below.refl _ _).alloc (Nat.le_refl _) _)
theorem SlC.drew {w : World} {v : Value} {cs : List Value} (h : SlC w v cs) : SlC w.drew v cs := h

theorem add_mk (b o j : Nat) : (⟨b, o, none⟩ : Addr).add j = ⟨b, o + j, none⟩ := by
  by_cases h : j = 0
  · subst h; simp [Addr.add]
  · simp [Addr.add, h]

/-- Its cells, from its address on. -/
theorem SlC.cells {w : World} {ad : Addr} {n c : Nat} {cs : List Value} (h : SlC w (.slice (some ad) n c) cs) : ∀ j u, cs[j]? = some u → w.cell? (ad.add j) = some u := by
  obtain ⟨a, c', he, h1, h2, h3, h4⟩ := h
  intro j u hj
  obtain ⟨b, o, rfl, hlt, hc⟩ := h4 (by rintro rfl; simp at hj)
  obtain rfl : ad = ⟨b, o, none⟩ := by cases he; rfl
  rw [add_mk]; exact hc j u hj

/-- A row of the call's own, read. -/
theorem SlC.of_owns {w : World} {base : Nat} {e : TypeId} {v : Value} {n : Nat} {cs : List Value} (h : w.ownsRow base e 1 v n cs) : SlC w v cs := by
  obtain ⟨hl, h⟩ := h
  rcases h with ⟨rfl, rfl⟩ | ⟨g, cap, cur, rfl, hg, hh, h1, h2, h3, h4⟩
  · obtain rfl : cs = [] := List.eq_nil_of_length_eq_zero (by simpa using hl)
    exact SlC.nil w
  · obtain rfl : n = cs.length := by omega
    refine ⟨_, cap, rfl, h1, h2, fun h => by (cases h), fun hne => ⟨g, 0, rfl, lt_of_block hh, fun i u hi => ?_⟩⟩
    have hi' : i < cs.length := (List.getElem?_eq_some_iff.1 hi).1
    simp only [World.cell?, hh, Nat.zero_add]
    rw [← h4, List.getElem?_take_of_lt (by omega)] at hi
    simpa using hi

/-- A slice of integers of the kind k, read. -/
def SlI (k : IntKind) (w : World) (v : Value) (xs : List Int) : Prop := SlC w v (xs.map (Value.int k)) ∧ ∀ x ∈ xs, (Lit.int k x).wf = true

theorem SlI.later {k : IntKind} {w w' : World} {v : Value} {xs : List Int} (h : SlI k w v xs) (hb : Below w.heap.size w w') : SlI k w' v xs := ⟨h.1.later hb, h.2⟩
theorem SlI.alloc {k : IntKind} {w : World} {v : Value} {xs : List Int} (h : SlI k w v xs) (o : Obj) : SlI k (w.alloc o) v xs := ⟨h.1.alloc o, h.2⟩
theorem SlI.drew {k : IntKind} {w : World} {v : Value} {xs : List Int} (h : SlI k w v xs) : SlI k w.drew v xs := h
theorem SlI.len {k : IntKind} {w : World} {v : Value} {xs : List Int} (h : SlI k w v xs) : xs.length ≤ maxLen := by have := h.1.len; simpa using this
theorem SlI.nil (k : IntKind) (w : World) : SlI k w (.slice none 0 0) [] := ⟨SlC.nil w, fun x hx => by cases hx⟩

/-- Its shape: the value, and, where it has an element, where its cells lie. -/
theorem SlI.open {k : IntKind} {w : World} {v : Value} {xs : List Int} (h : SlI k w v xs) :
    ∃ (a : Option Addr) (c : Nat), v = .slice a xs.length c ∧ xs.length ≤ c ∧ c ≤ 9223372036854775807 ∧ (a = none → c = 0) ∧
      (0 < xs.length → ∃ b o, a = some ⟨b, o, none⟩ ∧ b < w.heap.size ∧ ∀ i, (hi : i < xs.length) → w.cell? ⟨b, o + i, none⟩ = some (.int k xs[i])) := by
  obtain ⟨⟨a, c, rfl, h1, h2, h3, h4⟩, _⟩ := h
  refine ⟨a, c, by simp, by simpa using h1, by simpa [maxLen] using h2, h3, fun h0 => ?_⟩
  obtain ⟨b, o, rfl, hlt, hc⟩ := h4 (by intro e; simp at e; subst e; simp at h0)
  exact ⟨b, o, rfl, hlt, fun i hi => hc i _ (by simp [hi])⟩

theorem SlI.of_owns {k : IntKind} {w : World} {base : Nat} {e : TypeId} {v : Value} {n : Nat} {xs : List Int} (h : w.ownsRow base e 1 v n (xs.map (Value.int k))) (hw : ∀ x ∈ xs, (Lit.int k x).wf = true) : SlI k w v xs := ⟨SlC.of_owns h, hw⟩

theorem owns_len {w : World} {base : Nat} {e : TypeId} {v : Value} {n : Nat} {cs : List Value} (h : w.ownsRow base e 1 v n cs) : cs.length = n := by have := h.1; omega

theorem wf_u64 {x : Int} (h : (Lit.int .u64 x).wf = true) : 0 ≤ x ∧ x ≤ 18446744073709551615 := by
  simpa [Lit.wf, IntKind.min, IntKind.max, IntKind.wrap, IntKind.signed, IntKind.bits] using h
theorem wf_i64 {x : Int} (h : (Lit.int .i64 x).wf = true) : -9223372036854775808 ≤ x ∧ x ≤ 9223372036854775807 := by
  simpa [Lit.wf, IntKind.min, IntKind.max, IntKind.wrap, IntKind.signed, IntKind.bits] using h

theorem ret_bool {a b : Bool} (h : a = b) : Ending.returned (.bool a) = .returned (.bool b) := by rw [h]
theorem ret_int {k : IntKind} {a b : Int} (h : a = b) : Ending.returned (.int k a) = .returned (.int k b) := by rw [h]

theorem later_refl (w : World) : Below w.heap.size w w := Below.refl _ _
theorem later_trans {a b c : World} (h : Below a.heap.size a b) (k : Below b.heap.size b c) : Below a.heap.size a c := h.trans (k.mono h.size)
theorem later_alloc (w : World) (o : Obj) : Below w.heap.size w (w.alloc o) := (Below.refl _ w).alloc (Nat.le_refl _) o
theorem later_drew (w : World) : Below w.heap.size w w.drew := (Below.refl _ w).drew
theorem later_drewN (w : World) (n : Nat) : Below w.heap.size w (w.drewN n) := ⟨rfl, rfl, rfl, Nat.le_refl _, fun _ _ => rfl⟩
theorem later_set {a b : World} (h : Below a.heap.size a b) {p : Addr} (hp : a.heap.size ≤ p.block) (u : Value) : Below a.heap.size a (b.setCell p u) := h.setCell hp u

/-- Old cells and old marks read as before. -/
theorem bcell {W w1 : World} (hb : Below W.heap.size W w1) : (∀ b o, b < W.heap.size → w1.cell? ⟨b, o, none⟩ = W.cell? ⟨b, o, none⟩) ∧ (∀ b o, b < W.heap.size → w1.frozen? ⟨b, o, none⟩ = W.frozen? ⟨b, o, none⟩) :=
  ⟨fun b o h => hb.cell (p := ⟨b, o, none⟩) h, fun b o h => hb.frozen (p := ⟨b, o, none⟩) h⟩
end Go.Proofs.YtplidcbfbonjlaaDoor
