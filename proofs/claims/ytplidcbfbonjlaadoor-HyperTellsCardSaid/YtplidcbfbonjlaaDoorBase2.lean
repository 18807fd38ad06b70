/-
  Slices whose elements take several cells each: 'SlT cells size w v xs': the slice value v has the elements xs in the world w, each laid as 'cells x' (size cells). No program in sight.
-/
import Derived.Test.YtplidcbfbonjlaaDoorBase
namespace Go.Proofs.YtplidcbfbonjlaaDoor
open Go.RowKit
set_option linter.unusedVariables false

section
variable {α : Type} {cells : α → List Value} {size : Nat}

theorem flat_len (hs : ∀ x, (cells x).length = size) (xs : List α) : (xs.flatMap cells).length = xs.length * size := by
  induction xs with
  | nil => simp
  | cons a r ih => rw [List.flatMap_cons, List.length_append, ih, hs, List.length_cons, Nat.add_mul, Nat.one_mul, Nat.add_comm]
theorem flat_at (hs : ∀ x, (cells x).length = size) (xs : List α) (i j : Nat) (hi : i < xs.length) (hj : j < size) : (xs.flatMap cells)[i * size + j]? = (cells xs[i])[j]? := by
  induction xs generalizing i with
  | nil => simp at hi
  | cons a r ih =>
    rw [List.flatMap_cons]
    cases i with
    | zero =>
      rw [Nat.zero_mul, Nat.zero_add, List.getElem?_append_left (by rw [hs]; exact hj)]
      rfl
    | succ i =>
      rw [List.getElem?_append_right (by rw [hs, Nat.add_mul]; omega), hs, show (i + 1) * size + j - size = i * size + j from by rw [Nat.add_mul]; omega]
      exact ih i (by simpa using hi)
theorem flat_take (hs : ∀ x, (cells x).length = size) (xs : List α) (m : Nat) : (xs.take m).flatMap cells = (xs.flatMap cells).take (m * size) := by
  induction xs generalizing m with
  | nil => simp
  | cons a r ih =>
    cases m with
    | zero => simp
    | succ m =>
      have e : (cells a).take ((m + 1) * size) = cells a := List.take_of_length_le (by rw [hs, Nat.add_mul]; omega)
      rw [List.take_succ_cons, List.flatMap_cons, List.flatMap_cons, ih, List.take_append, hs, e, show (m + 1) * size - size = m * size from by rw [Nat.add_mul]; omega]

/-- The slice value v, read in w: n elements of size cells each. -/
def SlS (size : Nat) (w : World) (v : Value) (n : Nat) (cs : List Value) : Prop :=
  cs.length = n * size ∧ ∃ (a : Option Addr) (c : Nat), v = .slice a n c ∧ n ≤ c ∧ c ≤ maxLen ∧ (a = none → c = 0) ∧
    (0 < n → ∃ b o, a = some ⟨b, o, none⟩ ∧ b < w.heap.size ∧ ∀ i u, cs[i]? = some u → w.cell? ⟨b, o + i, none⟩ = some u)

theorem SlS.below {w w' : World} {B n : Nat} {v : Value} {cs : List Value} (h : SlS size w v n cs) (hb : Below B w w') (hB : w.heap.size ≤ B) : SlS size w' v n cs := by
  obtain ⟨h0, a, c, rfl, h1, h2, h3, h4⟩ := h
  refine ⟨h0, a, c, rfl, h1, h2, h3, fun hne => ?_⟩
  obtain ⟨b, o, rfl, hlt, hc⟩ := h4 hne
  exact ⟨b, o, rfl, Nat.lt_of_lt_of_le hlt hb.size, fun i u hi => by rw [hb.cell (p := ⟨b, o + i, none⟩) (by show b < B; omega)]; exact hc i u hi⟩
theorem SlS.later {w w' : World} {n : Nat} {v : Value} {cs : List Value} (h : SlS size w v n cs) (hb : Below w.heap.size w w') : SlS size w' v n cs := h.below hb (Nat.le_refl _)
theorem SlS.nil (w : World) : SlS size w (.slice none 0 0) 0 [] := ⟨by simp, none, 0, rfl, by omega, by simp [maxLen], fun _ => rfl, fun h => by omega⟩
theorem SlS.at_ {w : World} {ad : Addr} {n m c : Nat} {cs : List Value} (h0 : 0 < size) (h : SlS size w (.slice (some ad) m c) n cs) : ∀ j u, cs[j]? = some u → w.cell? (ad.add j) = some u := by
  obtain ⟨hl, a, c', he, h1, h2, h3, h4⟩ := h
  intro j u hj
  have hn : 0 < n := by
    rcases Nat.eq_zero_or_pos n with h | h
    · subst h
      have := (List.getElem?_eq_some_iff.1 hj).1
      omega
    · exact h
  obtain ⟨b, o, rfl, hlt, hc⟩ := h4 hn
  obtain rfl : ad = ⟨b, o, none⟩ := by cases he; rfl
  rw [add_mk]; exact hc j u hj
theorem SlS.of_owns {w : World} {base : Nat} {e : TypeId} {v : Value} {n : Nat} {cs : List Value} (h : w.ownsRow base e size v n cs) : SlS size w v n cs := by
  obtain ⟨hl, h⟩ := h
  refine ⟨hl, ?_⟩
  rcases h with ⟨rfl, rfl⟩ | ⟨g, cap, cur, rfl, hg, hh, h1, h2, h3, h4⟩
  · exact ⟨none, 0, rfl, by omega, by simp [maxLen], fun _ => rfl, fun h => by omega⟩
  · refine ⟨_, cap, rfl, h1, h2, fun h => by (cases h), fun hne => ⟨g, 0, rfl, lt_of_block hh, fun i u hi => ?_⟩⟩
    have hi' : i < cs.length := (List.getElem?_eq_some_iff.1 hi).1
    simp only [World.cell?, hh, Nat.zero_add]
    rw [← h4, List.getElem?_take_of_lt (by omega)] at hi
    simpa using hi
theorem SlS.cut {w : World} {a : Option Addr} {n k c : Nat} {cs : List Value} (h : SlS size w (.slice a k c) n cs) {m : Nat} (hm : m ≤ n) : SlS size w (.slice a m c) m (cs.take (m * size)) := by
  obtain ⟨hl, a', c', e, h1, h2, h3, h4⟩ := h
  cases e
  refine ⟨by rw [List.length_take, hl, Nat.min_eq_left (Nat.mul_le_mul_right _ hm)], a, c, rfl, by omega, h2, h3, fun hne => ?_⟩
  obtain ⟨b, o, rfl, hlt, hc⟩ := h4 (by omega)
  refine ⟨b, o, rfl, hlt, fun i u hi => hc i u ?_⟩
  rw [List.getElem?_take] at hi
  split at hi
  · exact hi
  · cases hi

/-- The slice value v, read in w: the elements xs, each laid as its cells. -/
def SlT (cells : α → List Value) (size : Nat) (w : World) (v : Value) (xs : List α) : Prop := SlS size w v xs.length (xs.flatMap cells)

theorem SlT.later {w w' : World} {v : Value} {xs : List α} (h : SlT cells size w v xs) (hb : Below w.heap.size w w') : SlT cells size w' v xs := SlS.later h hb
theorem SlT.alloc {w : World} {v : Value} {xs : List α} (h : SlT cells size w v xs) (o : Obj) : SlT cells size (w.alloc o) v xs := SlS.later h (later_alloc w o)
theorem SlT.nil (w : World) : SlT cells size w (.slice none 0 0) [] := SlS.nil w
theorem SlT.of_owns {w : World} {base : Nat} {e : TypeId} {v : Value} {xs : List α} (h : w.ownsRow base e size v xs.length (xs.flatMap cells)) : SlT cells size w v xs := SlS.of_owns h
theorem SlT.cut (hs : ∀ x, (cells x).length = size) {w : World} {a : Option Addr} {n c : Nat} {xs : List α} (h : SlT cells size w (.slice a n c) xs) {m : Nat} (hm : m ≤ xs.length) : SlT cells size w (.slice a m c) (xs.take m) := by
  have h1 := SlS.cut h hm
  unfold SlT
  rw [flat_take hs, List.length_take, Nat.min_eq_left hm]
  exact h1
/-- Its shape: the value, and, where it has an element, where its cells lie. -/
theorem SlT.open (hs : ∀ x, (cells x).length = size) {w : World} {v : Value} {xs : List α} (h : SlT cells size w v xs) :
    ∃ (a : Option Addr) (c : Nat), v = .slice a xs.length c ∧ xs.length ≤ c ∧ c ≤ 9223372036854775807 ∧ (a = none → c = 0) ∧
      (0 < xs.length → ∃ b o, a = some ⟨b, o, none⟩ ∧ b < w.heap.size ∧ ∀ i, (hi : i < xs.length) → ∀ j u, (cells xs[i])[j]? = some u → w.cell? ⟨b, o + (i * size + j), none⟩ = some u) := by
  obtain ⟨_, a, c, rfl, h1, h2, h3, h4⟩ := h
  refine ⟨a, c, rfl, h1, by simpa [maxLen] using h2, h3, fun h0 => ?_⟩
  obtain ⟨b, o, rfl, hlt, hc⟩ := h4 h0
  refine ⟨b, o, rfl, hlt, fun i hi j u hu => hc _ u ?_⟩
  have hj : j < size := by have := (List.getElem?_eq_some_iff.1 hu).1; rw [hs] at this; exact this
  rw [flat_at hs xs i j hi hj]; exact hu
end

/-- The first m elements, read. -/
theorem SlI.cut2 {k : IntKind} {w : World} {a : Option Addr} {n c : Nat} {xs : List Int} (h : SlI k w (.slice a n c) xs) {m : Nat} (hm : m ≤ xs.length) : SlI k w (.slice a m c) (xs.take m) := by
  obtain ⟨⟨a', c', e, h1, h2, h3, h4⟩, hw⟩ := h
  cases e
  simp only [List.length_map] at h1
  refine ⟨⟨a, c, by simp [hm], by simp; omega, h2, h3, fun hne => ?_⟩, fun x hx => hw x (List.mem_of_mem_take hx)⟩
  obtain ⟨b, o, rfl, hlt, hc⟩ := h4 (by intro e; apply hne; simp at e; subst e; simp)
  refine ⟨b, o, rfl, hlt, fun i u hi => hc i u ?_⟩
  simp only [List.map_take, List.getElem?_take] at hi
  split at hi
  · exact hi
  · cases hi

/-- A branch: its key, and where its leaves begin and end. -/
structure Br where
  k : Int
  f : Int
  t : Int
  deriving DecidableEq
/-- A pair of numbers. -/
structure Pr where
  a : Int
  b : Int
  deriving DecidableEq
def Br.cells (b : Br) : List Value := [.int .u64 b.k, .int .i64 b.f, .int .i64 b.t]
def Pr.cells (p : Pr) : List Value := [.int .u64 p.a, .int .u64 p.b]
theorem Br.len (b : Br) : b.cells.length = 3 := rfl
theorem Pr.len (p : Pr) : p.cells.length = 2 := rfl
def Br.wf (b : Br) : Prop := (Lit.int .u64 b.k).wf = true ∧ (Lit.int .i64 b.f).wf = true ∧ (Lit.int .i64 b.t).wf = true
def Pr.wf (p : Pr) : Prop := (Lit.int .u64 p.a).wf = true ∧ (Lit.int .u64 p.b).wf = true
/-- A slice of branches, of pairs, read. -/
def SlB (w : World) (v : Value) (bs : List Br) : Prop := SlT Br.cells 3 w v bs ∧ ∀ b ∈ bs, b.wf
def SlP (w : World) (v : Value) (ps : List Pr) : Prop := SlT Pr.cells 2 w v ps ∧ ∀ p ∈ ps, p.wf
theorem SlB.later {w w' : World} {v : Value} {bs : List Br} (h : SlB w v bs) (hb : Below w.heap.size w w') : SlB w' v bs := ⟨h.1.later hb, h.2⟩
theorem SlP.later {w w' : World} {v : Value} {ps : List Pr} (h : SlP w v ps) (hb : Below w.heap.size w w') : SlP w' v ps := ⟨h.1.later hb, h.2⟩
theorem SlB.nil (w : World) : SlB w (.slice none 0 0) [] := ⟨SlT.nil w, fun b hb => by cases hb⟩
theorem SlP.nil (w : World) : SlP w (.slice none 0 0) [] := ⟨SlT.nil w, fun b hb => by cases hb⟩
theorem SlB.cut {w : World} {a : Option Addr} {n c : Nat} {bs : List Br} (h : SlB w (.slice a n c) bs) {m : Nat} (hm : m ≤ bs.length) : SlB w (.slice a m c) (bs.take m) := ⟨h.1.cut Br.len hm, fun b hb => h.2 b (List.mem_of_mem_take hb)⟩
theorem SlP.cut {w : World} {a : Option Addr} {n c : Nat} {ps : List Pr} (h : SlP w (.slice a n c) ps) {m : Nat} (hm : m ≤ ps.length) : SlP w (.slice a m c) (ps.take m) := ⟨h.1.cut Pr.len hm, fun b hb => h.2 b (List.mem_of_mem_take hb)⟩
/-- .. and, where it has an element, where its numbers lie. -/
theorem SlB.open {w : World} {v : Value} {bs : List Br} (h : SlB w v bs) :
    ∃ (a : Option Addr) (c : Nat), v = .slice a bs.length c ∧ bs.length ≤ c ∧ c ≤ 9223372036854775807 ∧ (a = none → c = 0) ∧
      (0 < bs.length → ∃ b o, a = some ⟨b, o, none⟩ ∧ b < w.heap.size ∧ ∀ i, (hi : i < bs.length) → w.cell? ⟨b, o + i * 3, none⟩ = some (.int .u64 bs[i].k) ∧ w.cell? ⟨b, o + i * 3 + 1, none⟩ = some (.int .i64 bs[i].f) ∧ w.cell? ⟨b, o + i * 3 + 2, none⟩ = some (.int .i64 bs[i].t)) := by
  obtain ⟨a, c, e, h1, h2, h3, h4⟩ := h.1.open Br.len
  refine ⟨a, c, e, h1, h2, h3, fun h0 => ?_⟩
  obtain ⟨b, o, e1, hlt, hc⟩ := h4 h0
  exact ⟨b, o, e1, hlt, fun i hi => ⟨hc i hi 0 _ rfl, hc i hi 1 _ rfl, hc i hi 2 _ rfl⟩⟩
theorem SlP.open {w : World} {v : Value} {ps : List Pr} (h : SlP w v ps) :
    ∃ (a : Option Addr) (c : Nat), v = .slice a ps.length c ∧ ps.length ≤ c ∧ c ≤ 9223372036854775807 ∧ (a = none → c = 0) ∧
      (0 < ps.length → ∃ b o, a = some ⟨b, o, none⟩ ∧ b < w.heap.size ∧ ∀ i, (hi : i < ps.length) → w.cell? ⟨b, o + i * 2, none⟩ = some (.int .u64 ps[i].a) ∧ w.cell? ⟨b, o + i * 2 + 1, none⟩ = some (.int .u64 ps[i].b)) := by
  obtain ⟨a, c, e, h1, h2, h3, h4⟩ := h.1.open Pr.len
  refine ⟨a, c, e, h1, h2, h3, fun h0 => ?_⟩
  obtain ⟨b, o, e1, hlt, hc⟩ := h4 h0
  exact ⟨b, o, e1, hlt, fun i hi => ⟨hc i hi 0 _ rfl, hc i hi 1 _ rfl⟩⟩
end Go.Proofs.YtplidcbfbonjlaaDoor
