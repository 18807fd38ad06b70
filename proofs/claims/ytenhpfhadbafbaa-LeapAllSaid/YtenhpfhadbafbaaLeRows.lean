/-
  Rows of rows, and one who leaps through them, in memory; one leap, walked.
-/
import Derived.Test.YtenhpfhadbafbaaRows
import Derived.WalkKit
import Derived.WalkSpells
import Derived.WalkLawsBesides
import Derived.Outline
import Derived.Test.YtenhpfhadbafbaaLeOwn
import Derived.Test.YtenhpfhadbafbaaLePlain2
namespace Go.Proofs.Ytenhpfhadbafbaa
open Go.RowKit
set_option linter.unusedVariables false

/-- A slice of rows of uint64, read. -/
def SlR (w : World) (v : Value) (ls : List (List Int)) : Prop := ∃ rv : Nat → Value, SlC w v ((List.range ls.length).map rv) ∧ ∀ r, r < ls.length → SlI .u64 w (rv r) (rowN ls r)
theorem SlR.later {w w' : World} {v : Value} {ls : List (List Int)} (h : SlR w v ls) (hb : Below w.heap.size w w') : SlR w' v ls := by
  obtain ⟨rv, h1, h2⟩ := h
  exact ⟨rv, h1.later hb, fun r hr => (h2 r hr).later hb⟩
theorem SlR.open {w : World} {v : Value} {ls : List (List Int)} (h : SlR w v ls) :
    ∃ (a : Option Addr) (c : Nat), v = .slice a ls.length c ∧ ls.length ≤ c ∧ c ≤ 9223372036854775807 ∧ (a = none → c = 0) ∧
      (0 < ls.length → ∃ b o, a = some ⟨b, o, none⟩ ∧ b < w.heap.size ∧ ∀ r, r < ls.length → ∃ rv, w.cell? ⟨b, o + r, none⟩ = some rv ∧ SlI .u64 w rv (rowN ls r)) := by
  obtain ⟨rv, ⟨a, c, rfl, h1, h2, h3, h4⟩, h5⟩ := h
  refine ⟨a, c, by simp, by simpa using h1, by simpa [maxLen] using h2, h3, fun h0 => ?_⟩
  obtain ⟨b, o, rfl, hlt, hc⟩ := h4 (by rw [Ne, List.map_eq_nil_iff, List.range_eq_nil]; omega)
  exact ⟨b, o, rfl, hlt, fun r hr => ⟨rv r, hc r _ (by simp [hr]), h5 r hr⟩⟩

/-- What is written: blocks of S alone. -/
structure Wrote (S : Nat → Prop) (w w' : World) : Prop where
  os : w'.os = w.os
  tape : w'.tape = w.tape
  output : w'.output = w.output
  size : w.heap.size ≤ w'.heap.size
  block : ∀ b, b < w.heap.size → ¬ S b → w'.heap[b]? = w.heap[b]?
theorem Wrote.of_below {S : Nat → Prop} {w w' : World} (h : Below w.heap.size w w') : Wrote S w w' := ⟨h.os, h.tape, h.output, h.size, fun b hb _ => h.block b hb⟩
theorem Wrote.trans {S : Nat → Prop} {w w' w'' : World} (h : Wrote S w w') (k : Wrote S w' w'') : Wrote S w w'' :=
  ⟨k.os.trans h.os, k.tape.trans h.tape, k.output.trans h.output, Nat.le_trans h.size k.size, fun b hb hS => (k.block b (Nat.lt_of_lt_of_le hb h.size) hS).trans (h.block b hb hS)⟩
theorem Wrote.set {S : Nat → Prop} {w w' : World} (h : Wrote S w w') {b i : Nat} (hb : S b) (u : Value) : Wrote S w (w'.setCell ⟨b, i, none⟩ u) :=
  h.trans ⟨rfl, rfl, rfl, by simp, fun c hc hS => Below.heap_setCell _ _ _ _ (fun e => hS (by have : c = b := e; rw [this]; exact hb))⟩
theorem Wrote.below {S : Nat → Prop} {B : Nat} {w w' : World} (h : Wrote S w w') (hS : ∀ b, S b → B ≤ b) (hB : B ≤ w.heap.size) : Below B w w' :=
  ⟨h.os, h.tape, h.output, h.size, fun b hb => h.block b (by omega) (fun e => by have := hS b e; omega)⟩

/-- One who leaps, in a box; her places, a row of her own; the rows, as they lay in an earlier world. -/
structure Lp (w0 w : World) (X g cap : Nat) (v : Value) (ls : List (List Int)) (ats : List Nat) (looks : Int) : Prop where
  rows : SlR w0 v ls
  bel : Below w0.heap.size w0 w
  box : w.heap[X]? = some (.cells #[v, .slice (some ⟨g, 0, none⟩) ls.length cap, .int .i64 looks] 59 (0, 0))
  own : w.ownsRow w0.heap.size 3 1 (.slice (some ⟨g, 0, none⟩) ls.length cap) ls.length (ats.map (fun (n : Nat) => Value.int .i64 (n : Int)))
  low : w0.heap.size ≤ X
section
variable {w0 w w' : World} {X g cap : Nat} {v : Value} {ls : List (List Int)} {ats : List Nat} {looks : Int}
theorem Lp.n (h : Lp w0 w X g cap v ls ats looks) : ats.length = ls.length := by have := owns_len h.own; simpa using this
theorem Lp.later (h : Lp w0 w X g cap v ls ats looks) (hb : Below w.heap.size w w') : Lp w0 w' X g cap v ls ats looks :=
  ⟨h.rows, later_trans h.bel hb, (hb.block _ (lt_of_block h.box)).trans h.box, owns_later h.own hb, h.low⟩
theorem Lp.cells (h : Lp w0 w X g cap v ls ats looks) : w.cell? ⟨X, 0, none⟩ = some v ∧ w.cell? ⟨X, 1, none⟩ = some (.slice (some ⟨g, 0, none⟩) ls.length cap) ∧ w.cell? ⟨X, 2, none⟩ = some (.int .i64 looks) ∧ ∀ i, w.frozen? ⟨X, i, none⟩ = false :=
  ⟨by simpa using box_cell (i := 0) h.box, by simpa using box_cell (i := 1) h.box, by simpa using box_cell (i := 2) h.box, fun i => box_frozen h.box⟩
theorem Lp.at_ (h : Lp w0 w X g cap v ls ats looks) {r : Nat} (hr : r < ls.length) : w.cell? ⟨g, r, none⟩ = some (.int .i64 (atN ats r)) ∧ w.frozen? ⟨g, r, none⟩ = false := by
  have hn := h.n
  exact owns_cell h.own (by simp [atN, List.getElem?_eq_getElem (show r < ats.length by omega), List.getD])
theorem Lp.gw (h : Lp w0 w X g cap v ls ats looks) : w0.heap.size ≤ g := (h.own.lt g rfl).1
theorem Lp.ne (h : Lp w0 w X g cap v ls ats looks) : X ≠ g := fun e => own_ne h.own h.box (by decide) (by rw [e]; rfl)
theorem Lp.setAt (h : Lp w0 w X g cap v ls ats looks) (r p : Nat) : Lp w0 (w.setCell ⟨g, r, none⟩ (.int .i64 (p : Int))) X g cap v ls (ats.set r p) looks := by
  refine ⟨h.rows, h.bel.setCell (p := ⟨g, r, none⟩) h.gw _, box_other h.box h.ne _, ?_, h.low⟩
  have := owns_set (j := r) h.own (.int .i64 (p : Int))
  rw [List.map_set]
  exact this
theorem Lp.setLooks (h : Lp w0 w X g cap v ls ats looks) (n : Int) : Lp w0 (w.setCell ⟨X, 2, none⟩ (.int .i64 n)) X g cap v ls ats n := by
  refine ⟨h.rows, h.bel.setCell (p := ⟨X, 2, none⟩) h.low _, ?_, own_set h.own h.box (by decide) _, h.low⟩
  have := box_set (i := 2) h.box (.int .i64 n)
  simpa using this
end
theorem box_frozen' {w : World} {base g n cap i : Nat} {e : TypeId} {size : Nat} {xs : List Value} (h : w.ownsRow base e size (.slice (some ⟨g, 0, none⟩) n cap) n xs) : w.frozen? ⟨g, i, none⟩ = false := by
  rcases h.2 with ⟨h', _⟩ | ⟨g', cap', cur, hv, _, hh, _⟩
  · cases h'
  · cases hv; exact box_frozen hh
theorem few_most {n i at_ looks : Nat} (h : FewLooks n i at_ looks) (hi : i ≤ n) (ha : at_ ≤ n) : looks ≤ 2 + 2 * lg (1 + n : Int) := by
  by_cases e : i = n
  · have := h.1 e; omega
  · obtain ⟨h1, h2⟩ := h.2 (by omega)
    by_cases h0 : i ≤ 1 + at_
    · by_cases h3 : 1 + at_ - i = 0
      · rw [show (1 + (at_ : Int) - i) = 0 from by omega, lg_small 0 (by omega)] at h2
        omega
      · have := lg_mono (a := 1 + at_ - i) (b := 1 + n) (by omega) (by omega)
        rw [show ((1 + at_ - i : Nat) : Int) = 1 + (at_ : Int) - i from by omega, show ((1 + n : Nat) : Int) = 1 + (n : Int) from by omega] at this
        omega
    · rw [lg_small _ (by omega)] at h2
      omega
/-- Rows that rise, not too long, of numbers. -/
structure RowsOk (ls : List (List Int)) : Prop where
  some : 0 < ls.length
  few : ls.length ≤ 64
  rise : ∀ r, r < ls.length → risesB (rowN ls r) = true
  short : ∀ r, r < ls.length → (rowN ls r).length ≤ 1000
  nat : ∀ r, r < ls.length → ∀ n ∈ rowN ls r, 0 ≤ n

set_option maxRecDepth 100000 in
set_option maxHeartbeats 2000000 in
theorem leap_any {w0 w : World} {X g cap : Nat} {v : Value} {ls : List (List Int)} {ats : List Nat} {looks key : Int} {r : Nat} (h : Lp w0 w X g cap v ls ats looks) (hR : RowsOk ls) (hr : r < ls.length) (hat : atN ats r ≤ (rowN ls r).length) (hl0 : 0 ≤ looks) (hl1 : looks ≤ 1000000000000) :
    Calls Try.prog 38 #[.pointer (some ⟨X, 0, none⟩), .int .i64 r, .int .u64 key] w fun e w' => ∃ n : Nat, e = .returned (.bool (decide (place (rowN ls r) (atN ats r) (geB key) < (rowN ls r).length))) ∧
      n ≤ 2 + 2 * lg (1 + (rowN ls r).length : Int) ∧ Lp w0 w' X g cap v ls (ats.set r (place (rowN ls r) (atN ats r) (geB key))) (looks + n) ∧ Wrote (fun b => b = X ∨ b = g) w w' := by
  obtain ⟨a, c, rfl, r1, r2, r3, r4⟩ := (h.rows.later h.bel).open
  obtain ⟨b, o, rfl, hb, hc⟩ := r4 (by omega)
  obtain ⟨rv, c1, hrv⟩ := hc r hr
  obtain ⟨a', c', rfl, -, -, -, -⟩ := hrv.open
  obtain ⟨x0, x1, x2, fx⟩ := h.cells
  obtain ⟨y0, y1⟩ := h.at_ hr
  have hS := Lib.hid hrv
  have H := Lib.hid h
  have hR0 := Lib.hid (And.intro (hR.rise r hr) (hR.short r hr))
  obtain ⟨p0, hp0⟩ : ∃ p0, atN ats r = p0 := ⟨_, rfl⟩
  rw [hp0] at hat y0 ⊢
  have HP0 := Lib.hid hp0
  have hrI : (r : Int) < ls.length := by omega
  have HRr := Lib.hid hr
  clear h hr hR hc r3 r4 hrv hb hp0 r1
  go_enter Try.func38, Try.ntmps38
  go_wp2_with fail
  refine (Seek_any _ (rowN ls r) p0 key w hS.out (by have := hR0.out.2; omega)).mono ?_
  rintro e w1 ⟨hE, hb1⟩
  have hm : mayB (rowN ls r) p0 = true := by simp [mayB, hR0.out.1]; omega
  rw [if_pos hm] at hE
  obtain ⟨n, rfl, hF⟩ := hE
  rw [Int.toNat_natCast] at hF ⊢
  obtain ⟨p, hp⟩ : ∃ p, place (rowN ls r) p0 (geB key) = p := ⟨_, rfl⟩
  have HPp := Lib.hid hp
  have hple : p ≤ (rowN ls r).length := by rw [← hp]; exact place_le hat
  rw [hp] at hF ⊢
  have hn := few_most hF.1 hat hple
  have hlg := lg_le (1 + (rowN ls r).length : Int) (by have := hR0.out.2; omega)
  have hn0 : n ≤ 126 := by omega
  have H1 := Lib.hid (H.out.later hb1)
  obtain ⟨x0, x1, x2, fx⟩ := H1.out.cells
  obtain ⟨y0, y1⟩ := H1.out.at_ HRr.out
  rw [HP0.out] at y0
  have hne := H1.out.ne
  have HN := Lib.hid (And.intro hn hb1)
  have hl2 : IntKind.i64.wrap (looks + n) = looks + n := wrap_i64 (by omega) (by omega)
  clear H hm hF hp hn hlg hb1
  go_wp2_with fail
  go_ret
  rw [HPp.out]
  exact ⟨n, rfl, HN.out.1, (H1.out.setAt r p).setLooks _, ((Wrote.of_below HN.out.2).set (.inr rfl) _).set (.inl rfl) _⟩
end Go.Proofs.Ytenhpfhadbafbaa
