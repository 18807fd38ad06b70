/-
  gallop.leaps (an iterator) and gallop.seek (a range over it), walked.
-/
import Derived.RangeFuncNested
import Derived.RangeFuncBound
import Derived.RangeFuncCalls
import Derived.RangeFuncLeaves
import Derived.Shelf.Abstract
import Derived.Shelf.RegionOpen
import Derived.WalkKit
import Derived.OwnWalkIn
import Derived.TacticsInMore
import Derived.LoopNIn
import Derived.LoopIn
import Derived.RegionIn
import Derived.Deep.QuietTactic
import Derived.BigQuiet
import Derived.Outline
import Derived.Laws.EntriesVeiled
import Derived.WalkSpells
import Derived.Test.YtlndgjibefbddaaRows
import Derived.Test.YtlndgjibefbddaaPlain
import Derived.Test.YtlndgjibefbddaaBase
namespace Go.Proofs.Ytlndgjibefbddaa
open Go.RowKit Go.Shelf
set_option linter.unusedVariables false
attribute [local go_sem] Oper.semAt_some

/-- The places that leaps tells: from, from + 1, from + 3, from + 7 .. -/
def leapsN (i k : Nat) : List Nat := (List.range k).map fun j => i + 2 ^ j - 1
theorem leapsN_succ (i k : Nat) : leapsN i (k + 1) = leapsN i k ++ [i + 2 ^ k - 1] := by simp [leapsN, List.range_succ]
theorem leapsN_length (i k : Nat) : (leapsN i k).length = k := by simp [leapsN]
/-- Told so far: places within the row. -/
abbrev Within (e : Nat) := { x : Nat // x < e }
/-- The places come in their order. -/
def InOrder (i e : Nat) (pre : List (Within e)) : Prop := pre.map (·.1) = leapsN i pre.length
theorem inOrder_nil (i e : Nat) : InOrder i e [] := rfl
theorem inOrder_snoc {i e : Nat} {pre : List (Within e)} {x : Within e} (h : InOrder i e (pre ++ [x])) : InOrder i e pre ∧ x.1 = i + 2 ^ pre.length - 1 := by
  unfold InOrder at *
  rw [List.length_append, List.length_singleton, leapsN_succ, List.map_append] at h
  have := List.append_inj h (by simp [leapsN_length])
  exact ⟨this.1, by simpa using this.2⟩
theorem inOrder_next {i e : Nat} {pre : List (Within e)} (h : InOrder i e pre) (x : Within e) (hx : x.1 = i + 2 ^ pre.length - 1) : InOrder i e (pre ++ [x]) := by
  unfold InOrder at *
  rw [List.length_append, List.length_singleton, leapsN_succ, List.map_append, h]
  simp [hx]
theorem pow_lt {k m : Nat} (h : 2 ^ k ≤ m) (hm : m ≤ 1099511627776) : k < 41 := by
  rcases Nat.lt_or_ge k 41 with h1 | h1
  · exact h1
  · have := Nat.pow_le_pow_right (show 0 < 2 by omega) h1
    omega
theorem pow_pos' (k : Nat) : 1 ≤ 2 ^ k := Nat.one_le_two_pow
theorem pow_cast (k : Nat) : ((2 ^ k : Nat) : Int) = 2 ^ k := by simp

set_option maxHeartbeats 1000000 in
theorem leaps_any (i e : Int) (w : World) :
    Calls Try.prog 44 #[.int .i64 i, .int .i64 e] w fun en w' => en = .returned (.func (.func 56) #[] #[.pointer (some ⟨w.heap.size, 0, none⟩), .pointer (some ⟨w.heap.size + 1, 0, none⟩)]) ∧ w' = (w.alloc (.cells #[.int .i64 i] 3)).alloc (.cells #[.int .i64 e] 3) := by
  go_enter Try.func44, Try.ntmps44
  go_wp2
  go_ret
  exact ⟨rfl, rfl⟩

/-- What is asked of the function that tells whether a number is far enough: called in whatever world keeps what lay in w, it tells p, and writes nothing. -/
def Enough (g : Nat) (B : Nat) (p : Int → Bool) (w : World) : Prop :=
  (∀ args W, (callFunc g args).run Try.prog W = .ok (.enter g args) W) ∧
    ∀ x W, Below w.heap.size w W → Calls Try.prog g #[.int .u64 x, .pointer (some ⟨B, 0, none⟩)] W fun e W' => e = .returned (.bool (p x)) ∧ W' = W

/-- The cells of seek's own variables: the row, the function, the looks, the function that looks, low and high. -/
def SeekW (w : World) (a : Option Addr) (len c g B Bl Bh : Nat) (looks low high : Int) (W : World) : Prop :=
  (W.cell? ⟨w.heap.size, 0, none⟩ = some (.slice a len c) ∧
   W.cell? ⟨w.heap.size + 1, 0, none⟩ = some (.func (.func g) #[] #[.pointer (some ⟨B, 0, none⟩)]) ∧
   (W.cell? ⟨w.heap.size + 2, 0, none⟩ = some (.int .i64 looks) ∧ W.frozen? ⟨w.heap.size + 2, 0, none⟩ = false) ∧
   W.cell? ⟨w.heap.size + 3, 0, none⟩ = some (.func (.func 43) #[] #[.pointer (some ⟨w.heap.size + 2, 0, none⟩), .pointer (some ⟨w.heap.size + 1, 0, none⟩), .pointer (some ⟨w.heap.size, 0, none⟩)]) ∧
   (W.cell? ⟨Bl, 0, none⟩ = some (.int .i64 low) ∧ W.frozen? ⟨Bl, 0, none⟩ = false) ∧
   (W.cell? ⟨Bh, 0, none⟩ = some (.int .i64 high) ∧ W.frozen? ⟨Bh, 0, none⟩ = false)) ∧
  Below w.heap.size w W

set_option maxHeartbeats 1000000 in
/-- seek's own function look: one look more, and the answer. -/
theorem look_any (w : World) (a : Option Addr) (c g B Bl Bh : Nat) (looks low high : Int) (xs : List Int) (p : Int → Bool) (j : Nat) (W : World)
    (h : SlI .u64 w (.slice a xs.length c) xs) (he : Enough g B p w) (hW : SeekW w a xs.length c g B Bl Bh looks low high W) (hj : j < xs.length) (hl0 : 0 ≤ looks) (hl1 : looks ≤ 4611686018427387904) :
    Calls Try.prog 43 #[.int .i64 j, .pointer (some ⟨w.heap.size + 2, 0, none⟩), .pointer (some ⟨w.heap.size + 1, 0, none⟩), .pointer (some ⟨w.heap.size, 0, none⟩)] W
      fun e W' => e = .returned (.bool (p (xs.getD j 0))) ∧ ∃ n, W' = (W.setCell ⟨w.heap.size + 2, 0, none⟩ (.int .i64 (looks + 1))).drewN n := by
  obtain ⟨a', c', e0, h1, h2, h3, h4⟩ := h.open
  cases e0
  obtain ⟨b, o, rfl, hlt, hc⟩ := h4 (by omega)
  obtain ⟨⟨c0, c1, ⟨c2, f2⟩, _, _, _⟩, hb⟩ := hW
  have hcj : (W.setCell ⟨w.heap.size + 2, 0, none⟩ (.int .i64 (looks + 1))).cell? ⟨b, o + j, none⟩ = some (.int .u64 xs[j]) := by
    rw [World.cell?_setCell_other _ _ _ _ (by intro e; injection e with e; omega)]
    exact ((bcell hb).1 b (o + j) hlt).trans (hc j hj)
  have hq : ∀ n, Calls Try.prog g #[.int .u64 xs[j], .pointer (some ⟨B, 0, none⟩)] ((W.setCell ⟨w.heap.size + 2, 0, none⟩ (.int .i64 (looks + 1))).drewN n) fun e W' => e = .returned (.bool (p xs[j])) ∧ W' = ((W.setCell ⟨w.heap.size + 2, 0, none⟩ (.int .i64 (looks + 1))).drewN n) := fun n => he.2 xs[j] _ (by
    have := hb.setCell (p := ⟨w.heap.size + 2, 0, none⟩) (by simp) (.int .i64 (looks + 1))
    exact ⟨this.os, this.tape, this.output, this.size, this.block⟩)
  have HQ := Lib.hid hq
  have hen := he.1
  have hg : xs.getD j 0 = xs[j] := by simp [hj]
  rw [hg]
  clear h h3 h4 hc hb hq he hg
  go_enter Try.func43, Try.ntmps43
  go_wp2
  go_quiet (exact Calls.quiet_of_same (HQ.out _))
  go_wp2
  go_ret
  exact ⟨rfl, _, by first | rfl | exact World.drewN_drewN _ _ _⟩

/-- Two blocks are as they were. -/
def SameTwo (b b' : Nat) (A C : World) : Prop := C.heap[b]? = A.heap[b]? ∧ C.heap[b']? = A.heap[b']?
theorem SameTwo.trans {b b' : Nat} {A C D : World} (h : SameTwo b b' A C) (k : SameTwo b b' C D) : SameTwo b b' A D := ⟨k.1.trans h.1, k.2.trans h.2⟩

set_option maxHeartbeats 1000000 in
/-- THE ITERATOR: it tells the leaps as far as they lie within the row, and stops where it is told to. -/
theorem leaps_stops (n : Nat) (hn : 1 ≤ n) (i e : Nat) (hie : i ≤ e) (he : e ≤ 1099511627776) (Bf Be : Nat) (w : World) (hf : w.cell? ⟨Bf, 0, none⟩ = some (.int .i64 i)) (hE : w.cell? ⟨Be, 0, none⟩ = some (.int .i64 e)) (hBf : Bf < w.heap.size) (hBe : Be < w.heap.size) :
    SeqStopsK Fence.wide n Try.prog 56 #[.pointer (some ⟨Bf, 0, none⟩), .pointer (some ⟨Be, 0, none⟩)] (fun x : Within e => #[Value.int .i64 x.1]) (SameTwo Bf Be)
      (fun ys => InOrder i e ys ∧ e ≤ i + 2 ^ ys.length - 1 ∧ ys.length ≤ 41) (fun pre => InOrder i e pre ∧ pre.length ≤ 41) 64 w := fun l J Jx W hW _ _ hY h0 => by
  have hf' := (hW.cell (p := ⟨Bf, 0, none⟩) hBf).trans hf
  have hE' := (hW.cell (p := ⟨Be, 0, none⟩) hBe).trans hE
  refine callsIn_of_wp Try.func56 rfl trivial ?_ rfl
  simp only [Try.ntmps56, List.size_toArray, List.length_cons, List.length_nil, Nat.reduceAdd, Nat.reduceSub, Array.replicate_succ, Array.replicate_zero, List.push_toArray, List.append_toArray, List.nil_append, List.cons_append]
  gi_wp2
  gi_loopw [4] (fun far wr => ∃ (pre : List (Within e)) (F : Nat), far = .int .i64 F ∧ F = 2 ^ pre.length ∧ InOrder i e pre ∧ F ≤ 2199023255552 ∧ pre.length ≤ 41 ∧ J pre wr ∧ SameTwo Bf Be W wr)
    (fun far _ => (e - i + 1 : Nat) - (intOf far).toNat)
  case atStart => exact ⟨[], 1, rfl, rfl, inOrder_nil _ _, by omega, by simp, h0, rfl, rfl⟩
  case round =>
    obtain ⟨pre, F, rfl, hF, ho, hF2, hpl0, hJ, hB⟩ := hrel
    have c1 := (World.cell?_of_block (a := ⟨Bf, 0, none⟩) hB.1).trans hf'
    have c2 := (World.cell?_of_block (a := ⟨Be, 0, none⟩) hB.2).trans hE'
    have hF1 : 1 ≤ F := hF ▸ pow_pos' _
    by_cases hlt : i + F - 1 < e
    · have hpl : pre.length < 41 := pow_lt (m := e) (by omega) he
      obtain ⟨fn, tmps, assign, body, hy, hR⟩ := hY pre ⟨i + F - 1, hlt⟩ wr hJ (by omega)
      dsimp only at hy
      have hcast : ((i + F - 1 : Nat) : Int) = (i : Int) + F - 1 := by omega
      rw [hcast] at hy
      have HF := Lib.hid hF
      clear hF
      have hlt' : (i : Int) + F - 1 < e := by omega
      gi_wp2
      refine hR.mono ?_
      rintro en W3 (⟨rfl, hJ3, hk3⟩ | ⟨rfl, hJx3⟩)
      · gi_wp2
        go_roundw
        case rel => exact ⟨pre ++ [⟨i + F - 1, hlt⟩], F * 2, by go_num, by rw [List.length_append, List.length_singleton, Nat.pow_succ, ← HF.out], inOrder_next ho _ (by rw [← HF.out]), by omega, by simp; omega, hJ3, hB.trans hk3⟩
        case measure => simp [intOf]; omega
      · gi_wp2
        refine bodyPost_ret (results_none rfl _ _ _) rfl ?_
        exact ⟨⟨_, rfl⟩, .inr ⟨_, ⟨inOrder_next ho _ (by rw [← HF.out]), by simp; omega⟩, hJx3⟩⟩
    · have HF := Lib.hid hF
      clear hF
      have hlt' : (e : Int) ≤ (i : Int) + F - 1 := by omega
      gi_wp2
      go_end0
      exact ⟨⟨_, rfl⟩, .inl ⟨_, ⟨ho, by rw [← HF.out]; omega, hpl0⟩, hJ⟩⟩

/-- What the range over the leaps keeps. -/
def SeekI (w : World) (a : Option Addr) (c g B Bl Bh n i : Nat) (q : Nat → Bool) (pre : List (Within n)) (W : World) : Prop :=
  ∃ looks low : Nat, SeekW w a n c g B Bl Bh looks low n W ∧ looks ≤ pre.length ∧
    (InOrder i n pre → looks = pre.length ∧ low = lowOf i pre.length ∧ ∀ j, j < pre.length → i + 2 ^ j - 1 < n ∧ q (i + 2 ^ j - 1) = false)
/-- .. and what holds where it has left. -/
def SeekX (w : World) (a : Option Addr) (c g B Bl Bh n i : Nat) (q : Nat → Bool) (pre : List (Within n)) (W : World) : Prop :=
  ∃ looks low high : Nat, SeekW w a n c g B Bl Bh looks low high W ∧ (InOrder i n pre → Halving n i q low high looks)

theorem SeekW.kept {w : World} {a : Option Addr} {len c g B Bl Bh : Nat} {looks low high : Int} {D : Nat} (hD : w.heap.size ≤ D) : OwnFrom D (fun (_ : Unit) W => SeekW w a len c g B Bl Bh looks low high W) :=
  OwnFrom.and (Own.from (fun s A B row hs hg hr => ⟨cell_kept hs.1 hg hr, cell_kept hs.2.1 hg hr, ⟨cell_kept hs.2.2.1.1 hg hr, (frozen_kept hs.2.2.1.1 hg hr).trans hs.2.2.1.2⟩, cell_kept hs.2.2.2.1 hg hr,
    ⟨cell_kept hs.2.2.2.2.1.1 hg hr, (frozen_kept hs.2.2.2.2.1.1 hg hr).trans hs.2.2.2.2.1.2⟩, ⟨cell_kept hs.2.2.2.2.2.1 hg hr, (frozen_kept hs.2.2.2.2.2.1 hg hr).trans hs.2.2.2.2.2.2⟩⟩) _) (ownFrom_below (Nat.le_refl _) hD)
theorem seekI_kept {w : World} {a : Option Addr} {c g B Bl Bh n i : Nat} {q : Nat → Bool} {D : Nat} (hD : w.heap.size ≤ D) : OwnFrom D (fun (pre : List (Within n)) W => SeekI w a c g B Bl Bh n i q pre W) := by
  rintro pre A B' row ⟨looks, low, hs, h⟩ hg hr
  exact ⟨looks, low, SeekW.kept hD () A B' row hs hg hr, h⟩
theorem seekX_kept {w : World} {a : Option Addr} {c g B Bl Bh n i : Nat} {q : Nat → Bool} {D : Nat} (hD : w.heap.size ≤ D) : OwnFrom D (fun (pre : List (Within n)) W => SeekX w a c g B Bl Bh n i q pre W) := by
  rintro pre A B' row ⟨looks, low, high, hs, h⟩ hg hr
  exact ⟨looks, low, high, SeekW.kept hD () A B' row hs hg hr, h⟩

theorem cell_set_other {W : World} {b b' : Nat} {u v : Value} (h : W.cell? ⟨b, 0, none⟩ = some v) (hne : b ≠ b') : (W.setCell ⟨b', 0, none⟩ u).cell? ⟨b, 0, none⟩ = some v := by
  rw [World.cell?_setCell_other _ _ _ _ (by intro e; injection e with e; exact hne e.symm)]; exact h
theorem cell_set_same {W : World} {b : Nat} {u v : Value} (h : W.cell? ⟨b, 0, none⟩ = some v) : (W.setCell ⟨b, 0, none⟩ u).cell? ⟨b, 0, none⟩ = some u :=
  World.cell?_setCell_same' _ _ _ (by rw [h]; rfl)
theorem SeekW.drewN {w : World} {a : Option Addr} {len c g B Bl Bh : Nat} {looks low high : Int} {W : World} (h : SeekW w a len c g B Bl Bh looks low high W) (n : Nat) : SeekW w a len c g B Bl Bh looks low high (W.drewN n) :=
  ⟨h.1, ⟨h.2.os, h.2.tape, h.2.output, h.2.size, h.2.block⟩⟩
theorem SeekW.setLooks {w : World} {a : Option Addr} {len c g B Bl Bh : Nat} {looks low high : Int} {W : World} (h : SeekW w a len c g B Bl Bh looks low high W) (hl : w.heap.size + 4 ≤ Bl) (hh : w.heap.size + 4 ≤ Bh) (k : Int) :
    SeekW w a len c g B Bl Bh k low high (W.setCell ⟨w.heap.size + 2, 0, none⟩ (.int .i64 k)) := by
  obtain ⟨⟨c0, c1, ⟨c2, f2⟩, c3, ⟨c4, f4⟩, c5, f5⟩, hb⟩ := h
  exact ⟨⟨cell_set_other c0 (by omega), cell_set_other c1 (by omega), ⟨cell_set_same c2, by rw [World.frozen?_setCell]; exact f2⟩, cell_set_other c3 (by omega),
    ⟨cell_set_other c4 (by omega), by rw [World.frozen?_setCell]; exact f4⟩, ⟨cell_set_other c5 (by omega), by rw [World.frozen?_setCell]; exact f5⟩⟩, hb.setCell (p := ⟨w.heap.size + 2, 0, none⟩) (by simp) _⟩
theorem SeekW.setLow {w : World} {a : Option Addr} {len c g B Bl Bh : Nat} {looks low high : Int} {W : World} (h : SeekW w a len c g B Bl Bh looks low high W) (hl : w.heap.size + 4 ≤ Bl) (hne : Bl ≠ Bh) (k : Int) :
    SeekW w a len c g B Bl Bh looks k high (W.setCell ⟨Bl, 0, none⟩ (.int .i64 k)) := by
  obtain ⟨⟨c0, c1, ⟨c2, f2⟩, c3, ⟨c4, f4⟩, c5, f5⟩, hb⟩ := h
  exact ⟨⟨cell_set_other c0 (by omega), cell_set_other c1 (by omega), ⟨cell_set_other c2 (by omega), by rw [World.frozen?_setCell]; exact f2⟩, cell_set_other c3 (by omega),
    ⟨cell_set_same c4, by rw [World.frozen?_setCell]; exact f4⟩, ⟨cell_set_other c5 (by omega), by rw [World.frozen?_setCell]; exact f5⟩⟩, hb.setCell (p := ⟨Bl, 0, none⟩) (by show _ ≤ Bl; omega) _⟩
theorem SeekW.setHigh {w : World} {a : Option Addr} {len c g B Bl Bh : Nat} {looks low high : Int} {W : World} (h : SeekW w a len c g B Bl Bh looks low high W) (hl : w.heap.size + 4 ≤ Bh) (hne : Bl ≠ Bh) (k : Int) :
    SeekW w a len c g B Bl Bh looks low k (W.setCell ⟨Bh, 0, none⟩ (.int .i64 k)) := by
  obtain ⟨⟨c0, c1, ⟨c2, f2⟩, c3, ⟨c4, f4⟩, c5, f5⟩, hb⟩ := h
  exact ⟨⟨cell_set_other c0 (by omega), cell_set_other c1 (by omega), ⟨cell_set_other c2 (by omega), by rw [World.frozen?_setCell]; exact f2⟩, cell_set_other c3 (by omega),
    ⟨cell_set_other c4 (by omega), by rw [World.frozen?_setCell]; exact f4⟩, ⟨cell_set_same c5, by rw [World.frozen?_setCell]; exact f5⟩⟩, hb.setCell (p := ⟨Bh, 0, none⟩) (by show _ ≤ Bh; omega) _⟩

theorem keeps_drewN (W : World) (m : Nat) : KeepsOthers W (W.drewN m) := ⟨Nat.le_refl _, fun _ _ h _ => h⟩
/-- Six new variables: what they hold. -/
theorem laid_six (w : World) (v0 v1 v2 v3 v4 v5 : Value) (t0 t1 t2 t3 t4 t5 : TypeId) (W : World)
    (hW : W = ((((((w.alloc (.cells #[v0] t0)).alloc (.cells #[v1] t1)).alloc (.cells #[v2] t2)).alloc (.cells #[v3] t3)).alloc (.cells #[v4] t4)).alloc (.cells #[v5] t5)).drew) :
    W.cell? ⟨w.heap.size, 0, none⟩ = some v0 ∧ W.cell? ⟨w.heap.size + 1, 0, none⟩ = some v1 ∧ W.cell? ⟨w.heap.size + 2, 0, none⟩ = some v2 ∧ W.cell? ⟨w.heap.size + 3, 0, none⟩ = some v3 ∧ W.cell? ⟨w.heap.size + 4, 0, none⟩ = some v4 ∧ W.cell? ⟨w.heap.size + 5, 0, none⟩ = some v5 ∧
    W.frozen? ⟨w.heap.size + 2, 0, none⟩ = false ∧ W.frozen? ⟨w.heap.size + 4, 0, none⟩ = false ∧ W.frozen? ⟨w.heap.size + 5, 0, none⟩ = false ∧ Below w.heap.size w W := by
  have hs : W.heap = (((((w.heap.push (.cells #[v0] t0)).push (.cells #[v1] t1)).push (.cells #[v2] t2)).push (.cells #[v3] t3)).push (.cells #[v4] t4)).push (.cells #[v5] t5) := by rw [hW]; rfl
  have key : ∀ k, W.heap[w.heap.size + k]? = if k = 0 then some (.cells #[v0] t0) else if k = 1 then some (.cells #[v1] t1) else if k = 2 then some (.cells #[v2] t2) else if k = 3 then some (.cells #[v3] t3) else if k = 4 then some (.cells #[v4] t4) else if k = 5 then some (.cells #[v5] t5) else none := by
    intro k
    rw [hs]
    simp only [Array.getElem?_push, Array.size_push]
    repeat' split
    all_goals first | omega | rfl | skip
    all_goals (apply Array.getElem?_eq_none; omega)
  have h0 := key 0; have h1 := key 1; have h2 := key 2; have h3 := key 3; have h4 := key 4; have h5 := key 5
  simp [hs] at h0 h1 h2 h3 h4 h5
  refine ⟨by simp [World.cell?, hs, h0], by simp [World.cell?, hs, h1], by simp [World.cell?, hs, h2], by simp [World.cell?, hs, h3], by simp [World.cell?, hs, h4], by simp [World.cell?, hs, h5], by simp [World.frozen?, hs, h2], by simp [World.frozen?, hs, h4], by simp [World.frozen?, hs, h5], ?_⟩
  · rw [hW]
    repeat (first | exact Below.refl _ _ | refine Below.drew ?_ | refine Below.alloc ?_ (by simp <;> omega) _)

/-- What seek hands back: a place, the halving done. -/
def SeekEnd (w : World) (n i : Nat) (q : Nat → Bool) (en : Ending) (w' : World) : Prop :=
  ∃ at_ looks : Nat, en = .returned (.tuple #[.int .i64 at_, .int .i64 looks]) ∧ (i ≤ at_ ∧ at_ ≤ n ∧ (∀ j, i ≤ j → j < at_ → q j = false) ∧ (at_ < n → q at_ = true) ∧ FewLooks n i at_ looks) ∧ Below w.heap.size w w'

set_option maxHeartbeats 2000000 in
/-- gallop.seek. -/
theorem seek_any (v : Value) (xs : List Int) (i : Nat) (g : Nat) (B : Nat) (p : Int → Bool) (w : World) (h : SlI .u64 w v xs) (hi : i ≤ xs.length) (hl : xs.length ≤ 1099511627776) (he : Enough g B p w)
    (hcl : Climbs xs.length i (fun j => p (xs.getD j 0))) :
    Calls Try.prog 33 #[v, .int .i64 i, .func (.func g) #[] #[.pointer (some ⟨B, 0, none⟩)]] w (SeekEnd w xs.length i (fun j => p (xs.getD j 0))) := by
  obtain ⟨a, c, rfl, h1, h2, h3, h4⟩ := h.open
  clear h3 h4 h1 h2
  refine (callsIn_wide (n := 6)).1 ?_
  refine callsIn_of_wp_marks Try.func33 rfl trivial ?_ rfl
  simp only [Try.ntmps33, List.size_toArray, List.length_cons, List.length_nil, Nat.reduceAdd, Nat.reduceSub, Array.replicate_succ, Array.replicate_zero, List.push_toArray, List.append_toArray, List.nil_append, List.cons_append]
  gi_wp2
  rename_i Q1 K1 hK1
  have H : ∀ (Bl Bh : Nat) (W : World), w.heap.size + 4 ≤ Bl → w.heap.size + 4 ≤ Bh → Bl ≠ Bh → Bl < W.heap.size → Bh < W.heap.size → SeekW w a xs.length c g B Bl Bh 0 i xs.length W →
      K1 { tmps := #[.slice a xs.length c, .int .i64 i, .func (.func g) #[] #[.pointer (some ⟨B, 0, none⟩)], .pointer (some ⟨w.heap.size, 0, none⟩), undef, .pointer (some ⟨w.heap.size + 1, 0, none⟩), .int .i64 0, .int .i64 0,
        .pointer (some ⟨w.heap.size + 2, 0, none⟩), .pointer (some ⟨w.heap.size + 3, 0, none⟩), .pointer (some ⟨Bl, 0, none⟩), .pointer (some ⟨Bh, 0, none⟩), undef, undef,
        .func (.func 43) #[] #[.pointer (some ⟨w.heap.size + 2, 0, none⟩), .pointer (some ⟨w.heap.size + 1, 0, none⟩), .pointer (some ⟨w.heap.size, 0, none⟩)],
        .int .i64 i, .slice a xs.length c, .int .i64 xs.length, undef, undef, undef, undef, undef, undef, undef, undef, undef, undef, undef, undef, undef, undef, undef, undef, undef, undef, undef, undef, undef, undef, undef, undef, undef, undef, undef, undef], defers := [] } W := by
    intro Bl Bh W hBl hBh hne hlW hhW hS
    refine hK1 _ _ ?_
    have c0 := hS.1.1
    gi_wp2_with (refine ⟨trivial, ?_⟩; gi_at_call 44; refine (callsIn_wide.2 (leaps_any _ _ _)).mono ?_; rintro e w' ⟨rfl, rfl⟩)
    obtain ⟨Wr, hWr⟩ : ∃ Wr, (W.alloc (.cells #[.int .i64 i] 3)).alloc (.cells #[.int .i64 xs.length] 3) = Wr := ⟨_, rfl⟩
    have hbr : Below W.heap.size W Wr := by rw [← hWr]; exact ((Below.refl _ W).alloc (Nat.le_refl _) _).alloc (by simp) _
    have hsz : Wr.heap.size = W.heap.size + 2 := by rw [← hWr]; simp
    have hSr : SeekW w a xs.length c g B Bl Bh 0 i xs.length Wr := by
      rw [← hWr]
      have k := SeekW.kept (w := w) (a := a) (len := xs.length) (c := c) (g := g) (B := B) (Bl := Bl) (Bh := Bh) (looks := 0) (low := i) (high := xs.length) (Nat.le_refl w.heap.size)
      exact OwnFrom.alloc k _ (s := ()) (OwnFrom.alloc k _ (s := ()) hS)
    have hfr : Wr.cell? ⟨W.heap.size, 0, none⟩ = some (.int .i64 i) := by rw [← hWr]; simp
    have hEr : Wr.cell? ⟨W.heap.size + 1, 0, none⟩ = some (.int .i64 xs.length) := by rw [← hWr]; simp
    rw [hWr]
    have hwW : w.heap.size ≤ W.heap.size := hS.2.size
    clear hWr c0 hS
    refine wpIn_rangeFunc_ownF rfl (by omega) (gf := 56) (lb := #[.pointer (some ⟨W.heap.size, 0, none⟩), .pointer (some ⟨W.heap.size + 1, 0, none⟩)]) rfl trivial (enters_of Try.func56 (by kernel_rfl) rfl)
      (leaps_stops 5 (by omega) i xs.length hi hl W.heap.size (W.heap.size + 1) Wr hfr hEr (by omega) (by omega)) SameTwo.trans
      (fun V l o o' hl _ _ _ => ⟨World.putObj_heap_other (by omega), World.putObj_heap_other (by omega)⟩) (Below.refl _ _) (fun _ => rfl)
      (SeekI w a c g B Bl Bh xs.length i (fun j => p (xs.getD j 0)))
      (fun c' pre V => c' = .exit 0 ∧ SeekX w a c g B Bl Bh xs.length i (fun j => p (xs.getD j 0)) pre V)
      (seekI_kept (by omega)) (fun c' => by rintro pre A B' row ⟨h, hs⟩ hg hr; exact ⟨h, seekX_kept (by omega) pre A B' row hs hg hr⟩)
      ⟨0, i, hSr, Nat.le_refl _, fun _ => ⟨rfl, rfl, fun j hj => by simp at hj⟩⟩
      (fun x => { tmps := #[.slice a xs.length c, .int .i64 i, .func (.func g) #[] #[.pointer (some ⟨B, 0, none⟩)], .pointer (some ⟨w.heap.size, 0, none⟩), undef, .pointer (some ⟨w.heap.size + 1, 0, none⟩), .int .i64 0, .int .i64 0,
        .pointer (some ⟨w.heap.size + 2, 0, none⟩), .pointer (some ⟨w.heap.size + 3, 0, none⟩), .pointer (some ⟨Bl, 0, none⟩), .pointer (some ⟨Bh, 0, none⟩), .int .i64 x.1, undef,
        .func (.func 43) #[] #[.pointer (some ⟨w.heap.size + 2, 0, none⟩), .pointer (some ⟨w.heap.size + 1, 0, none⟩), .pointer (some ⟨w.heap.size, 0, none⟩)],
        .int .i64 i, .slice a xs.length c, .int .i64 xs.length, .int .i64 i, .slice a xs.length c, .int .i64 xs.length,
        .func (.func 56) #[] #[.pointer (some ⟨W.heap.size, 0, none⟩), .pointer (some ⟨W.heap.size + 1, 0, none⟩)], .int .i64 x.1, undef, undef, undef, undef, undef, undef, undef, undef, undef, undef, undef, undef, undef, undef, undef, undef, undef, undef, undef, undef, undef, undef, undef], defers := [] }) ?assign ?body ?done ?stop
    case assign =>
      intro l x V K hK
      gi_wp2
      exact hK
    case body =>
      rintro l pre x V ⟨looks, low, hS, hlk, hord⟩ hpl
      have hL := look_any w a c g B Bl Bh looks low xs.length xs p x.1 V h he hS x.2 (by omega) (by omega)
      have hlook := hS.1.2.2.2.1
      have ho := fun hin : InOrder i xs.length (pre ++ [x]) => hord (inOrder_snoc hin).1
      have hx := x.2
      generalize hb : p (xs.getD x.1 0) = ans at hL
      have HB := Lib.hid hb
      have HL := Lib.hid hL
      have HO := Lib.hid ho
      clear hb hL hord ho
      have hd : 1 ≤ 6 - 1 - 1 := by omega
      gi_wp2_with (refine ⟨trivial, ?_⟩; gi_at_call 43; refine (CallsIn.inRound l (callsIn_wide.2 HL.out)).mono ?_; rintro e w' ⟨rfl, m, rfl⟩; have hS2 := (hS.setLooks hBl hBh (looks + 1)).drewN m; obtain ⟨⟨d0, d1, ⟨d2, g2⟩, d3, ⟨d4, g4⟩, d5, g5⟩, db⟩ := hS2)
      · have ht : ans = true := by assumption
        have hS3 := ((hS.setLooks hBl hBh (looks + 1)).drewN m).setHigh hBh hne x.1
        refine ⟨((KeepsOthers.setCell V _ _).trans (keeps_drewN _ m)).trans (KeepsOthers.setCell _ _ _), rfl, looks + 1, low, x.1, hS3, fun hin => ?_⟩
        obtain ⟨rfl, rfl, hnot⟩ := HO.out hin
        have hxe := (inOrder_snoc hin).2
        have hb := HB.out
        rw [ht, hxe] at hb
        have := halving_break (n := xs.length) (i := i) (k := pre.length) hcl (by omega) (fun j hj => (hnot j hj).2) hb
        rw [hxe]
        exact this
      · have ht : ans = false := by assumption
        have hS3 := ((hS.setLooks hBl hBh (looks + 1)).drewN m).setLow hBl hne (x.1 + 1)
        refine ⟨((KeepsOthers.setCell V _ _).trans (keeps_drewN _ m)).trans (KeepsOthers.setCell _ _ _), ?_, looks + 1, x.1 + 1, hS3, by simp; omega, fun hin => ?_⟩
        · exact ⟨(Below.heap_setCell _ _ _ _ (by show _ ≠ Bl; omega)).trans (Below.heap_setCell V _ _ _ (by show _ ≠ w.heap.size + 2; omega)), (Below.heap_setCell _ _ _ _ (by show _ ≠ Bl; omega)).trans (Below.heap_setCell V _ _ _ (by show _ ≠ w.heap.size + 2; omega))⟩
        · obtain ⟨rfl, rfl, hnot⟩ := HO.out hin
          have hxe := (inOrder_snoc hin).2
          have hb := HB.out
          rw [ht, hxe] at hb
          refine ⟨by simp, by rw [List.length_append, List.length_singleton, lowOf_succ, hxe], fun j hj => ?_⟩
          by_cases hj' : j < pre.length
          · exact hnot j hj'
          · obtain rfl : j = pre.length := by simp at hj; omega
            exact ⟨by omega, hb⟩
    case' done =>
      rintro D ys V hD ⟨hin, hle, h41⟩ ⟨looks, low, hS, hlk, hord⟩ hdef
      obtain ⟨rfl, rfl, hnot⟩ := hord hin
      have hH := halving_done (q := fun j => p (xs.getD j 0)) hcl hi hle hnot
      have hlk' : ys.length ≤ 41 := h41
      obtain ⟨looks, low, high, hS, hH, hlk⟩ : ∃ looks low high : Nat, SeekW w a xs.length c g B Bl Bh looks low high V ∧ Halving xs.length i (fun j => p (xs.getD j 0)) low high looks ∧ looks ≤ 41 := ⟨_, _, _, hS, hH, hlk'⟩
      clear hin hle h41 hlk' hord hnot
    case' stop =>
      rintro D c' pre V hD ⟨hin, h41⟩ ⟨rfl, looks, low, high, hS, hH0⟩ hdef
      have hH := hH0 hin
      clear hin h41 hH0
    all_goals
      gi_wp2
      gi_loopw [13] (fun _ wr => ∃ looks low high : Nat, SeekW w a xs.length c g B Bl Bh looks low high wr ∧ Halving xs.length i (fun j => p (xs.getD j 0)) low high looks ∧ wr.heap[D]? = some (.deferred (some [])))
        (fun _ wr => (intOf ((wr.cell? ⟨Bh, 0, none⟩).getD undef) - intOf ((wr.cell? ⟨Bl, 0, none⟩).getD undef)).toNat)
      case atStart => exact ⟨looks, low, high, hS, hH, hdef⟩
      case round =>
        obtain ⟨looks, low, high, hS, hH, hdef⟩ := hrel
        have hS' := hS
        obtain ⟨⟨d0, d1, ⟨d2, g2⟩, d3, ⟨d4, g4⟩, d5, g5⟩, db⟩ := hS'
        have hle := hH.2.1
        have hlen := hH.2.2.1
        by_cases hlt : low < high
        · have hlk2 := halving_looks hH hl
          obtain ⟨mid, hmid⟩ : ∃ mid, low + (high - low) / 2 = mid := ⟨_, rfl⟩
          have hcast : (low : Int) + ((high : Int) - low) / 2 = (mid : Int) := by omega
          have hml : mid < xs.length := by omega
          have hL := look_any w a c g B Bl Bh looks low high xs p mid wr h he hS hml (by omega) (by omega)
          generalize hb : p (xs.getD mid 0) = ans at hL
          have HB := Lib.hid hb
          have HL := Lib.hid hL
          have HM := Lib.hid hmid
          clear hb hL hmid
          gi_wp2_with (refine ⟨trivial, ?_⟩; gi_at_call 43; refine (callsIn_wide.2 HL.out).mono ?_; rintro e w' ⟨rfl, m, rfl⟩; have hS2 := (hS.setLooks hBl hBh (looks + 1)).drewN m; obtain ⟨⟨e0, e1, ⟨e2, k2⟩, e3, ⟨e4, k4⟩, e5, k5⟩, eb⟩ := hS2)
          · have ht : ans = true := by assumption
            have hb := HB.out
            rw [ht] at hb
            have hS3 := ((hS.setLooks hBl hBh (looks + 1)).drewN m).setHigh hBh hne mid
            have hmid := HM.out
            go_roundw
            case rel => exact ⟨looks + 1, low, mid, hS3, by rw [← hmid]; exact halving_yes hH hlt (by rw [hmid]; exact hb), by rw [Below.heap_setCell _ _ _ _ (by show _ ≠ Bh; omega)]; exact (Below.heap_setCell wr _ _ _ (by show _ ≠ w.heap.size + 2; omega)).trans hdef⟩
            case measure => rw [hS3.1.2.2.2.2.2.1, hS3.1.2.2.2.2.1.1, hS.1.2.2.2.2.2.1, hS.1.2.2.2.2.1.1]; simp [intOf]; omega
          · have ht : ans = false := by assumption
            have hb := HB.out
            rw [ht] at hb
            have hS3 := ((hS.setLooks hBl hBh (looks + 1)).drewN m).setLow hBl hne (mid + 1)
            have hmid := HM.out
            go_roundw
            case rel => exact ⟨looks + 1, mid + 1, high, hS3, by rw [← hmid]; exact halving_no hcl hH hlt (by rw [hmid]; exact hb), by rw [Below.heap_setCell _ _ _ _ (by show _ ≠ Bl; omega)]; exact (Below.heap_setCell wr _ _ _ (by show _ ≠ w.heap.size + 2; omega)).trans hdef⟩
            case measure => rw [hS3.1.2.2.2.2.2.1, hS3.1.2.2.2.2.1.1, hS.1.2.2.2.2.2.1, hS.1.2.2.2.2.1.1]; simp [intOf]; omega
        · obtain rfl : low = high := by omega
          have hE := halving_end hH
          gi_wp2
          gi_region
          all_goals gi_wp2
          all_goals
            refine ⟨by simp, .inl ⟨_, _, rfl, run_takeDeferred hdef, ?_⟩⟩
            refine ⟨_, results_tmp2 rfl _ _ _, low, looks, rfl, hE, ?_⟩
            have hwr := (hS.drewN 1).2
            exact hwr.trans (belowK_b (w := w) (Nat.le_refl _) _ D _ _ (by omega) hdef rfl rfl)
  gi_region
  · obtain ⟨e0, e1, e2, e3, e4, e5, f2, f4, f5, hb⟩ := laid_six w _ _ _ _ _ _ _ _ _ _ _ _ _ rfl
    refine H _ _ _ ?_ ?_ ?_ ?_ ?_ ⟨⟨e0, e1, ⟨e2, f2⟩, e3, ⟨e4, f4⟩, e5, f5⟩, hb⟩
    all_goals (simp <;> omega)
  · obtain ⟨e0, e1, e2, e3, e4, e5, f2, f4, f5, hb⟩ := laid_six w _ _ _ _ _ _ _ _ _ _ _ _ _ rfl
    refine H _ _ _ ?_ ?_ ?_ ?_ ?_ ⟨⟨e0, e1, ⟨e2, f2⟩, e3, ⟨e5, f5⟩, e4, f4⟩, hb⟩
    all_goals (simp <;> omega)
end Go.Proofs.Ytlndgjibefbddaa
