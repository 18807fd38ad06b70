/-
  The iterator over a set's elements; slices.Collect of one.
-/
import Derived.Test.YtplidcbfbonjlaaDoorRange
import Derived.Test.YtplidcbfbonjlaaDoorHzW
namespace Go.Proofs.YtplidcbfbonjlaaDoor
open Go.RowKit Go.Shelf Go.BigFrame Go.Maps Go.Lib
set_option linter.unusedVariables false
set_option linter.unusedSimpArgs false
attribute [local go_sem] Oper.semAt_some

def encI (x : Int) : Array Value := #[.int .i64 x]
/-- What the body keeps: the iterator's box and the table. -/
def KpX (X : Nat) (A C : World) : Prop := A.heap.size ≤ C.heap.size ∧ ∀ b, (b = X ∨ b = 0) → b < A.heap.size → C.heap[b]? = A.heap[b]?
theorem KpX.trans {X : Nat} {A B C : World} (h : KpX X A B) (k : KpX X B C) : KpX X A C := ⟨Nat.le_trans h.1 k.1, fun b hb hl => (k.2 b hb (Nat.lt_of_lt_of_le hl h.1)).trans (h.2 b hb hl)⟩
theorem KpX.tab {X : Nat} {A C : World} (h : KpX X A C) (hT : TabW A) : TabW C := fun j hj => by
  have h1 := hT j hj
  have hl : 0 < A.heap.size := World.block_lt_of_cell? _ _ h1
  have h2 := h.2 _ (.inr rfl) hl
  unfold World.cell? at h1 ⊢
  simp only [h2]
  exact h1
theorem KpX.box {X : Nat} {A C : World} {o : Obj} (h : KpX X A C) (hX : A.heap[X]? = some o) : C.heap[X]? = some o := (h.2 X (.inl rfl) (lt_of_block hX)).trans hX
/-- What the iterator writes: its box. -/
def ChX (X : Nat) (A B : World) : Prop := Wrote (fun b => b = X) A B ∧ ∀ (b : Nat) (o : Obj), A.heap[b]? = some o → o.isCells = false → B.heap[b]? = some o
/-- What the iterator's box holds. -/
def setAt (X : Nat) (w : World) : Nat := match w.cell? ⟨X, 0, none⟩ with | some (.int _ n) => n.toNat | _ => 0

set_option maxRecDepth 100000 in
set_option maxHeartbeats 4000000 in
theorem each_seq (n : Nat) (hn : 1 ≤ n) (s X : Nat) (hs : s < 2 ^ 64) (w : World) (hX : w.heap[X]? = some (.cells #[.int .u64 (s : Int)] 58 (0, 0))) (hT : TabW w) :
    SeqX n Tryd.prog 59 #[.pointer (some ⟨X, 0, none⟩)] encI (KpX X) (ChX X) (fun xs => xs = eachL s) (fun _ => True) 65 (fun _ => True) w := fun l J XX W hW hJa hXa hY h0 => by
  have HJA := Lib.hid hJa
  have HXA := Lib.hid hXa
  have HY := Lib.hid hY
  have HX0 := Lib.hid (kept hW hX)
  have HT0 := Lib.hid (hT.later hW)
  have HS := Lib.hid hs
  clear hJa hXa hY hW hX hT hs
  refine callsIn_of_wp Tryd.func59 rfl trivial ?_ rfl
  simp only [Tryd.ntmps59, List.size_toArray, List.length_cons, List.length_nil, Nat.reduceAdd, Nat.reduceSub, Array.replicate_succ, Array.replicate_zero, List.push_toArray, List.append_toArray, List.nil_append, List.cons_append]
  gi_wp2
  gi_loopw [3] (fun d wr => ∃ (pre : List Int) (t : Nat), pre ++ eachL t = eachL s ∧ t < 2 ^ 64 ∧ wr.heap[X]? = some (.cells #[.int .u64 (t : Int)] 58 (0, 0)) ∧ TabW wr ∧ J pre wr) (fun _ wr => (eachL (setAt X wr)).length)
  case atStart => exact ⟨[], s, rfl, HS.out, HX0.out, HT0.out, h0⟩
  case round =>
    obtain ⟨pre, t, hpre, ht, hX, hT, hJ⟩ := hrel
    have c0 : wr.cell? ⟨X, 0, none⟩ = some (.int .u64 (t : Int)) := by simpa using box_cell (i := 0) hX
    have hm : setAt X wr = t := by unfold setAt; rw [c0]; rfl
    by_cases h0 : t = 0
    · subst h0
      rw [eachL_zero, List.append_nil] at hpre
      have HH := Lib.hid (And.intro hpre hJ)
      clear hpre hX hT hJ hm ht
      gi_wp2
      go_end0
      exact ⟨⟨_, rfl⟩, .inl ⟨_, HH.out.1, HH.out.2, trivial⟩⟩
    · have hc := eachL_cons h0 ht
      obtain ⟨-, -, hk64⟩ := ctz_low h0 ht
      have hTz := tz_any t ht h0 wr hT
      obtain ⟨k, hk⟩ : ∃ k, ctz 64 t = k := ⟨_, rfl⟩
      rw [hk] at hc hk64 hTz
      have hand := andNot_bit ht hk64
      have hne : ((t : Int) == 0) = false := by rw [beq_eq_false_iff_ne]; omega
      have hne2 : ((t : Int) != 0) = true := by rw [bne_iff_ne]; omega
      rw [hc] at hpre
      have hpl : pre.length < 65 := by have h1 := eachL_len s; rw [← hpre, List.length_append] at h1; simp at h1; omega
      obtain ⟨fn, tmps, assign, body, hy, hR⟩ := HY.out pre k wr hJ hpl
      dsimp only [encI] at hy
      have htl : minus t (2 ^ k) < 2 ^ 64 := minus_lt (n := 64) _ ht
      have HH := Lib.hid (And.intro hpre (And.intro hX (And.intro hT (And.intro hm (And.intro hc (And.intro htl hTz))))))
      have HR := Lib.hid hR
      clear hpre hX hT hJ hm hc htl hTz hk hpl hR ht
      gi_wp2_with (refine ⟨trivial, ?_⟩; gi_at_call 60; refine (callsIn_wide.2 HH.out.2.2.2.2.2.2).mono ?_; rintro e w1 ⟨rfl, rfl⟩)
      refine HR.out.mono ?_
      rintro en W3 (⟨rfl, hJ3, hk3⟩ | ⟨rfl, hX3⟩)
      · have hX3 := hk3.box HH.out.2.1
        have c3 : W3.cell? ⟨X, 0, none⟩ = some (.int .u64 (t : Int)) := by simpa using box_cell (i := 0) hX3
        have f3 : W3.frozen? ⟨X, 0, none⟩ = false := box_frozen (i := 0) hX3
        have HZ := Lib.hid (And.intro hX3 (And.intro (hk3.tab HH.out.2.2.1) hJ3))
        have hk0 : ¬ (k : Int) < 0 := by omega
        clear hX3 hk3 hJ3
        gi_wp2
        refine wpIn_wide.2 ?_
        go_region
        gi_wp2
        have hXs : (W3.setCell ⟨X, 0, none⟩ (.int .u64 ((minus t (2 ^ k) : Nat) : Int))).heap[X]? = some (.cells #[.int .u64 ((minus t (2 ^ k) : Nat) : Int)] 58 (0, 0)) := by simpa using box_set (i := 0) HZ.out.1 (.int .u64 ((minus t (2 ^ k) : Nat) : Int))
        have hGX : 0 ≠ X := fun e => by
          subst e
          have h1 := HZ.out.2.1 0 (by decide)
          rw [c3] at h1
          cases h1
        refine ⟨⟨pre ++ [(k : Int)], minus t (2 ^ k), by rw [List.append_assoc]; exact HH.out.1, HH.out.2.2.2.2.2.1, hXs, fun j hj => ?_, HJA.out _ _ _ HZ.out.2.2 ⟨(Wrote.set (S := fun b => b = X) (b := X) (Wrote.of_below (later_refl _)) rfl _).trans (Wrote.of_below (later_drew _)), fun b o hb ho => (heap_setCell_other W3 ⟨X, 0, none⟩ b _ (fun e => by have e1 : b = X := e; subst e1; rw [HZ.out.1] at hb; cases hb; cases ho)).trans hb⟩⟩, ?_⟩
        · have h1 := HZ.out.2.1 j hj
          have h2 := heap_setCell_other W3 ⟨X, 0, none⟩ 0 (.int .u64 ((minus t (2 ^ k) : Nat) : Int)) hGX
          unfold World.cell? at h1 ⊢
          rw [show ((W3.setCell ⟨X, 0, none⟩ (.int .u64 ((minus t (2 ^ k) : Nat) : Int))).drew).heap = (W3.setCell ⟨X, 0, none⟩ (.int .u64 ((minus t (2 ^ k) : Nat) : Int))).heap from rfl]
          simp only [h2]
          exact h1
        · have hsv : setAt X (W3.setCell ⟨X, 0, none⟩ (.int .u64 ((minus t (2 ^ k) : Nat) : Int))).drew = minus t (2 ^ k) := by
            have h1 := box_cell (i := 0) hXs
            unfold setAt
            rw [show ((W3.setCell ⟨X, 0, none⟩ (.int .u64 ((minus t (2 ^ k) : Nat) : Int))).drew).cell? ⟨X, 0, none⟩ = (W3.setCell ⟨X, 0, none⟩ (.int .u64 ((minus t (2 ^ k) : Nat) : Int))).cell? ⟨X, 0, none⟩ from rfl, h1]
            rfl
          rw [hsv, HH.out.2.2.2.1, HH.out.2.2.2.2.1]
          simp
      · gi_wp2
        refine bodyPost_ret (results_none rfl _ _ _) rfl ?_
        exact ⟨⟨_, rfl⟩, .inr ⟨_, trivial, hX3⟩⟩

/-- What Collect's range keeps. -/
def EaI (w : World) (X T base : Nat) (pre : List Int) (V : World) : Prop :=
  ∃ v, V.heap[T]? = some (.cells #[v] 27 (0, 0)) ∧ V.ownsRow base 3 1 v pre.length (pre.map (.int .i64)) ∧ base ≤ V.heap.size ∧ Wrote (fun b => b = X) w V
theorem wrote_grown {S : Nat → Prop} {w A B : World} {row : Option Nat} (h : Wrote S w A) (hg : A.grownBy B row) (hr : ∀ r, row = some r → w.heap.size ≤ r) : Wrote S w B :=
  ⟨hg.os.trans h.os, hg.tape.trans h.tape, hg.output.trans h.output, Nat.le_trans h.size hg.size, fun b hb hS => (hg.block b (Nat.lt_of_lt_of_le hb h.size) (fun e => by have := hr b e.symm; omega)).trans (h.block b hb hS)⟩
theorem eaI_kept {w : World} {X T base D : Nat} (hD : w.heap.size ≤ D) : OwnFrom D (EaI w X T base) := by
  rintro pre A B' row ⟨v, h1, h2, h3, h4⟩ hg hr
  exact ⟨v, box_kept h1 hg hr, ownsRow_kept h2 hg hr, Nat.le_trans h3 hg.size, wrote_grown h4 hg (fun r e => Nat.le_trans hD (hr r e).1)⟩
theorem eaI_wrote {w : World} {X T base : Nat} {pre : List Int} {A B : World} (hX : X < w.heap.size) (hT : w.heap.size ≤ T) (hb : w.heap.size ≤ base) (h : EaI w X T base pre A) (hC : ChX X A B) : EaI w X T base pre B := by
  obtain ⟨hC, -⟩ := hC
  obtain ⟨v, g1, g2, g3, g4⟩ := h
  refine ⟨v, (hC.block _ (lt_of_block g1) (by omega)).trans g1, ?_, Nat.le_trans g3 hC.size, g4.trans hC⟩
  obtain ⟨k1, k2⟩ := g2
  refine ⟨k1, ?_⟩
  rcases k2 with k2 | ⟨g', cap, cur, hv, hgb, hh, rest⟩
  · exact .inl k2
  · exact .inr ⟨g', cap, cur, hv, hgb, (hC.block _ (lt_of_block hh) (by omega)).trans hh, rest⟩

set_option maxRecDepth 100000 in
set_option maxHeartbeats 4000000 in
theorem appendSeq_each (s X : Nat) (hs : s < 2 ^ 64) (w : World) (hX : w.heap[X]? = some (.cells #[.int .u64 (s : Int)] 58 (0, 0))) (hT : TabW w) :
    Calls Tryd.prog 58 #[.slice none 0 0, .func (.func 59) #[] #[.pointer (some ⟨X, 0, none⟩)]] w fun e w' => ∃ v', e = .returned v' ∧ w'.ownsRow w.heap.size 3 1 v' (eachL s).length ((eachL s).map (.int .i64)) ∧ Wrote (fun b => b = X) w w' := by
  obtain ⟨j0, hj, jz0, jz1, jz2⟩ := info_parts info_int
  have hb0 := later_alloc w (.cells #[.slice none 0 0] 27)
  have hXw := lt_of_block hX
  have hGw : 0 < w.heap.size := World.block_lt_of_cell? _ _ (hT 0 (by decide))
  have hseq := each_seq 5 (by omega) s X hs (w.alloc (.cells #[.slice none 0 0] 27)) (kept hb0 hX) (hT.later hb0)
  have hT0 := box_new w #[.slice none 0 0] 27
  refine (callsIn_wide (n := 6)).1 ?_
  refine callsIn_of_wp_marks Tryd.func58 rfl trivial ?_ rfl
  simp only [Tryd.ntmps58, List.size_toArray, List.length_cons, List.length_nil, Nat.reduceAdd, Nat.reduceSub, Array.replicate_succ, Array.replicate_zero, List.push_toArray, List.append_toArray, List.nil_append, List.cons_append]
  refine wpIn_wide.2 ?_
  go_wp2_with fail
  refine (wpIn_wide (n := 6)).1 ?_
  refine wpIn_range_stops (by omega) (gf := 59) (lb := #[.pointer (some ⟨X, 0, none⟩)]) rfl (enters_of Tryd.func59 (by kernel_rfl) rfl)
    hseq (fun A B h b => ⟨fun st e => h.2 b _ e rfl, fun d e => h.2 b _ e rfl⟩) (fun h k => KpX.trans h k) (fun V l o o' hl ho hc hw' => ⟨by simp, fun b hb _ => World.putObj_heap_other (by simp at hl; rcases hb with hb | hb <;> omega)⟩)
    (Below.refl _ _) (fun _ => rfl) (EaI w X w.heap.size (w.heap.size + 1)) (fun _ _ _ => False) (eaI_kept (by simp)) (fun c => fun _ _ _ _ h => h.elim) (fun _ _ _ _ _ _ _ => trivial)
    (fun s A B hI hW => eaI_wrote hXw (Nat.le_refl _) (by omega) hI hW)
    ⟨_, hT0, World.ownsRow_nil _ _ _ _, by simp, Wrote.of_below hb0⟩
    (fun x a' V => a' = { tmps := #[.slice none 0 0, .func (.func 59) #[] #[.pointer (some ⟨X, 0, none⟩)], .pointer (some ⟨w.heap.size, 0, none⟩), undef, .slice none 0 0, .int .i64 x, .func (.func 59) #[] #[.pointer (some ⟨X, 0, none⟩)], .int .i64 x, undef, undef, undef, undef, undef], defers := [] })
    (fun x a' => fun _ A B' row h hg hr => h) ?assign ?body ?done (fun D c pre V hD hS hx hd => hx.elim)
  case assign =>
    intro l pre x V KQ hI hK
    simp only [encI]
    gi_wp2
    exact hK _ _ (keeps_later (later_refl V) _) ⟨Nat.le_refl _, fun b _ _ => rfl⟩ hI rfl
  case body =>
    rintro l pre x a' V hl ⟨v, h1, h2, h3, h4⟩ rfl hpl
    have hs4 := h4.size
    obtain ⟨av, cv, rfl⟩ := owns_shape2 h2
    have t0 := box_cell (i := 0) h1
    have f0 := box_frozen (i := 0) h1
    simp at t0
    have hTV := lt_of_block h1
    gi_wp2_with (first
      | (gi_at_builtin; refine wpListIn_append_own _ rfl (.tmp 8) (.tmp 10) 27 rfl (w.heap.size + 1) 3 j0 _ 1 8 Tryd.underlying27 hj jz0 jz1 jz2 rfl (by decide) _ _ _ rfl (h2.alloc _) ⟨V.heap.size, 0, none⟩ 1 1 [.int .i64 x] rfl rfl (cells_new _ _ _) (by simp [Value.oneCell']) (by unfold maxLen; omega) (by omega) (by simp; omega) ?_; intro v6 w6 hown6 hgrow6 _; obtain ⟨g6, cap6, rfl⟩ := ownsRow_succ hown6; have hT6 := box_grown (h2.alloc _) hgrow6 (box_alloc h1 _) (by decide); have t6 := box_cell (i := 0) hT6; have f6 := box_frozen (i := 0) hT6; simp at t6))
    have hk := later_alloc V (.cells #[.int .i64 x] 3)
    have hbel : Below w.heap.size V (w6.setCell ⟨w.heap.size, 0, none⟩ (.slice (some ⟨g6, 0, none⟩) (pre.length + 1) cap6)) :=
      below_set ((hk.mono h4.size).grown hgrow6 (by have := h4.size; simp; omega) (fun k e => Nat.le_trans (Nat.le_succ _) (owns_above h2 k e))) (Nat.le_refl _)
    refine ⟨?_, ⟨hbel.size, fun b hb _ => hbel.block b (by rcases hb with hb | hb <;> omega)⟩, ⟨_, box_set hT6 _, ?_, ?_, ?_⟩⟩
    · have k1 : KeepsOthers V _ := ((KeepsOthers.alloc V _).trans (KeepsOthers.of_grownBy hgrow6 (own_isCells (h2.alloc _)))).trans (KeepsOthers.setCell _ ⟨w.heap.size, 0, none⟩ (.slice (some ⟨g6, 0, none⟩) (pre.length + 1) cap6))
      exact k1.from _
    · have h9 := own_set (i := 0) hown6 hT6 (by decide) (.slice (some ⟨g6, 0, none⟩) (pre.length + 1) cap6)
      simpa using h9
    · exact Nat.le_trans h3 hbel.size
    · exact ⟨hbel.os.trans h4.os, hbel.tape.trans h4.tape, hbel.output.trans h4.output, Nat.le_trans h4.size hbel.size, fun b hb hS => (hbel.block b hb).trans (h4.block b hb hS)⟩
  case done =>
    rintro D ys V hD rfl hI - hdef
    obtain ⟨v9, g1, g2, g3', g4⟩ := id hI
    obtain ⟨av, cv, rfl⟩ := owns_shape2 g2
    have t0 := box_cell (i := 0) g1
    simp at t0
    refine ‹∀ (a : Act) (w_1 : World), _ → _› _ _ ?_
    go_wp2
    refine ⟨by simp, .inl ⟨_, _, rfl, run_takeDeferred hdef, ?_⟩⟩
    refine ⟨_, results_tmp rfl _ _ _, _, rfl, ?_, wrote_grown g4 (grownBy_putObj' V D _) (fun r e => by cases e; simp at hD; omega)⟩
    exact owns_down (ownsRow_kept (B := w.heap.size + 1) g2 (grownBy_putObj' V D _) (fun r e => by cases e; exact ⟨by simpa using hD, _, hdef, rfl⟩)) (Nat.le_succ _)
end Go.Proofs.YtplidcbfbonjlaaDoor
