/-
  The iterator over two rows of pairs merged, walked.
-/
import Derived.Test.YtdfnfdgkhflonaaRows
import Derived.RegionIn
import Derived.Deep.QuietTactic
import Derived.BigQuiet
import Derived.Outline
import Derived.Laws.EntriesVeiled
import Derived.WalkSpells
import Derived.Deep.RegionHeld3
import Derived.Test.YtdfnfdgkhflonaaTRange
import Derived.Test.YtdfnfdgkhflonaaTMergeP
import Derived.Test.YtdfnfdgkhflonaaTPairs
import Derived.Test.YtdfnfdgkhflonaaTSeconds
namespace Go.Proofs.Ytdfnfdgkhflonaa
open Go.RowKit Go.Shelf
set_option linter.unusedVariables false
attribute [local go_sem] Oper.semAt_some

/-- All but two blocks, of those that were, lie as they lay. -/
structure Alt (K1 K2 : Nat) (A C : World) : Prop where
  os : C.os = A.os
  tape : C.tape = A.tape
  output : C.output = A.output
  size : A.heap.size ≤ C.heap.size
  block : ∀ b, b < A.heap.size → b ≠ K1 → b ≠ K2 → C.heap[b]? = A.heap[b]?
theorem Alt.of_below {K1 K2 : Nat} {A C : World} (h : Below A.heap.size A C) : Alt K1 K2 A C := ⟨h.os, h.tape, h.output, h.size, fun b hb _ _ => h.block b hb⟩
theorem Alt.trans {K1 K2 : Nat} {A B C : World} (h : Alt K1 K2 A B) (k : Alt K1 K2 B C) : Alt K1 K2 A C :=
  ⟨k.os.trans h.os, k.tape.trans h.tape, k.output.trans h.output, Nat.le_trans h.size k.size, fun b hb h1 h2 => (k.block b (Nat.lt_of_lt_of_le hb h.size) h1 h2).trans (h.block b hb h1 h2)⟩
theorem Alt.drew {K1 K2 : Nat} {A C : World} (h : Alt K1 K2 A C) : Alt K1 K2 A C.drew := ⟨h.os, h.tape, h.output, h.size, h.block⟩
theorem Alt.refl (K1 K2 : Nat) (A : World) : Alt K1 K2 A A := .of_below (later_refl A)
theorem Alt.setCell {K1 K2 : Nat} {A C : World} (h : Alt K1 K2 A C) {p : Addr} (hp : A.heap.size ≤ p.block ∨ p.block = K1 ∨ p.block = K2) (u : Value) : Alt K1 K2 A (C.setCell p u) := by
  refine ⟨h.os, h.tape, h.output, by simpa using h.size, fun b hb h1 h2 => ?_⟩
  rw [← h.block b hb h1 h2]
  refine heap_setCell_other C p b u ?_
  rcases hp with e | e | e
  · omega
  · rw [e]; exact h1
  · rw [e]; exact h2
theorem Alt.below {K1 K2 B0 : Nat} {A0 A C : World} (h : Alt K1 K2 A C) (hb : Below B0 A0 A) (h0 : B0 ≤ A.heap.size) (h1 : B0 ≤ K1) (h2 : B0 ≤ K2) : Below B0 A0 C :=
  ⟨h.os.trans hb.os, h.tape.trans hb.tape, h.output.trans hb.output, Nat.le_trans hb.size h.size, fun b hbb => (h.block b (by omega) (by omega) (by omega)).trans (hb.block b hbb)⟩
/-- J abides what turns two of the iterator's boxes alone. -/
theorem abidesW_alt {β : Type} {B K1 K2 : Nat} {J : β → World → Prop} {s : β} {A C : World} {u1 u2 v1 v2 : Value} {e1 e2 : TypeId} (hJ : AbidesW B (fun r => r = K1 ∨ r = K2) J) (h : J s A) (ha : Alt K1 K2 A C) (hne : K1 ≠ K2)
    (hA1 : A.heap[K1]? = some (.cells #[u1] e1 (0, 0))) (hA2 : A.heap[K2]? = some (.cells #[u2] e2 (0, 0))) (hC1 : C.heap[K1]? = some (.cells #[v1] e1 (0, 0))) (hC2 : C.heap[K2]? = some (.cells #[v2] e2 (0, 0))) : J s C := by
  have j1 : J s (A.setCell ⟨K1, 0, none⟩ v1) := hJ s A _ (some K1) h (grownBy_setCell' A K1 v1) (fun r e => by cases e; exact .inr (.inl rfl))
  have j2 : J s ((A.setCell ⟨K1, 0, none⟩ v1).setCell ⟨K2, 0, none⟩ v2) := hJ s _ _ (some K2) j1 (grownBy_setCell' _ K2 v2) (fun r e => by cases e; exact .inr (.inr rfl))
  have hA2' := box_other (i := 0) hA2 (Ne.symm hne) v1
  have hB1 := box_other (i := 0) (box_set (i := 0) hA1 v1) hne v2
  have hB2 := box_set (i := 0) hA2' v2
  simp at hB1 hB2
  refine hJ s _ C none j2 ⟨ha.os, ha.tape, ha.output, by simpa using ha.size, fun k hk _ => ?_⟩ (fun r e => by cases e)
  by_cases e1 : k = K1
  · subst e1; rw [hC1, hB1]
  · by_cases e2 : k = K2
    · subst e2; rw [hC2, hB2]
    · rw [ha.block k (by simpa using hk) e1 e2]
      rw [heap_setCell_other _ ⟨K2, 0, none⟩ k v2 e2, heap_setCell_other _ ⟨K1, 0, none⟩ k v1 e1]

theorem heap3_other {w : World} {b X K : Nat} {o : Obj} {u v z : Value} (h : w.heap[b]? = some o) (h1 : b ≠ X) (h2 : b ≠ K) : (((w.setCell ⟨X, 0, none⟩ u).setCell ⟨X, 1, none⟩ v).setCell ⟨K, 0, none⟩ z).drew.heap[b]? = some o :=
  (heap_setCell_other _ ⟨K, 0, none⟩ b z h2).trans ((heap_setCell_other _ ⟨X, 1, none⟩ b v h1).trans ((heap_setCell_other _ ⟨X, 0, none⟩ b u h1).trans h))

theorem cells6_next {W W' : World} {p q r s t u : Addr} {a b c d e f : Value} (hb : Below W.heap.size W W') (h : W.cell? p = some a ∧ W.cell? q = some b ∧ W.cell? r = some c ∧ W.cell? s = some d ∧ W.cell? t = some e ∧ W.cell? u = some f) : W'.cell? p = some a ∧ W'.cell? q = some b ∧ W'.cell? r = some c ∧ W'.cell? s = some d ∧ W'.cell? t = some e ∧ W'.cell? u = some f :=
  ⟨cell_next hb h.1, cell_next hb h.2.1, cell_next hb h.2.2.1, cell_next hb h.2.2.2.1, cell_next hb h.2.2.2.2.1, cell_next hb h.2.2.2.2.2⟩

theorem cell_alt {K1 K2 : Nat} {A C : World} {b o : Nat} {v : Value} (h : Alt K1 K2 A C) (h1 : b ≠ K1) (h2 : b ≠ K2) (hc : A.cell? ⟨b, o, none⟩ = some v) : C.cell? ⟨b, o, none⟩ = some v := by
  have hb := h.block b (World.block_lt_of_cell? _ _ hc) h1 h2
  unfold World.cell? at *
  rw [hb]
  exact hc

/-- What the body keeps of the iterator's boxes. -/
def KM (n0 K1 K2 : Nat) (A C : World) : Prop := Below n0 A C ∧ (∀ o, A.heap[K1]? = some o → C.heap[K1]? = some o) ∧ (∀ o, A.heap[K2]? = some o → C.heap[K2]? = some o)
theorem KM.trans {n0 K1 K2 : Nat} {A B C : World} (h : KM n0 K1 K2 A B) (k : KM n0 K1 K2 B C) : KM n0 K1 K2 A C := ⟨h.1.trans k.1, fun o e => k.2.1 o (h.2.1 o e), fun o e => k.2.2 o (h.2.2 o e)⟩

/-- A told pair, and who has it. -/
def encM (x : Pr × Bool × Bool) : Array Value := #[.agg #[.int .u64 x.1.a, .int .u64 x.1.b], .agg #[.bool x.2.1, .bool x.2.2]]
/-- How long the slice in a box is. -/
def boxLen (w : World) (K : Nat) : Nat := match w.cell? ⟨K, 0, none⟩ with | some (.slice _ n _) => n | _ => 0
theorem boxLen_of {w : World} {K n c : Nat} {a : Option Addr} {e : TypeId} (h : w.heap[K]? = some (.cells #[.slice a n c] e (0, 0))) : boxLen w K = n := by
  have := box_cell (i := 0) h
  simp at this
  simp [boxLen, this]

theorem SlP.tail1 {w : World} {b o n c : Nat} {x : Pr} {xs : List Pr} (h : SlP w (.slice (some ⟨b, o, none⟩) n c) (x :: xs)) (hc : c ≠ 1) : SlP w (.slice (some ⟨b, o + 2, none⟩) (n - 1) (c - 1)) xs := by
  have h2 := SlP.drop h (i := 1) (by simp)
  have hn : n = xs.length + 1 := by obtain ⟨a, c', e, -⟩ := h.open; cases e; simp
  subst hn
  simpa using h2
theorem SlP.tail0 {w : World} {a : Option Addr} {n c : Nat} {x : Pr} {xs : List Pr} (h : SlP w (.slice a n c) (x :: xs)) (hc : c = 1) : SlP w (.slice a (n - 1) 0) xs := by
  obtain ⟨a', c', e, h1, -⟩ := h.open
  cases e
  simp at h1
  obtain rfl : xs = [] := List.eq_nil_of_length_eq_zero (by omega)
  exact ⟨⟨by simp, a, 0, by simp, by simp, by simp [maxLen], fun _ => rfl, fun h => by simp at h⟩, fun p hp => by cases hp⟩

set_option maxRecDepth 100000 in
set_option maxHeartbeats 8000000 in
theorem merged_stops (n : Nat) (hn : 1 ≤ n) (L1 L2 : List Pr) (v10 v20 : Value) (K1 K2 : Nat) (w0 w : World) (hw0 : Below w0.heap.size w0 w) (h1 : SlP w0 v10 L1) (h2 : SlP w0 v20 L2) (hne : K1 ≠ K2) (hk1 : w0.heap.size ≤ K1) (hk2 : w0.heap.size ≤ K2)
    (hK1 : w.heap[K1]? = some (.cells #[v10] 57 (0, 0))) (hK2 : w.heap[K2]? = some (.cells #[v20] 57 (0, 0))) :
    SeqW n Try.prog 136 #[.pointer (some ⟨K1, 0, none⟩), .pointer (some ⟨K2, 0, none⟩)] encM (KM w0.heap.size K1 K2) (fun r => r = K1 ∨ r = K2)
      (fun ys => ys = mergeS L1 L2) (L1.length + L2.length + 1) w := fun l J W hW hJa hY h0 => by
  have HJA := Lib.hid hJa
  have HY := Lib.hid hY
  have hKW1 := (hW.block _ (lt_of_block hK1)).trans hK1
  have hKW2 := (hW.block _ (lt_of_block hK2)).trans hK2
  have hW0 := later_trans hw0 hW
  have hlen := mergeS_len _ L1 L2 (Nat.le_refl _)
  clear hJa hY hW hK1 hK2 hw0
  refine callsIn_of_wp Try.func136 rfl trivial ?_ rfl
  simp only [Try.ntmps136, List.size_toArray, List.length_cons, List.length_nil, Nat.reduceAdd, Nat.reduceSub, Array.replicate_succ, Array.replicate_zero, List.push_toArray, List.append_toArray, List.nil_append, List.cons_append]
  gi_wp2
  refine wpIn_wide.2 ?_
  go_step3
  go_wp2
  go_step3
  go_wp2
  refine (wpIn_wide (n := n)).1 ?_
  gi_loopw [69] (fun d wr => ∃ (pre : List (Pr × Bool × Bool)) (l1 l2 : List Pr) (a1 a2 : Option Addr) (c1 c2 : Nat), SlP w0 (.slice a1 l1.length c1) l1 ∧ SlP w0 (.slice a2 l2.length c2) l2 ∧ wr.heap[K1]? = some (.cells #[.slice a1 l1.length c1] 57 (0, 0)) ∧ wr.heap[K2]? = some (.cells #[.slice a2 l2.length c2] 57 (0, 0)) ∧ pre ++ mergeS l1 l2 = mergeS L1 L2 ∧ J pre wr ∧ Below w0.heap.size w0 wr ∧ W.heap.size ≤ wr.heap.size) (fun _ wr => boxLen wr K1 + boxLen wr K2)
  case atStart =>
    obtain ⟨a1, c1, rfl, -⟩ := h1.open
    obtain ⟨a2, c2, rfl, -⟩ := h2.open
    exact ⟨[], L1, L2, a1, a2, c1, c2, h1, h2, hKW1, hKW2, rfl, h0, hW0, Nat.le_refl _⟩
  case round =>
    obtain ⟨pre, l1, l2, a1, a2, c1, c2, s1, s2, hB1, hB2, hpre, hJ, hb, hsz⟩ := hrel
    have k1 := box_cell (i := 0) hB1
    have k2 := box_cell (i := 0) hB2
    have f1 := box_frozen (i := 0) hB1
    have f2 := box_frozen (i := 0) hB2
    simp at k1 k2
    have hlt1 := lt_of_block hB1
    have hlt2 := lt_of_block hB2
    cases l1 with
    | nil =>
      cases l2 with
      | nil =>
        rw [mergeS_nn, List.append_nil] at hpre
        subst hpre
        simp only [List.length_nil] at k1 k2 hB1 hB2
        gi_wp2
        unfold Exit.noGoto
        go_end0
        exact ⟨⟨_, rfl⟩, _, rfl, hJ⟩
      | cons y ys =>
        obtain ⟨_, _, e, g5, g6, g7, g8⟩ := s2.open
        cases e
        obtain ⟨b2, o2, rfl, hbb2, hc2⟩ := g8 (by simp)
        obtain ⟨y1, y2⟩ := hc2 0 (by simp)
        simp only [List.getElem_cons_zero, Nat.zero_mul, Nat.add_zero] at y1 y2
        replace y1 := ((bcell hb).1 b2 _ hbb2).trans y1
        replace y2 := ((bcell hb).1 b2 _ hbb2).trans y2
        obtain ⟨n2, hn2⟩ : ∃ n2, (y :: ys).length = n2 := ⟨_, rfl⟩
        have hp2 : 0 < n2 := by rw [← hn2]; simp
        rw [hn2] at k2 hB2 s2 g5
        simp only [List.length_nil] at k1 hB1
        have G5 := Lib.hid g5
        clear g5 hc2 g7 g8
        have hmrg := mergeS_nc y ys
        gi_wp2
        refine wpIn_wide.2 ?_
        rename_i QR KR hKR
        have HREG : ∀ (V : World) (X4 : Nat) (s5 s6 s7 s8 s9 s10 s11 s12 s13 s14 s15 s16 s17 s18 s19 s20 s21 s22 s23 s24 s25 s26 s27 s28 s29 s30 s31 s32 s33 s34 s35 s36 s37 s38 s39 s40 s41 s42 s43 s44 s45 s46 s47 s48 s49 s50 s51 s52 s53 s54 s55 s56 s57 s58 s59 s60 s61 s62 s63 s64 s65 s66 s67 s68 s69 : Value), Below wr.heap.size wr V → wr.heap.size ≤ X4 → V.heap[X4]? = some (.cells #[.bool false, .bool true] 144 (0, 0)) →
            KR { tmps := #[.func (.yield l) #[] #[], .pointer (some ⟨K1, 0, none⟩), .pointer (some ⟨K2, 0, none⟩), undef, .pointer (some ⟨X4, 0, none⟩), s5, s6, s7, s8, s9, s10, s11, s12, s13, s14, s15, s16, s17, s18, s19, s20, s21, s22, s23, s24, s25, s26, s27, s28, s29, s30, s31, s32, s33, s34, s35, s36, s37, s38, s39, s40, s41, s42, s43, s44, s45, s46, s47, s48, s49, s50, s51, s52, s53, s54, s55, s56, s57, s58, s59, s60, s61, s62, s63, s64, s65, s66, s67, s68, s69], defers := [] } V := by
          intro V X4 s5 s6 s7 s8 s9 s10 s11 s12 s13 s14 s15 s16 s17 s18 s19 s20 s21 s22 s23 s24 s25 s26 s27 s28 s29 s30 s31 s32 s33 s34 s35 s36 s37 s38 s39 s40 s41 s42 s43 s44 s45 s46 s47 s48 s49 s50 s51 s52 s53 s54 s55 s56 s57 s58 s59 s60 s61 s62 s63 s64 s65 s66 s67 s68 s69 hV hX hX4
          refine hKR _ _ ?_
          clear hKR
          have hB1V := box_alloc ((hV.block _ hlt1).trans hB1) (.cells #[.int .u64 0, .int .u64 0] 59)
          have hB2V := box_alloc ((hV.block _ hlt2).trans hB2) (.cells #[.int .u64 0, .int .u64 0] 59)
          have hX4V := box_alloc hX4 (.cells #[.int .u64 0, .int .u64 0] 59)
          have hX5 := box_new V #[.int .u64 0, .int .u64 0] 59
          have hV2 := later_trans hV (later_alloc V (.cells #[.int .u64 0, .int .u64 0] 59))
          have hX4l := lt_of_block hX4
          obtain ⟨X5, hX5e⟩ : ∃ X, V.heap.size = X := ⟨_, rfl⟩
          have hX45 : X4 < X5 := by omega
          have hX5g : wr.heap.size ≤ X5 := by have := hV.size; omega
          obtain ⟨V2, hV2e⟩ : ∃ V2, V.alloc (.cells #[.int .u64 0, .int .u64 0] 59) = V2 := ⟨_, rfl⟩
          rw [hV2e] at hB1V hB2V hX4V hX5 hV2
          rw [hX5e] at hX5
          have q0 := box_cell (i := 0) hX4V
          have q1 := box_cell (i := 1) hX4V
          simp at q0 q1
          have hx4 := lt_of_block hX4V
          have hx5 := lt_of_block hX5
          have k1V := box_cell (i := 0) hB1V
          have k2V := box_cell (i := 0) hB2V
          have f1V := box_frozen (i := 0) hB1V
          have f2V := box_frozen (i := 0) hB2V
          have p0V := box_cell (i := 0) hX5
          have p1V := box_cell (i := 1) hX5
          have g0V := box_frozen (i := 0) hX5
          have g1V := box_frozen (i := 1) hX5
          simp at k1V k2V p0V p1V
          have hy1 := (cell_next hV2 y1)
          have hy2 := (cell_next hV2 y2)
          clear k1 k2 f1 f2 y1 y2
          have hA0 : Alt K1 K2 wr V2 := .of_below hV2
          have hKX1 : K1 < X5 := by omega
          have hKX2 : K2 < X5 := by omega
          have hKY1 : K1 < X4 := by omega
          have hKY2 : K2 < X4 := by omega
          have hB1V2 := hB1V
          have hB2V2 := hB2V
          have hX4V2 := hX4V
          have hX5V2 := hX5
          by_cases hc2 : c2 = 1
          · subst hc2
            gi_wp2
            refine wpIn_wide.2 ?_
            go_region
            obtain ⟨V3, hV3⟩ : ∃ V, (((V2.setCell ⟨X5, 0, none⟩ (.int .u64 y.a)).setCell ⟨X5, 1, none⟩ (.int .u64 y.b)).setCell ⟨K2, 0, none⟩ (.slice (some ⟨b2, o2, none⟩) (n2 - 1) 0)).drew = V := ⟨_, rfl⟩
            rw [hV3]
            have hB2V3 : V3.heap[K2]? = some (.cells #[.slice (some ⟨b2, o2, none⟩) (n2 - 1) 0] 57 (0, 0)) := by rw [← hV3]; exact box_set (i := 0) (box_other (i := 1) (box_other (i := 0) hB2V2 (by omega) _) (by omega) _) _
            have hB1V3 := heap3_other (u := .int .u64 y.a) (v := .int .u64 y.b) (z := .slice (some ⟨b2, o2, none⟩) (n2 - 1) 0) hB1V2 (show K1 ≠ X5 by omega) (show K1 ≠ K2 by omega)
            rw [hV3] at hB1V3
            have hX4V3 := heap3_other (u := .int .u64 y.a) (v := .int .u64 y.b) (z := .slice (some ⟨b2, o2, none⟩) (n2 - 1) 0) hX4V2 (show X4 ≠ X5 by omega) (show X4 ≠ K2 by omega)
            rw [hV3] at hX4V3
            have hX5V3 : V3.heap[X5]? = some (.cells #[.int .u64 y.a, .int .u64 y.b] 59 (0, 0)) := by rw [← hV3]; exact box_other (i := 0) (box_set (i := 1) (box_set (i := 0) hX5V2 _) _) (by omega) _
            have hAV3 : Alt K1 K2 wr V3 := by rw [← hV3]; exact (((hA0.setCell (.inl hX5g) _).setCell (.inl hX5g) _).setCell (.inr (.inr rfl)) _).drew
            clear hV3
            have q0V3 := box_cell (i := 0) hX4V3
            have q1V3 := box_cell (i := 1) hX4V3
            have k1V3 := box_cell (i := 0) hB1V3
            have k2V3 := box_cell (i := 0) hB2V3
            have p0V3 := box_cell (i := 0) hX5V3
            have p1V3 := box_cell (i := 1) hX5V3
            have f1V3 := box_frozen (i := 0) hB1V3
            have f2V3 := box_frozen (i := 0) hB2V3
            have g0V3 := box_frozen (i := 0) hX5V3
            have g1V3 := box_frozen (i := 1) hX5V3
            simp at q0V3 q1V3 k1V3 k2V3 p0V3 p1V3
            have lx4V3 := lt_of_block hX4V3
            have lx5V3 := lt_of_block hX5V3
            have lk1V3 := lt_of_block hB1V3
            have lk2V3 := lt_of_block hB2V3
            have hJ3 := abidesW_alt HJA.out hJ hAV3 hne hB1 hB2 hB1V3 hB2V3
            have hpl : pre.length < L1.length + L2.length + 1 := by have := congrArg List.length hpre; simp at this; omega
            obtain ⟨fn, tmps, assign, body, hy, hR⟩ := HY.out pre (y, false, true) V3 hJ3 hpl
            dsimp only [encM] at hy
            have HPR := Lib.hid hpre
            have HM := Lib.hid hmrg
            have HAL := Lib.hid hAV3
            clear hJ3 hpl hpre hmrg hAV3
            gi_wp2
            refine hR.mono ?_
            rintro en W3 ⟨rfl, hJ4, hk3⟩
            have hB1z := hk3.2.1 _ hB1V3
            have hB2z := hk3.2.2 _ hB2V3
            gi_wp2
            go_roundw
            case rel =>
              have t1 := s1
              have t2 := s2.tail0 rfl
              have e2 : n2 - 1 = ys.length := by rw [← hn2]; simp
              rw [e2] at t2 hB2z
              exact ⟨pre ++ [(y, false, true)], _, _, _, _, _, _, t1, t2, hB1z, hB2z, by rw [← HPR.out, HM.out]; simp, hJ4, (HAL.out.below hb hb.size hk1 hk2).trans hk3.1, by have := HAL.out.size; have := hk3.1.size; omega⟩
            case measure =>
              rw [boxLen_of hB1z, boxLen_of hB2z, boxLen_of hB1, boxLen_of hB2]
              omega
          · have hcs : 1 ≤ c2 := by have := G5.out; omega
            gi_wp2
            refine wpIn_wide.2 ?_
            go_region
            obtain ⟨V3, hV3⟩ : ∃ V, (((V2.setCell ⟨X5, 0, none⟩ (.int .u64 y.a)).setCell ⟨X5, 1, none⟩ (.int .u64 y.b)).setCell ⟨K2, 0, none⟩ (.slice (some ⟨b2, o2 + 2, none⟩) (n2 - 1) (c2 - 1))).drew = V := ⟨_, rfl⟩
            rw [hV3]
            have hB2V3 : V3.heap[K2]? = some (.cells #[.slice (some ⟨b2, o2 + 2, none⟩) (n2 - 1) (c2 - 1)] 57 (0, 0)) := by rw [← hV3]; exact box_set (i := 0) (box_other (i := 1) (box_other (i := 0) hB2V2 (by omega) _) (by omega) _) _
            have hB1V3 := heap3_other (u := .int .u64 y.a) (v := .int .u64 y.b) (z := .slice (some ⟨b2, o2 + 2, none⟩) (n2 - 1) (c2 - 1)) hB1V2 (show K1 ≠ X5 by omega) (show K1 ≠ K2 by omega)
            rw [hV3] at hB1V3
            have hX4V3 := heap3_other (u := .int .u64 y.a) (v := .int .u64 y.b) (z := .slice (some ⟨b2, o2 + 2, none⟩) (n2 - 1) (c2 - 1)) hX4V2 (show X4 ≠ X5 by omega) (show X4 ≠ K2 by omega)
            rw [hV3] at hX4V3
            have hX5V3 : V3.heap[X5]? = some (.cells #[.int .u64 y.a, .int .u64 y.b] 59 (0, 0)) := by rw [← hV3]; exact box_other (i := 0) (box_set (i := 1) (box_set (i := 0) hX5V2 _) _) (by omega) _
            have hAV3 : Alt K1 K2 wr V3 := by rw [← hV3]; exact (((hA0.setCell (.inl hX5g) _).setCell (.inl hX5g) _).setCell (.inr (.inr rfl)) _).drew
            clear hV3
            have q0V3 := box_cell (i := 0) hX4V3
            have q1V3 := box_cell (i := 1) hX4V3
            have k1V3 := box_cell (i := 0) hB1V3
            have k2V3 := box_cell (i := 0) hB2V3
            have p0V3 := box_cell (i := 0) hX5V3
            have p1V3 := box_cell (i := 1) hX5V3
            have f1V3 := box_frozen (i := 0) hB1V3
            have f2V3 := box_frozen (i := 0) hB2V3
            have g0V3 := box_frozen (i := 0) hX5V3
            have g1V3 := box_frozen (i := 1) hX5V3
            simp at q0V3 q1V3 k1V3 k2V3 p0V3 p1V3
            have lx4V3 := lt_of_block hX4V3
            have lx5V3 := lt_of_block hX5V3
            have lk1V3 := lt_of_block hB1V3
            have lk2V3 := lt_of_block hB2V3
            have hJ3 := abidesW_alt HJA.out hJ hAV3 hne hB1 hB2 hB1V3 hB2V3
            have hpl : pre.length < L1.length + L2.length + 1 := by have := congrArg List.length hpre; simp at this; omega
            obtain ⟨fn, tmps, assign, body, hy, hR⟩ := HY.out pre (y, false, true) V3 hJ3 hpl
            dsimp only [encM] at hy
            have HPR := Lib.hid hpre
            have HM := Lib.hid hmrg
            have HAL := Lib.hid hAV3
            clear hJ3 hpl hpre hmrg hAV3
            gi_wp2
            refine hR.mono ?_
            rintro en W3 ⟨rfl, hJ4, hk3⟩
            have hB1z := hk3.2.1 _ hB1V3
            have hB2z := hk3.2.2 _ hB2V3
            gi_wp2
            go_roundw
            case rel =>
              have t1 := s1
              have t2 := s2.tail1 hc2
              have e2 : n2 - 1 = ys.length := by rw [← hn2]; simp
              rw [e2] at t2 hB2z
              exact ⟨pre ++ [(y, false, true)], _, _, _, _, _, _, t1, t2, hB1z, hB2z, by rw [← HPR.out, HM.out]; simp, hJ4, (HAL.out.below hb hb.size hk1 hk2).trans hk3.1, by have := HAL.out.size; have := hk3.1.size; omega⟩
            case measure =>
              rw [boxLen_of hB1z, boxLen_of hB2z, boxLen_of hB1, boxLen_of hB2]
              omega
        have HH := Lib.hid HREG
        clear HREG hKR hmrg
        go_region
        exact HH.out _ wr.heap.size _ _ _ _ _ _ _ _ _ _ _ _ _ _ _ _ _ _ _ _ _ _ _ _ _ _ _ _ _ _ _ _ _ _ _ _ _ _ _ _ _ _ _ _ _ _ _ _ _ _ _ _ _ _ _ _ _ _ _ _ _ _ _ _ _ (later_trans (later_alloc wr _) (later_drew _)) (Nat.le_refl _) (box_new wr _ _)
    | cons x xs =>
      cases l2 with
      | nil =>
        obtain ⟨_, _, e, g1, g2, g3, g4⟩ := s1.open
        cases e
        obtain ⟨b1, o1, rfl, hbb1, hc1⟩ := g4 (by simp)
        obtain ⟨x1, x2⟩ := hc1 0 (by simp)
        simp only [List.getElem_cons_zero, Nat.zero_mul, Nat.add_zero] at x1 x2
        replace x1 := ((bcell hb).1 b1 _ hbb1).trans x1
        replace x2 := ((bcell hb).1 b1 _ hbb1).trans x2
        obtain ⟨n1, hn1⟩ : ∃ n1, (x :: xs).length = n1 := ⟨_, rfl⟩
        have hp1 : 0 < n1 := by rw [← hn1]; simp
        rw [hn1] at k1 hB1 s1 g1
        simp only [List.length_nil] at k2 hB2
        have G1 := Lib.hid g1
        clear g1 hc1 g3 g4
        have hmrg := mergeS_cn x xs
        gi_wp2
        refine wpIn_wide.2 ?_
        rename_i QR KR hKR
        have HREG : ∀ (V : World) (X4 : Nat) (s5 s6 s7 s8 s9 s10 s11 s12 s13 s14 s15 s16 s17 s18 s19 s20 s21 s22 s23 s24 s25 s26 s27 s28 s29 s30 s31 s32 s33 s34 s35 s36 s37 s38 s39 s40 s41 s42 s43 s44 s45 s46 s47 s48 s49 s50 s51 s52 s53 s54 s55 s56 s57 s58 s59 s60 s61 s62 s63 s64 s65 s66 s67 s68 s69 : Value), Below wr.heap.size wr V → wr.heap.size ≤ X4 → V.heap[X4]? = some (.cells #[.bool true, .bool false] 144 (0, 0)) →
            KR { tmps := #[.func (.yield l) #[] #[], .pointer (some ⟨K1, 0, none⟩), .pointer (some ⟨K2, 0, none⟩), undef, .pointer (some ⟨X4, 0, none⟩), s5, s6, s7, s8, s9, s10, s11, s12, s13, s14, s15, s16, s17, s18, s19, s20, s21, s22, s23, s24, s25, s26, s27, s28, s29, s30, s31, s32, s33, s34, s35, s36, s37, s38, s39, s40, s41, s42, s43, s44, s45, s46, s47, s48, s49, s50, s51, s52, s53, s54, s55, s56, s57, s58, s59, s60, s61, s62, s63, s64, s65, s66, s67, s68, s69], defers := [] } V := by
          intro V X4 s5 s6 s7 s8 s9 s10 s11 s12 s13 s14 s15 s16 s17 s18 s19 s20 s21 s22 s23 s24 s25 s26 s27 s28 s29 s30 s31 s32 s33 s34 s35 s36 s37 s38 s39 s40 s41 s42 s43 s44 s45 s46 s47 s48 s49 s50 s51 s52 s53 s54 s55 s56 s57 s58 s59 s60 s61 s62 s63 s64 s65 s66 s67 s68 s69 hV hX hX4
          refine hKR _ _ ?_
          clear hKR
          have hB1V := box_alloc ((hV.block _ hlt1).trans hB1) (.cells #[.int .u64 0, .int .u64 0] 59)
          have hB2V := box_alloc ((hV.block _ hlt2).trans hB2) (.cells #[.int .u64 0, .int .u64 0] 59)
          have hX4V := box_alloc hX4 (.cells #[.int .u64 0, .int .u64 0] 59)
          have hX5 := box_new V #[.int .u64 0, .int .u64 0] 59
          have hV2 := later_trans hV (later_alloc V (.cells #[.int .u64 0, .int .u64 0] 59))
          have hX4l := lt_of_block hX4
          obtain ⟨X5, hX5e⟩ : ∃ X, V.heap.size = X := ⟨_, rfl⟩
          have hX45 : X4 < X5 := by omega
          have hX5g : wr.heap.size ≤ X5 := by have := hV.size; omega
          obtain ⟨V2, hV2e⟩ : ∃ V2, V.alloc (.cells #[.int .u64 0, .int .u64 0] 59) = V2 := ⟨_, rfl⟩
          rw [hV2e] at hB1V hB2V hX4V hX5 hV2
          rw [hX5e] at hX5
          have q0 := box_cell (i := 0) hX4V
          have q1 := box_cell (i := 1) hX4V
          simp at q0 q1
          have hx4 := lt_of_block hX4V
          have hx5 := lt_of_block hX5
          have k1V := box_cell (i := 0) hB1V
          have k2V := box_cell (i := 0) hB2V
          have f1V := box_frozen (i := 0) hB1V
          have f2V := box_frozen (i := 0) hB2V
          have p0V := box_cell (i := 0) hX5
          have p1V := box_cell (i := 1) hX5
          have g0V := box_frozen (i := 0) hX5
          have g1V := box_frozen (i := 1) hX5
          simp at k1V k2V p0V p1V
          have hx1 := (cell_next hV2 x1)
          have hx2 := (cell_next hV2 x2)
          clear k1 k2 f1 f2 x1 x2 
          have hA0 : Alt K1 K2 wr V2 := .of_below hV2
          have hKX1 : K1 < X5 := by omega
          have hKX2 : K2 < X5 := by omega
          have hKY1 : K1 < X4 := by omega
          have hKY2 : K2 < X4 := by omega
          have hB1V2 := hB1V
          have hB2V2 := hB2V
          have hX4V2 := hX4V
          have hX5V2 := hX5
          by_cases hc1 : c1 = 1
          · subst hc1
            gi_wp2
            refine wpIn_wide.2 ?_
            go_region
            obtain ⟨V3, hV3⟩ : ∃ V, (((V2.setCell ⟨X5, 0, none⟩ (.int .u64 x.a)).setCell ⟨X5, 1, none⟩ (.int .u64 x.b)).setCell ⟨K1, 0, none⟩ (.slice (some ⟨b1, o1, none⟩) (n1 - 1) 0)).drew = V := ⟨_, rfl⟩
            rw [hV3]
            have hB1V3 : V3.heap[K1]? = some (.cells #[.slice (some ⟨b1, o1, none⟩) (n1 - 1) 0] 57 (0, 0)) := by rw [← hV3]; exact box_set (i := 0) (box_other (i := 1) (box_other (i := 0) hB1V2 (by omega) _) (by omega) _) _
            have hB2V3 := heap3_other (u := .int .u64 x.a) (v := .int .u64 x.b) (z := .slice (some ⟨b1, o1, none⟩) (n1 - 1) 0) hB2V2 (show K2 ≠ X5 by omega) (show K2 ≠ K1 by omega)
            rw [hV3] at hB2V3
            have hX4V3 := heap3_other (u := .int .u64 x.a) (v := .int .u64 x.b) (z := .slice (some ⟨b1, o1, none⟩) (n1 - 1) 0) hX4V2 (show X4 ≠ X5 by omega) (show X4 ≠ K1 by omega)
            rw [hV3] at hX4V3
            have hX5V3 : V3.heap[X5]? = some (.cells #[.int .u64 x.a, .int .u64 x.b] 59 (0, 0)) := by rw [← hV3]; exact box_other (i := 0) (box_set (i := 1) (box_set (i := 0) hX5V2 _) _) (by omega) _
            have hAV3 : Alt K1 K2 wr V3 := by rw [← hV3]; exact (((hA0.setCell (.inl hX5g) _).setCell (.inl hX5g) _).setCell (.inr (.inl rfl)) _).drew
            clear hV3
            have q0V3 := box_cell (i := 0) hX4V3
            have q1V3 := box_cell (i := 1) hX4V3
            have k1V3 := box_cell (i := 0) hB1V3
            have k2V3 := box_cell (i := 0) hB2V3
            have p0V3 := box_cell (i := 0) hX5V3
            have p1V3 := box_cell (i := 1) hX5V3
            have f1V3 := box_frozen (i := 0) hB1V3
            have f2V3 := box_frozen (i := 0) hB2V3
            have g0V3 := box_frozen (i := 0) hX5V3
            have g1V3 := box_frozen (i := 1) hX5V3
            simp at q0V3 q1V3 k1V3 k2V3 p0V3 p1V3
            have lx4V3 := lt_of_block hX4V3
            have lx5V3 := lt_of_block hX5V3
            have lk1V3 := lt_of_block hB1V3
            have lk2V3 := lt_of_block hB2V3
            have hJ3 := abidesW_alt HJA.out hJ hAV3 hne hB1 hB2 hB1V3 hB2V3
            have hpl : pre.length < L1.length + L2.length + 1 := by have := congrArg List.length hpre; simp at this; omega
            obtain ⟨fn, tmps, assign, body, hy, hR⟩ := HY.out pre (x, true, false) V3 hJ3 hpl
            dsimp only [encM] at hy
            have HPR := Lib.hid hpre
            have HM := Lib.hid hmrg
            have HAL := Lib.hid hAV3
            clear hJ3 hpl hpre hmrg hAV3
            gi_wp2
            refine hR.mono ?_
            rintro en W3 ⟨rfl, hJ4, hk3⟩
            have hB1z := hk3.2.1 _ hB1V3
            have hB2z := hk3.2.2 _ hB2V3
            gi_wp2
            go_roundw
            case rel =>
              have t1 := s1.tail0 rfl
              have t2 := s2
              have e1 : n1 - 1 = xs.length := by rw [← hn1]; simp
              rw [e1] at t1 hB1z
              exact ⟨pre ++ [(x, true, false)], _, _, _, _, _, _, t1, t2, hB1z, hB2z, by rw [← HPR.out, HM.out]; simp, hJ4, (HAL.out.below hb hb.size hk1 hk2).trans hk3.1, by have := HAL.out.size; have := hk3.1.size; omega⟩
            case measure =>
              rw [boxLen_of hB1z, boxLen_of hB2z, boxLen_of hB1, boxLen_of hB2]
              omega
          · have hcs : 1 ≤ c1 := by have := G1.out; omega
            gi_wp2
            refine wpIn_wide.2 ?_
            go_region
            obtain ⟨V3, hV3⟩ : ∃ V, (((V2.setCell ⟨X5, 0, none⟩ (.int .u64 x.a)).setCell ⟨X5, 1, none⟩ (.int .u64 x.b)).setCell ⟨K1, 0, none⟩ (.slice (some ⟨b1, o1 + 2, none⟩) (n1 - 1) (c1 - 1))).drew = V := ⟨_, rfl⟩
            rw [hV3]
            have hB1V3 : V3.heap[K1]? = some (.cells #[.slice (some ⟨b1, o1 + 2, none⟩) (n1 - 1) (c1 - 1)] 57 (0, 0)) := by rw [← hV3]; exact box_set (i := 0) (box_other (i := 1) (box_other (i := 0) hB1V2 (by omega) _) (by omega) _) _
            have hB2V3 := heap3_other (u := .int .u64 x.a) (v := .int .u64 x.b) (z := .slice (some ⟨b1, o1 + 2, none⟩) (n1 - 1) (c1 - 1)) hB2V2 (show K2 ≠ X5 by omega) (show K2 ≠ K1 by omega)
            rw [hV3] at hB2V3
            have hX4V3 := heap3_other (u := .int .u64 x.a) (v := .int .u64 x.b) (z := .slice (some ⟨b1, o1 + 2, none⟩) (n1 - 1) (c1 - 1)) hX4V2 (show X4 ≠ X5 by omega) (show X4 ≠ K1 by omega)
            rw [hV3] at hX4V3
            have hX5V3 : V3.heap[X5]? = some (.cells #[.int .u64 x.a, .int .u64 x.b] 59 (0, 0)) := by rw [← hV3]; exact box_other (i := 0) (box_set (i := 1) (box_set (i := 0) hX5V2 _) _) (by omega) _
            have hAV3 : Alt K1 K2 wr V3 := by rw [← hV3]; exact (((hA0.setCell (.inl hX5g) _).setCell (.inl hX5g) _).setCell (.inr (.inl rfl)) _).drew
            clear hV3
            have q0V3 := box_cell (i := 0) hX4V3
            have q1V3 := box_cell (i := 1) hX4V3
            have k1V3 := box_cell (i := 0) hB1V3
            have k2V3 := box_cell (i := 0) hB2V3
            have p0V3 := box_cell (i := 0) hX5V3
            have p1V3 := box_cell (i := 1) hX5V3
            have f1V3 := box_frozen (i := 0) hB1V3
            have f2V3 := box_frozen (i := 0) hB2V3
            have g0V3 := box_frozen (i := 0) hX5V3
            have g1V3 := box_frozen (i := 1) hX5V3
            simp at q0V3 q1V3 k1V3 k2V3 p0V3 p1V3
            have lx4V3 := lt_of_block hX4V3
            have lx5V3 := lt_of_block hX5V3
            have lk1V3 := lt_of_block hB1V3
            have lk2V3 := lt_of_block hB2V3
            have hJ3 := abidesW_alt HJA.out hJ hAV3 hne hB1 hB2 hB1V3 hB2V3
            have hpl : pre.length < L1.length + L2.length + 1 := by have := congrArg List.length hpre; simp at this; omega
            obtain ⟨fn, tmps, assign, body, hy, hR⟩ := HY.out pre (x, true, false) V3 hJ3 hpl
            dsimp only [encM] at hy
            have HPR := Lib.hid hpre
            have HM := Lib.hid hmrg
            have HAL := Lib.hid hAV3
            clear hJ3 hpl hpre hmrg hAV3
            gi_wp2
            refine hR.mono ?_
            rintro en W3 ⟨rfl, hJ4, hk3⟩
            have hB1z := hk3.2.1 _ hB1V3
            have hB2z := hk3.2.2 _ hB2V3
            gi_wp2
            go_roundw
            case rel =>
              have t1 := s1.tail1 hc1
              have t2 := s2
              have e1 : n1 - 1 = xs.length := by rw [← hn1]; simp
              rw [e1] at t1 hB1z
              exact ⟨pre ++ [(x, true, false)], _, _, _, _, _, _, t1, t2, hB1z, hB2z, by rw [← HPR.out, HM.out]; simp, hJ4, (HAL.out.below hb hb.size hk1 hk2).trans hk3.1, by have := HAL.out.size; have := hk3.1.size; omega⟩
            case measure =>
              rw [boxLen_of hB1z, boxLen_of hB2z, boxLen_of hB1, boxLen_of hB2]
              omega
        have HH := Lib.hid HREG
        clear HREG hKR hmrg
        go_region
        exact HH.out _ wr.heap.size _ _ _ _ _ _ _ _ _ _ _ _ _ _ _ _ _ _ _ _ _ _ _ _ _ _ _ _ _ _ _ _ _ _ _ _ _ _ _ _ _ _ _ _ _ _ _ _ _ _ _ _ _ _ _ _ _ _ _ _ _ _ _ _ _ (later_trans (later_alloc wr _) (later_drew _)) (Nat.le_refl _) (box_new wr _ _)
      | cons y ys =>
        obtain ⟨_, _, e, g1, g2, g3, g4⟩ := s1.open
        cases e
        obtain ⟨b1, o1, rfl, hbb1, hc1⟩ := g4 (by simp)
        obtain ⟨_, _, e, g5, g6, g7, g8⟩ := s2.open
        cases e
        obtain ⟨b2, o2, rfl, hbb2, hc2⟩ := g8 (by simp)
        obtain ⟨x1, x2⟩ := hc1 0 (by simp)
        obtain ⟨y1, y2⟩ := hc2 0 (by simp)
        simp only [List.getElem_cons_zero, Nat.zero_mul, Nat.add_zero] at x1 x2 y1 y2
        replace x1 := ((bcell hb).1 b1 _ hbb1).trans x1
        replace x2 := ((bcell hb).1 b1 _ hbb1).trans x2
        replace y1 := ((bcell hb).1 b2 _ hbb2).trans y1
        replace y2 := ((bcell hb).1 b2 _ hbb2).trans y2
        obtain ⟨n1, hn1⟩ : ∃ n1, (x :: xs).length = n1 := ⟨_, rfl⟩
        obtain ⟨n2, hn2⟩ : ∃ n2, (y :: ys).length = n2 := ⟨_, rfl⟩
        have hp1 : 0 < n1 := by rw [← hn1]; simp
        have hp2 : 0 < n2 := by rw [← hn2]; simp
        have hnz1 : ((n1 : Int) == 0) = false := beq_eq_false_iff_ne.2 (by omega)
        have hnz2 : ((n2 : Int) == 0) = false := beq_eq_false_iff_ne.2 (by omega)
        rw [hn1] at k1 hB1 s1 g1
        rw [hn2] at k2 hB2 s2 g5
        have G1 := Lib.hid g1
        have G5 := Lib.hid g5
        clear g1 g5
        clear hc1 hc2 g3 g4 g7 g8
        rcases ahd_or x y with hA | hA | hA
        · have hmrg := mergeS_lt xs ys hA
          have hz1 : cmpP x y ≤ 0 := by unfold Ahd at hA; unfold cmpP or2 cmpI; split <;> (repeat' split at *) <;> omega
          have hz2 : ¬ cmpP y x ≤ 0 := by unfold Ahd at hA; unfold cmpP or2 cmpI; split <;> (repeat' split at *) <;> omega
          obtain ⟨cv1, hcv1⟩ : ∃ c, cmpP x y = c := ⟨_, rfl⟩
          obtain ⟨cv2, hcv2⟩ : ∃ c, cmpP y x = c := ⟨_, rfl⟩
          have HC1 := Lib.hid hcv1
          have HC2 := Lib.hid hcv2
          have hd1 : decide (cv1 ≤ 0) = true := by rw [← hcv1]; exact decide_eq_true hz1
          have hd2 : decide (cv2 ≤ 0) = false := by rw [← hcv2]; exact decide_eq_false hz2
          clear hcv1 hcv2 hz1 hz2
          clear hA
          gi_wp2
          refine wpIn_wide.2 ?_
          rename_i QR KR hKR
          have HREG : ∀ (V : World) (X4 : Nat) (s5 s6 s7 s8 s9 s10 s11 s12 s13 s14 s15 s16 s17 s18 s19 s20 s21 s22 s23 s24 s25 s26 s27 s28 s29 s30 s31 s32 s33 s34 s35 s36 s37 s38 s39 s40 s41 s42 s43 s44 s45 s46 s47 s48 s49 s50 s51 s52 s53 s54 s55 s56 s57 s58 s59 s60 s61 s62 s63 s64 s65 s66 s67 s68 s69 : Value), Below wr.heap.size wr V → wr.heap.size ≤ X4 → V.heap[X4]? = some (.cells #[.bool true, .bool false] 144 (0, 0)) →
              KR { tmps := #[.func (.yield l) #[] #[], .pointer (some ⟨K1, 0, none⟩), .pointer (some ⟨K2, 0, none⟩), undef, .pointer (some ⟨X4, 0, none⟩), s5, s6, s7, s8, s9, s10, s11, s12, s13, s14, s15, s16, s17, s18, s19, s20, s21, s22, s23, s24, s25, s26, s27, s28, s29, s30, s31, s32, s33, s34, s35, s36, s37, s38, s39, s40, s41, s42, s43, s44, s45, s46, s47, s48, s49, s50, s51, s52, s53, s54, s55, s56, s57, s58, s59, s60, s61, s62, s63, s64, s65, s66, s67, s68, s69], defers := [] } V := by
            intro V X4 s5 s6 s7 s8 s9 s10 s11 s12 s13 s14 s15 s16 s17 s18 s19 s20 s21 s22 s23 s24 s25 s26 s27 s28 s29 s30 s31 s32 s33 s34 s35 s36 s37 s38 s39 s40 s41 s42 s43 s44 s45 s46 s47 s48 s49 s50 s51 s52 s53 s54 s55 s56 s57 s58 s59 s60 s61 s62 s63 s64 s65 s66 s67 s68 s69 hV hX hX4
            refine hKR _ _ ?_
            clear hKR
            have hB1V := box_alloc ((hV.block _ hlt1).trans hB1) (.cells #[.int .u64 0, .int .u64 0] 59)
            have hB2V := box_alloc ((hV.block _ hlt2).trans hB2) (.cells #[.int .u64 0, .int .u64 0] 59)
            have hX4V := box_alloc hX4 (.cells #[.int .u64 0, .int .u64 0] 59)
            have hX5 := box_new V #[.int .u64 0, .int .u64 0] 59
            have hV2 := later_trans hV (later_alloc V (.cells #[.int .u64 0, .int .u64 0] 59))
            have hX4l := lt_of_block hX4
            obtain ⟨X5, hX5e⟩ : ∃ X, V.heap.size = X := ⟨_, rfl⟩
            have hX45 : X4 < X5 := by omega
            have hX5g : wr.heap.size ≤ X5 := by have := hV.size; omega
            obtain ⟨V2, hV2e⟩ : ∃ V2, V.alloc (.cells #[.int .u64 0, .int .u64 0] 59) = V2 := ⟨_, rfl⟩
            rw [hV2e] at hB1V hB2V hX4V hX5 hV2
            rw [hX5e] at hX5
            have q0 := box_cell (i := 0) hX4V
            have q1 := box_cell (i := 1) hX4V
            simp at q0 q1
            have hx4 := lt_of_block hX4V
            have hx5 := lt_of_block hX5
            have k1V := box_cell (i := 0) hB1V
            have k2V := box_cell (i := 0) hB2V
            have f1V := box_frozen (i := 0) hB1V
            have f2V := box_frozen (i := 0) hB2V
            have p0V := box_cell (i := 0) hX5
            have p1V := box_cell (i := 1) hX5
            have g0V := box_frozen (i := 0) hX5
            have g1V := box_frozen (i := 1) hX5
            simp at k1V k2V p0V p1V
            have hx1 := (cell_next hV2 x1)
            have hx2 := (cell_next hV2 x2)
            clear k1 k2 f1 f2 x1 x2 y1 y2
            have hA0 : Alt K1 K2 wr V2 := .of_below hV2
            have hKX1 : K1 < X5 := by omega
            have hKX2 : K2 < X5 := by omega
            have hKY1 : K1 < X4 := by omega
            have hKY2 : K2 < X4 := by omega
            have hB1V2 := hB1V
            have hB2V2 := hB2V
            have hX4V2 := hX4V
            have hX5V2 := hX5
            by_cases hc1 : c1 = 1
            · subst hc1
              gi_wp2
              refine wpIn_wide.2 ?_
              go_region
              obtain ⟨V3, hV3⟩ : ∃ V, (((V2.setCell ⟨X5, 0, none⟩ (.int .u64 x.a)).setCell ⟨X5, 1, none⟩ (.int .u64 x.b)).setCell ⟨K1, 0, none⟩ (.slice (some ⟨b1, o1, none⟩) (n1 - 1) 0)).drew = V := ⟨_, rfl⟩
              rw [hV3]
              have hB1V3 : V3.heap[K1]? = some (.cells #[.slice (some ⟨b1, o1, none⟩) (n1 - 1) 0] 57 (0, 0)) := by rw [← hV3]; exact box_set (i := 0) (box_other (i := 1) (box_other (i := 0) hB1V2 (by omega) _) (by omega) _) _
              have hB2V3 := heap3_other (u := .int .u64 x.a) (v := .int .u64 x.b) (z := .slice (some ⟨b1, o1, none⟩) (n1 - 1) 0) hB2V2 (show K2 ≠ X5 by omega) (show K2 ≠ K1 by omega)
              rw [hV3] at hB2V3
              have hX4V3 := heap3_other (u := .int .u64 x.a) (v := .int .u64 x.b) (z := .slice (some ⟨b1, o1, none⟩) (n1 - 1) 0) hX4V2 (show X4 ≠ X5 by omega) (show X4 ≠ K1 by omega)
              rw [hV3] at hX4V3
              have hX5V3 : V3.heap[X5]? = some (.cells #[.int .u64 x.a, .int .u64 x.b] 59 (0, 0)) := by rw [← hV3]; exact box_other (i := 0) (box_set (i := 1) (box_set (i := 0) hX5V2 _) _) (by omega) _
              have hAV3 : Alt K1 K2 wr V3 := by rw [← hV3]; exact (((hA0.setCell (.inl hX5g) _).setCell (.inl hX5g) _).setCell (.inr (.inl rfl)) _).drew
              clear hV3
              have q0V3 := box_cell (i := 0) hX4V3
              have q1V3 := box_cell (i := 1) hX4V3
              have k1V3 := box_cell (i := 0) hB1V3
              have k2V3 := box_cell (i := 0) hB2V3
              have p0V3 := box_cell (i := 0) hX5V3
              have p1V3 := box_cell (i := 1) hX5V3
              have f1V3 := box_frozen (i := 0) hB1V3
              have f2V3 := box_frozen (i := 0) hB2V3
              have g0V3 := box_frozen (i := 0) hX5V3
              have g1V3 := box_frozen (i := 1) hX5V3
              simp at q0V3 q1V3 k1V3 k2V3 p0V3 p1V3
              have lx4V3 := lt_of_block hX4V3
              have lx5V3 := lt_of_block hX5V3
              have lk1V3 := lt_of_block hB1V3
              have lk2V3 := lt_of_block hB2V3
              have hJ3 := abidesW_alt HJA.out hJ hAV3 hne hB1 hB2 hB1V3 hB2V3
              have hpl : pre.length < L1.length + L2.length + 1 := by have := congrArg List.length hpre; simp at this; omega
              obtain ⟨fn, tmps, assign, body, hy, hR⟩ := HY.out pre (x, true, false) V3 hJ3 hpl
              dsimp only [encM] at hy
              have HPR := Lib.hid hpre
              have HM := Lib.hid hmrg
              have HAL := Lib.hid hAV3
              clear hJ3 hpl hpre hmrg hAV3
              gi_wp2
              refine hR.mono ?_
              rintro en W3 ⟨rfl, hJ4, hk3⟩
              have hB1z := hk3.2.1 _ hB1V3
              have hB2z := hk3.2.2 _ hB2V3
              gi_wp2
              go_roundw
              case rel =>
                have t1 := s1.tail0 rfl
                have t2 := s2
                have e1 : n1 - 1 = xs.length := by rw [← hn1]; simp
                rw [e1] at t1 hB1z
                rw [← hn2] at t2 hB2z
                exact ⟨pre ++ [(x, true, false)], _, _, _, _, _, _, t1, t2, hB1z, hB2z, by rw [← HPR.out, HM.out]; simp, hJ4, (HAL.out.below hb hb.size hk1 hk2).trans hk3.1, by have := HAL.out.size; have := hk3.1.size; omega⟩
              case measure =>
                rw [boxLen_of hB1z, boxLen_of hB2z, boxLen_of hB1, boxLen_of hB2]
                omega
            · have hcs : 1 ≤ c1 := by have := G1.out; omega
              gi_wp2
              refine wpIn_wide.2 ?_
              go_region
              obtain ⟨V3, hV3⟩ : ∃ V, (((V2.setCell ⟨X5, 0, none⟩ (.int .u64 x.a)).setCell ⟨X5, 1, none⟩ (.int .u64 x.b)).setCell ⟨K1, 0, none⟩ (.slice (some ⟨b1, o1 + 2, none⟩) (n1 - 1) (c1 - 1))).drew = V := ⟨_, rfl⟩
              rw [hV3]
              have hB1V3 : V3.heap[K1]? = some (.cells #[.slice (some ⟨b1, o1 + 2, none⟩) (n1 - 1) (c1 - 1)] 57 (0, 0)) := by rw [← hV3]; exact box_set (i := 0) (box_other (i := 1) (box_other (i := 0) hB1V2 (by omega) _) (by omega) _) _
              have hB2V3 := heap3_other (u := .int .u64 x.a) (v := .int .u64 x.b) (z := .slice (some ⟨b1, o1 + 2, none⟩) (n1 - 1) (c1 - 1)) hB2V2 (show K2 ≠ X5 by omega) (show K2 ≠ K1 by omega)
              rw [hV3] at hB2V3
              have hX4V3 := heap3_other (u := .int .u64 x.a) (v := .int .u64 x.b) (z := .slice (some ⟨b1, o1 + 2, none⟩) (n1 - 1) (c1 - 1)) hX4V2 (show X4 ≠ X5 by omega) (show X4 ≠ K1 by omega)
              rw [hV3] at hX4V3
              have hX5V3 : V3.heap[X5]? = some (.cells #[.int .u64 x.a, .int .u64 x.b] 59 (0, 0)) := by rw [← hV3]; exact box_other (i := 0) (box_set (i := 1) (box_set (i := 0) hX5V2 _) _) (by omega) _
              have hAV3 : Alt K1 K2 wr V3 := by rw [← hV3]; exact (((hA0.setCell (.inl hX5g) _).setCell (.inl hX5g) _).setCell (.inr (.inl rfl)) _).drew
              clear hV3
              have q0V3 := box_cell (i := 0) hX4V3
              have q1V3 := box_cell (i := 1) hX4V3
              have k1V3 := box_cell (i := 0) hB1V3
              have k2V3 := box_cell (i := 0) hB2V3
              have p0V3 := box_cell (i := 0) hX5V3
              have p1V3 := box_cell (i := 1) hX5V3
              have f1V3 := box_frozen (i := 0) hB1V3
              have f2V3 := box_frozen (i := 0) hB2V3
              have g0V3 := box_frozen (i := 0) hX5V3
              have g1V3 := box_frozen (i := 1) hX5V3
              simp at q0V3 q1V3 k1V3 k2V3 p0V3 p1V3
              have lx4V3 := lt_of_block hX4V3
              have lx5V3 := lt_of_block hX5V3
              have lk1V3 := lt_of_block hB1V3
              have lk2V3 := lt_of_block hB2V3
              have hJ3 := abidesW_alt HJA.out hJ hAV3 hne hB1 hB2 hB1V3 hB2V3
              have hpl : pre.length < L1.length + L2.length + 1 := by have := congrArg List.length hpre; simp at this; omega
              obtain ⟨fn, tmps, assign, body, hy, hR⟩ := HY.out pre (x, true, false) V3 hJ3 hpl
              dsimp only [encM] at hy
              have HPR := Lib.hid hpre
              have HM := Lib.hid hmrg
              have HAL := Lib.hid hAV3
              clear hJ3 hpl hpre hmrg hAV3
              gi_wp2
              refine hR.mono ?_
              rintro en W3 ⟨rfl, hJ4, hk3⟩
              have hB1z := hk3.2.1 _ hB1V3
              have hB2z := hk3.2.2 _ hB2V3
              gi_wp2
              go_roundw
              case rel =>
                have t1 := s1.tail1 hc1
                have t2 := s2
                have e1 : n1 - 1 = xs.length := by rw [← hn1]; simp
                rw [e1] at t1 hB1z
                rw [← hn2] at t2 hB2z
                exact ⟨pre ++ [(x, true, false)], _, _, _, _, _, _, t1, t2, hB1z, hB2z, by rw [← HPR.out, HM.out]; simp, hJ4, (HAL.out.below hb hb.size hk1 hk2).trans hk3.1, by have := HAL.out.size; have := hk3.1.size; omega⟩
              case measure =>
                rw [boxLen_of hB1z, boxLen_of hB2z, boxLen_of hB1, boxLen_of hB2]
                omega
          have HH := Lib.hid HREG
          clear HREG hKR hmrg
          have hf6 : wr.cell? ⟨K1, 0, none⟩ = some (.slice (some ⟨b1, o1, none⟩) n1 c1) ∧ wr.cell? ⟨K2, 0, none⟩ = some (.slice (some ⟨b2, o2, none⟩) n2 c2) ∧ wr.cell? ⟨b1, o1, none⟩ = some (.int .u64 x.a) ∧ wr.cell? ⟨b1, o1 + 1, none⟩ = some (.int .u64 x.b) ∧ wr.cell? ⟨b2, o2, none⟩ = some (.int .u64 y.a) ∧ wr.cell? ⟨b2, o2 + 1, none⟩ = some (.int .u64 y.b) := ⟨k1, k2, x1, x2, y1, y2⟩
          go_region_held3 (fun W' => W'.cell? ⟨K1, 0, none⟩ = some (.slice (some ⟨b1, o1, none⟩) n1 c1) ∧ W'.cell? ⟨K2, 0, none⟩ = some (.slice (some ⟨b2, o2, none⟩) n2 c2) ∧ W'.cell? ⟨b1, o1, none⟩ = some (.int .u64 x.a) ∧ W'.cell? ⟨b1, o1 + 1, none⟩ = some (.int .u64 x.b) ∧ W'.cell? ⟨b2, o2, none⟩ = some (.int .u64 y.a) ∧ W'.cell? ⟨b2, o2 + 1, none⟩ = some (.int .u64 y.b))
            (first | exact hf6 | exact cells6_next hbC1 hf6 | exact cells6_next hbC2 hf6 | (refine cells6_next (W := wr) ?_ hf6; first | exact (Below.refl _ wr).alloc (Nat.le_refl _) _ | exact ((Below.refl _ wr).alloc (Nat.le_refl _) _).drew | exact Below.alloc hbC1 hbC1.size _ | exact Below.alloc hbC2 hbC2.size _ | exact (hbC1.setCell (by first | exact Nat.le_refl _ | exact hbC2.size) _).setCell (by first | exact Nat.le_refl _ | exact hbC2.size) _ | exact (hbC2.setCell (by first | exact Nat.le_refl _ | exact hbC1.size) _).setCell (by first | exact Nat.le_refl _ | exact hbC1.size) _) | assumption)
            (first
              | (go_at_call 111; have hq1 := hbC1; refine (cmpP_any y x _).mono ?_; rintro e wC2 ⟨rfl, hb'⟩; rw [HC2.out]; (first | (have hbC2 : Below wr.heap.size wr wC2 := later_trans hq1 hb') | (have hbC2 : Below wr.heap.size wr wC2 := later_trans (later_trans hq1 (later_alloc _ _)) hb')); (first | (have bx2 := (hb'.block _ (lt_of_block (bx1))).trans (bx1); have zz0 := box_cell (i := 0) bx2; have zz1 := box_cell (i := 1) bx2; simp at zz0 zz1; have m0 := box_frozen (i := 0) bx2; have m1 := box_frozen (i := 1) bx2) | (have bx2 := (hb'.block _ (lt_of_block (box_new wC1 #[.bool false, .bool false] 144))).trans (box_new wC1 #[.bool false, .bool false] 144); have zz0 := box_cell (i := 0) bx2; have zz1 := box_cell (i := 1) bx2; simp at zz0 zz1; have m0 := box_frozen (i := 0) bx2; have m1 := box_frozen (i := 1) bx2) | skip))
              | (go_at_call 111; refine (cmpP_any x y _).mono ?_; rintro e wC1 ⟨rfl, hb'⟩; rw [HC1.out]; (first | (have hbC1 : Below wr.heap.size wr wC1 := later_trans (later_drew wr) hb') | ((have hbC1 : Below wr.heap.size wr wC1 := later_trans (later_trans (later_alloc wr _) (later_drew _)) hb'); (have bx1 := (hb'.block _ (lt_of_block (box_new wr #[.bool false, .bool false] 144))).trans (box_new wr #[.bool false, .bool false] 144); have zz0 := box_cell (i := 0) bx1; have zz1 := box_cell (i := 1) bx1; simp at zz0 zz1; have m0 := box_frozen (i := 0) bx1; have m1 := box_frozen (i := 1) bx1)))))
          · exact HH.out _ wC2.heap.size _ _ _ _ _ _ _ _ _ _ _ _ _ _ _ _ _ _ _ _ _ _ _ _ _ _ _ _ _ _ _ _ _ _ _ _ _ _ _ _ _ _ _ _ _ _ _ _ _ _ _ _ _ _ _ _ _ _ _ _ _ _ _ _ _ (Below.alloc hbC2 hbC2.size _) hbC2.size (box_new wC2 _ _)
          · exact HH.out _ wC1.heap.size _ _ _ _ _ _ _ _ _ _ _ _ _ _ _ _ _ _ _ _ _ _ _ _ _ _ _ _ _ _ _ _ _ _ _ _ _ _ _ _ _ _ _ _ _ _ _ _ _ _ _ _ _ _ _ _ _ _ _ _ _ _ _ _ _ ((hbC2.setCell (p := ⟨wC1.heap.size, 0, none⟩) hbC1.size _).setCell (p := ⟨wC1.heap.size, 1, none⟩) hbC1.size _) hbC1.size (box_set (i := 1) (box_set (i := 0) bx2 (.bool true)) (.bool false))
          · exact HH.out _ wr.heap.size _ _ _ _ _ _ _ _ _ _ _ _ _ _ _ _ _ _ _ _ _ _ _ _ _ _ _ _ _ _ _ _ _ _ _ _ _ _ _ _ _ _ _ _ _ _ _ _ _ _ _ _ _ _ _ _ _ _ _ _ _ _ _ _ _ ((hbC2.setCell (p := ⟨wr.heap.size, 0, none⟩) (Nat.le_refl _) _).setCell (p := ⟨wr.heap.size, 1, none⟩) (Nat.le_refl _) _) (Nat.le_refl _) (box_set (i := 1) (box_set (i := 0) bx2 (.bool true)) (.bool false))
        · have hmrg := (show mergeS (x :: xs) (y :: ys) = (x, true, true) :: mergeS xs ys from by subst hA; exact mergeS_eq x xs ys)
          have hAx := congrArg Pr.a hA
          have hAy := congrArg Pr.b hA
          replace hA := And.intro hAx hAy
          have hz1 : cmpP x y ≤ 0 := by unfold Ahd at hA; unfold cmpP or2 cmpI; split <;> (repeat' split at *) <;> omega
          have hz2 : cmpP y x ≤ 0 := by unfold Ahd at hA; unfold cmpP or2 cmpI; split <;> (repeat' split at *) <;> omega
          obtain ⟨cv1, hcv1⟩ : ∃ c, cmpP x y = c := ⟨_, rfl⟩
          obtain ⟨cv2, hcv2⟩ : ∃ c, cmpP y x = c := ⟨_, rfl⟩
          have HC1 := Lib.hid hcv1
          have HC2 := Lib.hid hcv2
          have hd1 : decide (cv1 ≤ 0) = true := by rw [← hcv1]; exact decide_eq_true hz1
          have hd2 : decide (cv2 ≤ 0) = true := by rw [← hcv2]; exact decide_eq_true hz2
          clear hcv1 hcv2 hz1 hz2
          clear hA hAx hAy
          gi_wp2
          refine wpIn_wide.2 ?_
          rename_i QR KR hKR
          have HREG : ∀ (V : World) (X4 : Nat) (s5 s6 s7 s8 s9 s10 s11 s12 s13 s14 s15 s16 s17 s18 s19 s20 s21 s22 s23 s24 s25 s26 s27 s28 s29 s30 s31 s32 s33 s34 s35 s36 s37 s38 s39 s40 s41 s42 s43 s44 s45 s46 s47 s48 s49 s50 s51 s52 s53 s54 s55 s56 s57 s58 s59 s60 s61 s62 s63 s64 s65 s66 s67 s68 s69 : Value), Below wr.heap.size wr V → wr.heap.size ≤ X4 → V.heap[X4]? = some (.cells #[.bool true, .bool true] 144 (0, 0)) →
              KR { tmps := #[.func (.yield l) #[] #[], .pointer (some ⟨K1, 0, none⟩), .pointer (some ⟨K2, 0, none⟩), undef, .pointer (some ⟨X4, 0, none⟩), s5, s6, s7, s8, s9, s10, s11, s12, s13, s14, s15, s16, s17, s18, s19, s20, s21, s22, s23, s24, s25, s26, s27, s28, s29, s30, s31, s32, s33, s34, s35, s36, s37, s38, s39, s40, s41, s42, s43, s44, s45, s46, s47, s48, s49, s50, s51, s52, s53, s54, s55, s56, s57, s58, s59, s60, s61, s62, s63, s64, s65, s66, s67, s68, s69], defers := [] } V := by
            intro V X4 s5 s6 s7 s8 s9 s10 s11 s12 s13 s14 s15 s16 s17 s18 s19 s20 s21 s22 s23 s24 s25 s26 s27 s28 s29 s30 s31 s32 s33 s34 s35 s36 s37 s38 s39 s40 s41 s42 s43 s44 s45 s46 s47 s48 s49 s50 s51 s52 s53 s54 s55 s56 s57 s58 s59 s60 s61 s62 s63 s64 s65 s66 s67 s68 s69 hV hX hX4
            refine hKR _ _ ?_
            clear hKR
            have hB1V := box_alloc ((hV.block _ hlt1).trans hB1) (.cells #[.int .u64 0, .int .u64 0] 59)
            have hB2V := box_alloc ((hV.block _ hlt2).trans hB2) (.cells #[.int .u64 0, .int .u64 0] 59)
            have hX4V := box_alloc hX4 (.cells #[.int .u64 0, .int .u64 0] 59)
            have hX5 := box_new V #[.int .u64 0, .int .u64 0] 59
            have hV2 := later_trans hV (later_alloc V (.cells #[.int .u64 0, .int .u64 0] 59))
            have hX4l := lt_of_block hX4
            obtain ⟨X5, hX5e⟩ : ∃ X, V.heap.size = X := ⟨_, rfl⟩
            have hX45 : X4 < X5 := by omega
            have hX5g : wr.heap.size ≤ X5 := by have := hV.size; omega
            obtain ⟨V2, hV2e⟩ : ∃ V2, V.alloc (.cells #[.int .u64 0, .int .u64 0] 59) = V2 := ⟨_, rfl⟩
            rw [hV2e] at hB1V hB2V hX4V hX5 hV2
            rw [hX5e] at hX5
            have q0 := box_cell (i := 0) hX4V
            have q1 := box_cell (i := 1) hX4V
            simp at q0 q1
            have hx4 := lt_of_block hX4V
            have hx5 := lt_of_block hX5
            have k1V := box_cell (i := 0) hB1V
            have k2V := box_cell (i := 0) hB2V
            have f1V := box_frozen (i := 0) hB1V
            have f2V := box_frozen (i := 0) hB2V
            have p0V := box_cell (i := 0) hX5
            have p1V := box_cell (i := 1) hX5
            have g0V := box_frozen (i := 0) hX5
            have g1V := box_frozen (i := 1) hX5
            simp at k1V k2V p0V p1V
            have hx1 := (cell_next hV2 x1)
            have hx2 := (cell_next hV2 x2)
            have hy1 := (cell_next hV2 y1)
            have hy2 := (cell_next hV2 y2)
            have HXA := Lib.hid x1
            have HXB := Lib.hid x2
            clear k1 k2 f1 f2 x1 x2 y1 y2
            have hA0 : Alt K1 K2 wr V2 := .of_below hV2
            have hKX1 : K1 < X5 := by omega
            have hKX2 : K2 < X5 := by omega
            have hKY1 : K1 < X4 := by omega
            have hKY2 : K2 < X4 := by omega
            have hB1V2 := hB1V
            have hB2V2 := hB2V
            have hX4V2 := hX4V
            have hX5V2 := hX5
            by_cases hc2 : c2 = 1
            · subst hc2
              gi_wp2
              refine wpIn_wide.2 ?_
              go_region
              obtain ⟨V3, hV3⟩ : ∃ V, (((V2.setCell ⟨X5, 0, none⟩ (.int .u64 y.a)).setCell ⟨X5, 1, none⟩ (.int .u64 y.b)).setCell ⟨K2, 0, none⟩ (.slice (some ⟨b2, o2, none⟩) (n2 - 1) 0)).drew = V := ⟨_, rfl⟩
              rw [hV3]
              have hB2V3 : V3.heap[K2]? = some (.cells #[.slice (some ⟨b2, o2, none⟩) (n2 - 1) 0] 57 (0, 0)) := by rw [← hV3]; exact box_set (i := 0) (box_other (i := 1) (box_other (i := 0) hB2V2 (by omega) _) (by omega) _) _
              have hB1V3 := heap3_other (u := .int .u64 y.a) (v := .int .u64 y.b) (z := .slice (some ⟨b2, o2, none⟩) (n2 - 1) 0) hB1V2 (show K1 ≠ X5 by omega) (show K1 ≠ K2 by omega)
              rw [hV3] at hB1V3
              have hX4V3 := heap3_other (u := .int .u64 y.a) (v := .int .u64 y.b) (z := .slice (some ⟨b2, o2, none⟩) (n2 - 1) 0) hX4V2 (show X4 ≠ X5 by omega) (show X4 ≠ K2 by omega)
              rw [hV3] at hX4V3
              have hX5V3 : V3.heap[X5]? = some (.cells #[.int .u64 y.a, .int .u64 y.b] 59 (0, 0)) := by rw [← hV3]; exact box_other (i := 0) (box_set (i := 1) (box_set (i := 0) hX5V2 _) _) (by omega) _
              have hAV3 : Alt K1 K2 wr V3 := by rw [← hV3]; exact (((hA0.setCell (.inl hX5g) _).setCell (.inl hX5g) _).setCell (.inr (.inr rfl)) _).drew
              clear hV3
              have q0V3 := box_cell (i := 0) hX4V3
              have q1V3 := box_cell (i := 1) hX4V3
              have k1V3 := box_cell (i := 0) hB1V3
              have k2V3 := box_cell (i := 0) hB2V3
              have p0V3 := box_cell (i := 0) hX5V3
              have p1V3 := box_cell (i := 1) hX5V3
              have f1V3 := box_frozen (i := 0) hB1V3
              have f2V3 := box_frozen (i := 0) hB2V3
              have g0V3 := box_frozen (i := 0) hX5V3
              have g1V3 := box_frozen (i := 1) hX5V3
              simp at q0V3 q1V3 k1V3 k2V3 p0V3 p1V3
              have lx4V3 := lt_of_block hX4V3
              have lx5V3 := lt_of_block hX5V3
              have lk1V3 := lt_of_block hB1V3
              have lk2V3 := lt_of_block hB2V3
              have hx1b := cell_alt hAV3 (show b1 ≠ K1 by omega) (show b1 ≠ K2 by omega) HXA.out
              have hx2b := cell_alt hAV3 (show b1 ≠ K1 by omega) (show b1 ≠ K2 by omega) HXB.out
              by_cases hc1 : c1 = 1
              · subst hc1
                gi_wp2
                refine wpIn_wide.2 ?_
                go_region
                obtain ⟨V4, hV4⟩ : ∃ V, (((V3.setCell ⟨X5, 0, none⟩ (.int .u64 x.a)).setCell ⟨X5, 1, none⟩ (.int .u64 x.b)).setCell ⟨K1, 0, none⟩ (.slice (some ⟨b1, o1, none⟩) (n1 - 1) 0)).drew = V := ⟨_, rfl⟩
                rw [hV4]
                have hB1V4 : V4.heap[K1]? = some (.cells #[.slice (some ⟨b1, o1, none⟩) (n1 - 1) 0] 57 (0, 0)) := by rw [← hV4]; exact box_set (i := 0) (box_other (i := 1) (box_other (i := 0) hB1V3 (by omega) _) (by omega) _) _
                have hB2V4 := heap3_other (u := .int .u64 x.a) (v := .int .u64 x.b) (z := .slice (some ⟨b1, o1, none⟩) (n1 - 1) 0) hB2V3 (show K2 ≠ X5 by omega) (show K2 ≠ K1 by omega)
                rw [hV4] at hB2V4
                have hX4V4 := heap3_other (u := .int .u64 x.a) (v := .int .u64 x.b) (z := .slice (some ⟨b1, o1, none⟩) (n1 - 1) 0) hX4V3 (show X4 ≠ X5 by omega) (show X4 ≠ K1 by omega)
                rw [hV4] at hX4V4
                have hX5V4 : V4.heap[X5]? = some (.cells #[.int .u64 x.a, .int .u64 x.b] 59 (0, 0)) := by rw [← hV4]; exact box_other (i := 0) (box_set (i := 1) (box_set (i := 0) hX5V3 _) _) (by omega) _
                have hAV4 : Alt K1 K2 wr V4 := by rw [← hV4]; exact (((hAV3.setCell (.inl hX5g) _).setCell (.inl hX5g) _).setCell (.inr (.inl rfl)) _).drew
                clear hV4
                have q0V4 := box_cell (i := 0) hX4V4
                have q1V4 := box_cell (i := 1) hX4V4
                have k1V4 := box_cell (i := 0) hB1V4
                have k2V4 := box_cell (i := 0) hB2V4
                have p0V4 := box_cell (i := 0) hX5V4
                have p1V4 := box_cell (i := 1) hX5V4
                have f1V4 := box_frozen (i := 0) hB1V4
                have f2V4 := box_frozen (i := 0) hB2V4
                have g0V4 := box_frozen (i := 0) hX5V4
                have g1V4 := box_frozen (i := 1) hX5V4
                simp at q0V4 q1V4 k1V4 k2V4 p0V4 p1V4
                have lx4V4 := lt_of_block hX4V4
                have lx5V4 := lt_of_block hX5V4
                have lk1V4 := lt_of_block hB1V4
                have lk2V4 := lt_of_block hB2V4
                have hJ3 := abidesW_alt HJA.out hJ hAV4 hne hB1 hB2 hB1V4 hB2V4
                have hpl : pre.length < L1.length + L2.length + 1 := by have := congrArg List.length hpre; simp at this; omega
                obtain ⟨fn, tmps, assign, body, hy, hR⟩ := HY.out pre (x, true, true) V4 hJ3 hpl
                dsimp only [encM] at hy
                have HPR := Lib.hid hpre
                have HM := Lib.hid hmrg
                have HAL := Lib.hid hAV4
                clear hJ3 hpl hpre hmrg hAV4
                gi_wp2
                refine hR.mono ?_
                rintro en W3 ⟨rfl, hJ4, hk3⟩
                have hB1z := hk3.2.1 _ hB1V4
                have hB2z := hk3.2.2 _ hB2V4
                gi_wp2
                go_roundw
                case rel =>
                  have t1 := s1.tail0 rfl
                  have t2 := s2.tail0 rfl
                  have e1 : n1 - 1 = xs.length := by rw [← hn1]; simp
                  rw [e1] at t1 hB1z
                  have e2 : n2 - 1 = ys.length := by rw [← hn2]; simp
                  rw [e2] at t2 hB2z
                  exact ⟨pre ++ [(x, true, true)], _, _, _, _, _, _, t1, t2, hB1z, hB2z, by rw [← HPR.out, HM.out]; simp, hJ4, (HAL.out.below hb hb.size hk1 hk2).trans hk3.1, by have := HAL.out.size; have := hk3.1.size; omega⟩
                case measure =>
                  rw [boxLen_of hB1z, boxLen_of hB2z, boxLen_of hB1, boxLen_of hB2]
                  omega
              · have hcs1 : 1 ≤ c1 := by have := G1.out; omega
                gi_wp2
                refine wpIn_wide.2 ?_
                go_region
                obtain ⟨V4, hV4⟩ : ∃ V, (((V3.setCell ⟨X5, 0, none⟩ (.int .u64 x.a)).setCell ⟨X5, 1, none⟩ (.int .u64 x.b)).setCell ⟨K1, 0, none⟩ (.slice (some ⟨b1, o1 + 2, none⟩) (n1 - 1) (c1 - 1))).drew = V := ⟨_, rfl⟩
                rw [hV4]
                have hB1V4 : V4.heap[K1]? = some (.cells #[.slice (some ⟨b1, o1 + 2, none⟩) (n1 - 1) (c1 - 1)] 57 (0, 0)) := by rw [← hV4]; exact box_set (i := 0) (box_other (i := 1) (box_other (i := 0) hB1V3 (by omega) _) (by omega) _) _
                have hB2V4 := heap3_other (u := .int .u64 x.a) (v := .int .u64 x.b) (z := .slice (some ⟨b1, o1 + 2, none⟩) (n1 - 1) (c1 - 1)) hB2V3 (show K2 ≠ X5 by omega) (show K2 ≠ K1 by omega)
                rw [hV4] at hB2V4
                have hX4V4 := heap3_other (u := .int .u64 x.a) (v := .int .u64 x.b) (z := .slice (some ⟨b1, o1 + 2, none⟩) (n1 - 1) (c1 - 1)) hX4V3 (show X4 ≠ X5 by omega) (show X4 ≠ K1 by omega)
                rw [hV4] at hX4V4
                have hX5V4 : V4.heap[X5]? = some (.cells #[.int .u64 x.a, .int .u64 x.b] 59 (0, 0)) := by rw [← hV4]; exact box_other (i := 0) (box_set (i := 1) (box_set (i := 0) hX5V3 _) _) (by omega) _
                have hAV4 : Alt K1 K2 wr V4 := by rw [← hV4]; exact (((hAV3.setCell (.inl hX5g) _).setCell (.inl hX5g) _).setCell (.inr (.inl rfl)) _).drew
                clear hV4
                have q0V4 := box_cell (i := 0) hX4V4
                have q1V4 := box_cell (i := 1) hX4V4
                have k1V4 := box_cell (i := 0) hB1V4
                have k2V4 := box_cell (i := 0) hB2V4
                have p0V4 := box_cell (i := 0) hX5V4
                have p1V4 := box_cell (i := 1) hX5V4
                have f1V4 := box_frozen (i := 0) hB1V4
                have f2V4 := box_frozen (i := 0) hB2V4
                have g0V4 := box_frozen (i := 0) hX5V4
                have g1V4 := box_frozen (i := 1) hX5V4
                simp at q0V4 q1V4 k1V4 k2V4 p0V4 p1V4
                have lx4V4 := lt_of_block hX4V4
                have lx5V4 := lt_of_block hX5V4
                have lk1V4 := lt_of_block hB1V4
                have lk2V4 := lt_of_block hB2V4
                have hJ3 := abidesW_alt HJA.out hJ hAV4 hne hB1 hB2 hB1V4 hB2V4
                have hpl : pre.length < L1.length + L2.length + 1 := by have := congrArg List.length hpre; simp at this; omega
                obtain ⟨fn, tmps, assign, body, hy, hR⟩ := HY.out pre (x, true, true) V4 hJ3 hpl
                dsimp only [encM] at hy
                have HPR := Lib.hid hpre
                have HM := Lib.hid hmrg
                have HAL := Lib.hid hAV4
                clear hJ3 hpl hpre hmrg hAV4
                gi_wp2
                refine hR.mono ?_
                rintro en W3 ⟨rfl, hJ4, hk3⟩
                have hB1z := hk3.2.1 _ hB1V4
                have hB2z := hk3.2.2 _ hB2V4
                gi_wp2
                go_roundw
                case rel =>
                  have t1 := s1.tail1 hc1
                  have t2 := s2.tail0 rfl
                  have e1 : n1 - 1 = xs.length := by rw [← hn1]; simp
                  rw [e1] at t1 hB1z
                  have e2 : n2 - 1 = ys.length := by rw [← hn2]; simp
                  rw [e2] at t2 hB2z
                  exact ⟨pre ++ [(x, true, true)], _, _, _, _, _, _, t1, t2, hB1z, hB2z, by rw [← HPR.out, HM.out]; simp, hJ4, (HAL.out.below hb hb.size hk1 hk2).trans hk3.1, by have := HAL.out.size; have := hk3.1.size; omega⟩
                case measure =>
                  rw [boxLen_of hB1z, boxLen_of hB2z, boxLen_of hB1, boxLen_of hB2]
                  omega
            · have hcs2 : 1 ≤ c2 := by have := G5.out; omega
              gi_wp2
              refine wpIn_wide.2 ?_
              go_region
              obtain ⟨V3, hV3⟩ : ∃ V, (((V2.setCell ⟨X5, 0, none⟩ (.int .u64 y.a)).setCell ⟨X5, 1, none⟩ (.int .u64 y.b)).setCell ⟨K2, 0, none⟩ (.slice (some ⟨b2, o2 + 2, none⟩) (n2 - 1) (c2 - 1))).drew = V := ⟨_, rfl⟩
              rw [hV3]
              have hB2V3 : V3.heap[K2]? = some (.cells #[.slice (some ⟨b2, o2 + 2, none⟩) (n2 - 1) (c2 - 1)] 57 (0, 0)) := by rw [← hV3]; exact box_set (i := 0) (box_other (i := 1) (box_other (i := 0) hB2V2 (by omega) _) (by omega) _) _
              have hB1V3 := heap3_other (u := .int .u64 y.a) (v := .int .u64 y.b) (z := .slice (some ⟨b2, o2 + 2, none⟩) (n2 - 1) (c2 - 1)) hB1V2 (show K1 ≠ X5 by omega) (show K1 ≠ K2 by omega)
              rw [hV3] at hB1V3
              have hX4V3 := heap3_other (u := .int .u64 y.a) (v := .int .u64 y.b) (z := .slice (some ⟨b2, o2 + 2, none⟩) (n2 - 1) (c2 - 1)) hX4V2 (show X4 ≠ X5 by omega) (show X4 ≠ K2 by omega)
              rw [hV3] at hX4V3
              have hX5V3 : V3.heap[X5]? = some (.cells #[.int .u64 y.a, .int .u64 y.b] 59 (0, 0)) := by rw [← hV3]; exact box_other (i := 0) (box_set (i := 1) (box_set (i := 0) hX5V2 _) _) (by omega) _
              have hAV3 : Alt K1 K2 wr V3 := by rw [← hV3]; exact (((hA0.setCell (.inl hX5g) _).setCell (.inl hX5g) _).setCell (.inr (.inr rfl)) _).drew
              clear hV3
              have q0V3 := box_cell (i := 0) hX4V3
              have q1V3 := box_cell (i := 1) hX4V3
              have k1V3 := box_cell (i := 0) hB1V3
              have k2V3 := box_cell (i := 0) hB2V3
              have p0V3 := box_cell (i := 0) hX5V3
              have p1V3 := box_cell (i := 1) hX5V3
              have f1V3 := box_frozen (i := 0) hB1V3
              have f2V3 := box_frozen (i := 0) hB2V3
              have g0V3 := box_frozen (i := 0) hX5V3
              have g1V3 := box_frozen (i := 1) hX5V3
              simp at q0V3 q1V3 k1V3 k2V3 p0V3 p1V3
              have lx4V3 := lt_of_block hX4V3
              have lx5V3 := lt_of_block hX5V3
              have lk1V3 := lt_of_block hB1V3
              have lk2V3 := lt_of_block hB2V3
              have hx1b := cell_alt hAV3 (show b1 ≠ K1 by omega) (show b1 ≠ K2 by omega) HXA.out
              have hx2b := cell_alt hAV3 (show b1 ≠ K1 by omega) (show b1 ≠ K2 by omega) HXB.out
              by_cases hc1 : c1 = 1
              · subst hc1
                gi_wp2
                refine wpIn_wide.2 ?_
                go_region
                obtain ⟨V4, hV4⟩ : ∃ V, (((V3.setCell ⟨X5, 0, none⟩ (.int .u64 x.a)).setCell ⟨X5, 1, none⟩ (.int .u64 x.b)).setCell ⟨K1, 0, none⟩ (.slice (some ⟨b1, o1, none⟩) (n1 - 1) 0)).drew = V := ⟨_, rfl⟩
                rw [hV4]
                have hB1V4 : V4.heap[K1]? = some (.cells #[.slice (some ⟨b1, o1, none⟩) (n1 - 1) 0] 57 (0, 0)) := by rw [← hV4]; exact box_set (i := 0) (box_other (i := 1) (box_other (i := 0) hB1V3 (by omega) _) (by omega) _) _
                have hB2V4 := heap3_other (u := .int .u64 x.a) (v := .int .u64 x.b) (z := .slice (some ⟨b1, o1, none⟩) (n1 - 1) 0) hB2V3 (show K2 ≠ X5 by omega) (show K2 ≠ K1 by omega)
                rw [hV4] at hB2V4
                have hX4V4 := heap3_other (u := .int .u64 x.a) (v := .int .u64 x.b) (z := .slice (some ⟨b1, o1, none⟩) (n1 - 1) 0) hX4V3 (show X4 ≠ X5 by omega) (show X4 ≠ K1 by omega)
                rw [hV4] at hX4V4
                have hX5V4 : V4.heap[X5]? = some (.cells #[.int .u64 x.a, .int .u64 x.b] 59 (0, 0)) := by rw [← hV4]; exact box_other (i := 0) (box_set (i := 1) (box_set (i := 0) hX5V3 _) _) (by omega) _
                have hAV4 : Alt K1 K2 wr V4 := by rw [← hV4]; exact (((hAV3.setCell (.inl hX5g) _).setCell (.inl hX5g) _).setCell (.inr (.inl rfl)) _).drew
                clear hV4
                have q0V4 := box_cell (i := 0) hX4V4
                have q1V4 := box_cell (i := 1) hX4V4
                have k1V4 := box_cell (i := 0) hB1V4
                have k2V4 := box_cell (i := 0) hB2V4
                have p0V4 := box_cell (i := 0) hX5V4
                have p1V4 := box_cell (i := 1) hX5V4
                have f1V4 := box_frozen (i := 0) hB1V4
                have f2V4 := box_frozen (i := 0) hB2V4
                have g0V4 := box_frozen (i := 0) hX5V4
                have g1V4 := box_frozen (i := 1) hX5V4
                simp at q0V4 q1V4 k1V4 k2V4 p0V4 p1V4
                have lx4V4 := lt_of_block hX4V4
                have lx5V4 := lt_of_block hX5V4
                have lk1V4 := lt_of_block hB1V4
                have lk2V4 := lt_of_block hB2V4
                have hJ3 := abidesW_alt HJA.out hJ hAV4 hne hB1 hB2 hB1V4 hB2V4
                have hpl : pre.length < L1.length + L2.length + 1 := by have := congrArg List.length hpre; simp at this; omega
                obtain ⟨fn, tmps, assign, body, hy, hR⟩ := HY.out pre (x, true, true) V4 hJ3 hpl
                dsimp only [encM] at hy
                have HPR := Lib.hid hpre
                have HM := Lib.hid hmrg
                have HAL := Lib.hid hAV4
                clear hJ3 hpl hpre hmrg hAV4
                gi_wp2
                refine hR.mono ?_
                rintro en W3 ⟨rfl, hJ4, hk3⟩
                have hB1z := hk3.2.1 _ hB1V4
                have hB2z := hk3.2.2 _ hB2V4
                gi_wp2
                go_roundw
                case rel =>
                  have t1 := s1.tail0 rfl
                  have t2 := s2.tail1 hc2
                  have e1 : n1 - 1 = xs.length := by rw [← hn1]; simp
                  rw [e1] at t1 hB1z
                  have e2 : n2 - 1 = ys.length := by rw [← hn2]; simp
                  rw [e2] at t2 hB2z
                  exact ⟨pre ++ [(x, true, true)], _, _, _, _, _, _, t1, t2, hB1z, hB2z, by rw [← HPR.out, HM.out]; simp, hJ4, (HAL.out.below hb hb.size hk1 hk2).trans hk3.1, by have := HAL.out.size; have := hk3.1.size; omega⟩
                case measure =>
                  rw [boxLen_of hB1z, boxLen_of hB2z, boxLen_of hB1, boxLen_of hB2]
                  omega
              · have hcs1 : 1 ≤ c1 := by have := G1.out; omega
                gi_wp2
                refine wpIn_wide.2 ?_
                go_region
                obtain ⟨V4, hV4⟩ : ∃ V, (((V3.setCell ⟨X5, 0, none⟩ (.int .u64 x.a)).setCell ⟨X5, 1, none⟩ (.int .u64 x.b)).setCell ⟨K1, 0, none⟩ (.slice (some ⟨b1, o1 + 2, none⟩) (n1 - 1) (c1 - 1))).drew = V := ⟨_, rfl⟩
                rw [hV4]
                have hB1V4 : V4.heap[K1]? = some (.cells #[.slice (some ⟨b1, o1 + 2, none⟩) (n1 - 1) (c1 - 1)] 57 (0, 0)) := by rw [← hV4]; exact box_set (i := 0) (box_other (i := 1) (box_other (i := 0) hB1V3 (by omega) _) (by omega) _) _
                have hB2V4 := heap3_other (u := .int .u64 x.a) (v := .int .u64 x.b) (z := .slice (some ⟨b1, o1 + 2, none⟩) (n1 - 1) (c1 - 1)) hB2V3 (show K2 ≠ X5 by omega) (show K2 ≠ K1 by omega)
                rw [hV4] at hB2V4
                have hX4V4 := heap3_other (u := .int .u64 x.a) (v := .int .u64 x.b) (z := .slice (some ⟨b1, o1 + 2, none⟩) (n1 - 1) (c1 - 1)) hX4V3 (show X4 ≠ X5 by omega) (show X4 ≠ K1 by omega)
                rw [hV4] at hX4V4
                have hX5V4 : V4.heap[X5]? = some (.cells #[.int .u64 x.a, .int .u64 x.b] 59 (0, 0)) := by rw [← hV4]; exact box_other (i := 0) (box_set (i := 1) (box_set (i := 0) hX5V3 _) _) (by omega) _
                have hAV4 : Alt K1 K2 wr V4 := by rw [← hV4]; exact (((hAV3.setCell (.inl hX5g) _).setCell (.inl hX5g) _).setCell (.inr (.inl rfl)) _).drew
                clear hV4
                have q0V4 := box_cell (i := 0) hX4V4
                have q1V4 := box_cell (i := 1) hX4V4
                have k1V4 := box_cell (i := 0) hB1V4
                have k2V4 := box_cell (i := 0) hB2V4
                have p0V4 := box_cell (i := 0) hX5V4
                have p1V4 := box_cell (i := 1) hX5V4
                have f1V4 := box_frozen (i := 0) hB1V4
                have f2V4 := box_frozen (i := 0) hB2V4
                have g0V4 := box_frozen (i := 0) hX5V4
                have g1V4 := box_frozen (i := 1) hX5V4
                simp at q0V4 q1V4 k1V4 k2V4 p0V4 p1V4
                have lx4V4 := lt_of_block hX4V4
                have lx5V4 := lt_of_block hX5V4
                have lk1V4 := lt_of_block hB1V4
                have lk2V4 := lt_of_block hB2V4
                have hJ3 := abidesW_alt HJA.out hJ hAV4 hne hB1 hB2 hB1V4 hB2V4
                have hpl : pre.length < L1.length + L2.length + 1 := by have := congrArg List.length hpre; simp at this; omega
                obtain ⟨fn, tmps, assign, body, hy, hR⟩ := HY.out pre (x, true, true) V4 hJ3 hpl
                dsimp only [encM] at hy
                have HPR := Lib.hid hpre
                have HM := Lib.hid hmrg
                have HAL := Lib.hid hAV4
                clear hJ3 hpl hpre hmrg hAV4
                gi_wp2
                refine hR.mono ?_
                rintro en W3 ⟨rfl, hJ4, hk3⟩
                have hB1z := hk3.2.1 _ hB1V4
                have hB2z := hk3.2.2 _ hB2V4
                gi_wp2
                go_roundw
                case rel =>
                  have t1 := s1.tail1 hc1
                  have t2 := s2.tail1 hc2
                  have e1 : n1 - 1 = xs.length := by rw [← hn1]; simp
                  rw [e1] at t1 hB1z
                  have e2 : n2 - 1 = ys.length := by rw [← hn2]; simp
                  rw [e2] at t2 hB2z
                  exact ⟨pre ++ [(x, true, true)], _, _, _, _, _, _, t1, t2, hB1z, hB2z, by rw [← HPR.out, HM.out]; simp, hJ4, (HAL.out.below hb hb.size hk1 hk2).trans hk3.1, by have := HAL.out.size; have := hk3.1.size; omega⟩
                case measure =>
                  rw [boxLen_of hB1z, boxLen_of hB2z, boxLen_of hB1, boxLen_of hB2]
                  omega
          have HH := Lib.hid HREG
          clear HREG hKR hmrg
          have hf6 : wr.cell? ⟨K1, 0, none⟩ = some (.slice (some ⟨b1, o1, none⟩) n1 c1) ∧ wr.cell? ⟨K2, 0, none⟩ = some (.slice (some ⟨b2, o2, none⟩) n2 c2) ∧ wr.cell? ⟨b1, o1, none⟩ = some (.int .u64 x.a) ∧ wr.cell? ⟨b1, o1 + 1, none⟩ = some (.int .u64 x.b) ∧ wr.cell? ⟨b2, o2, none⟩ = some (.int .u64 y.a) ∧ wr.cell? ⟨b2, o2 + 1, none⟩ = some (.int .u64 y.b) := ⟨k1, k2, x1, x2, y1, y2⟩
          go_region_held3 (fun W' => W'.cell? ⟨K1, 0, none⟩ = some (.slice (some ⟨b1, o1, none⟩) n1 c1) ∧ W'.cell? ⟨K2, 0, none⟩ = some (.slice (some ⟨b2, o2, none⟩) n2 c2) ∧ W'.cell? ⟨b1, o1, none⟩ = some (.int .u64 x.a) ∧ W'.cell? ⟨b1, o1 + 1, none⟩ = some (.int .u64 x.b) ∧ W'.cell? ⟨b2, o2, none⟩ = some (.int .u64 y.a) ∧ W'.cell? ⟨b2, o2 + 1, none⟩ = some (.int .u64 y.b))
            (first | exact hf6 | exact cells6_next hbC1 hf6 | exact cells6_next hbC2 hf6 | (refine cells6_next (W := wr) ?_ hf6; first | exact (Below.refl _ wr).alloc (Nat.le_refl _) _ | exact ((Below.refl _ wr).alloc (Nat.le_refl _) _).drew | exact Below.alloc hbC1 hbC1.size _ | exact Below.alloc hbC2 hbC2.size _ | exact (hbC1.setCell (by first | exact Nat.le_refl _ | exact hbC2.size) _).setCell (by first | exact Nat.le_refl _ | exact hbC2.size) _ | exact (hbC2.setCell (by first | exact Nat.le_refl _ | exact hbC1.size) _).setCell (by first | exact Nat.le_refl _ | exact hbC1.size) _) | assumption)
            (first
              | (go_at_call 111; have hq1 := hbC1; refine (cmpP_any y x _).mono ?_; rintro e wC2 ⟨rfl, hb'⟩; rw [HC2.out]; (first | (have hbC2 : Below wr.heap.size wr wC2 := later_trans hq1 hb') | (have hbC2 : Below wr.heap.size wr wC2 := later_trans (later_trans hq1 (later_alloc _ _)) hb')); (first | (have bx2 := (hb'.block _ (lt_of_block (bx1))).trans (bx1); have zz0 := box_cell (i := 0) bx2; have zz1 := box_cell (i := 1) bx2; simp at zz0 zz1; have m0 := box_frozen (i := 0) bx2; have m1 := box_frozen (i := 1) bx2) | (have bx2 := (hb'.block _ (lt_of_block (box_new wC1 #[.bool false, .bool false] 144))).trans (box_new wC1 #[.bool false, .bool false] 144); have zz0 := box_cell (i := 0) bx2; have zz1 := box_cell (i := 1) bx2; simp at zz0 zz1; have m0 := box_frozen (i := 0) bx2; have m1 := box_frozen (i := 1) bx2) | skip))
              | (go_at_call 111; refine (cmpP_any x y _).mono ?_; rintro e wC1 ⟨rfl, hb'⟩; rw [HC1.out]; (first | (have hbC1 : Below wr.heap.size wr wC1 := later_trans (later_drew wr) hb') | ((have hbC1 : Below wr.heap.size wr wC1 := later_trans (later_trans (later_alloc wr _) (later_drew _)) hb'); (have bx1 := (hb'.block _ (lt_of_block (box_new wr #[.bool false, .bool false] 144))).trans (box_new wr #[.bool false, .bool false] 144); have zz0 := box_cell (i := 0) bx1; have zz1 := box_cell (i := 1) bx1; simp at zz0 zz1; have m0 := box_frozen (i := 0) bx1; have m1 := box_frozen (i := 1) bx1)))))
          · exact HH.out _ wC2.heap.size _ _ _ _ _ _ _ _ _ _ _ _ _ _ _ _ _ _ _ _ _ _ _ _ _ _ _ _ _ _ _ _ _ _ _ _ _ _ _ _ _ _ _ _ _ _ _ _ _ _ _ _ _ _ _ _ _ _ _ _ _ _ _ _ _ (Below.alloc hbC2 hbC2.size _) hbC2.size (box_new wC2 _ _)
          · exact HH.out _ wC1.heap.size _ _ _ _ _ _ _ _ _ _ _ _ _ _ _ _ _ _ _ _ _ _ _ _ _ _ _ _ _ _ _ _ _ _ _ _ _ _ _ _ _ _ _ _ _ _ _ _ _ _ _ _ _ _ _ _ _ _ _ _ _ _ _ _ _ ((hbC2.setCell (p := ⟨wC1.heap.size, 0, none⟩) hbC1.size _).setCell (p := ⟨wC1.heap.size, 1, none⟩) hbC1.size _) hbC1.size (box_set (i := 1) (box_set (i := 0) bx2 (.bool true)) (.bool true))
          · exact HH.out _ wr.heap.size _ _ _ _ _ _ _ _ _ _ _ _ _ _ _ _ _ _ _ _ _ _ _ _ _ _ _ _ _ _ _ _ _ _ _ _ _ _ _ _ _ _ _ _ _ _ _ _ _ _ _ _ _ _ _ _ _ _ _ _ _ _ _ _ _ ((hbC2.setCell (p := ⟨wr.heap.size, 0, none⟩) (Nat.le_refl _) _).setCell (p := ⟨wr.heap.size, 1, none⟩) (Nat.le_refl _) _) (Nat.le_refl _) (box_set (i := 1) (box_set (i := 0) bx2 (.bool true)) (.bool true))
        · have hmrg := mergeS_gt xs ys hA
          have hz1 : ¬ cmpP x y ≤ 0 := by unfold Ahd at hA; unfold cmpP or2 cmpI; split <;> (repeat' split at *) <;> omega
          have hz2 : cmpP y x ≤ 0 := by unfold Ahd at hA; unfold cmpP or2 cmpI; split <;> (repeat' split at *) <;> omega
          obtain ⟨cv1, hcv1⟩ : ∃ c, cmpP x y = c := ⟨_, rfl⟩
          obtain ⟨cv2, hcv2⟩ : ∃ c, cmpP y x = c := ⟨_, rfl⟩
          have HC1 := Lib.hid hcv1
          have HC2 := Lib.hid hcv2
          have hd1 : decide (cv1 ≤ 0) = false := by rw [← hcv1]; exact decide_eq_false hz1
          have hd2 : decide (cv2 ≤ 0) = true := by rw [← hcv2]; exact decide_eq_true hz2
          clear hcv1 hcv2 hz1 hz2
          clear hA
          gi_wp2
          refine wpIn_wide.2 ?_
          rename_i QR KR hKR
          have HREG : ∀ (V : World) (X4 : Nat) (s5 s6 s7 s8 s9 s10 s11 s12 s13 s14 s15 s16 s17 s18 s19 s20 s21 s22 s23 s24 s25 s26 s27 s28 s29 s30 s31 s32 s33 s34 s35 s36 s37 s38 s39 s40 s41 s42 s43 s44 s45 s46 s47 s48 s49 s50 s51 s52 s53 s54 s55 s56 s57 s58 s59 s60 s61 s62 s63 s64 s65 s66 s67 s68 s69 : Value), Below wr.heap.size wr V → wr.heap.size ≤ X4 → V.heap[X4]? = some (.cells #[.bool false, .bool true] 144 (0, 0)) →
              KR { tmps := #[.func (.yield l) #[] #[], .pointer (some ⟨K1, 0, none⟩), .pointer (some ⟨K2, 0, none⟩), undef, .pointer (some ⟨X4, 0, none⟩), s5, s6, s7, s8, s9, s10, s11, s12, s13, s14, s15, s16, s17, s18, s19, s20, s21, s22, s23, s24, s25, s26, s27, s28, s29, s30, s31, s32, s33, s34, s35, s36, s37, s38, s39, s40, s41, s42, s43, s44, s45, s46, s47, s48, s49, s50, s51, s52, s53, s54, s55, s56, s57, s58, s59, s60, s61, s62, s63, s64, s65, s66, s67, s68, s69], defers := [] } V := by
            intro V X4 s5 s6 s7 s8 s9 s10 s11 s12 s13 s14 s15 s16 s17 s18 s19 s20 s21 s22 s23 s24 s25 s26 s27 s28 s29 s30 s31 s32 s33 s34 s35 s36 s37 s38 s39 s40 s41 s42 s43 s44 s45 s46 s47 s48 s49 s50 s51 s52 s53 s54 s55 s56 s57 s58 s59 s60 s61 s62 s63 s64 s65 s66 s67 s68 s69 hV hX hX4
            refine hKR _ _ ?_
            clear hKR
            have hB1V := box_alloc ((hV.block _ hlt1).trans hB1) (.cells #[.int .u64 0, .int .u64 0] 59)
            have hB2V := box_alloc ((hV.block _ hlt2).trans hB2) (.cells #[.int .u64 0, .int .u64 0] 59)
            have hX4V := box_alloc hX4 (.cells #[.int .u64 0, .int .u64 0] 59)
            have hX5 := box_new V #[.int .u64 0, .int .u64 0] 59
            have hV2 := later_trans hV (later_alloc V (.cells #[.int .u64 0, .int .u64 0] 59))
            have hX4l := lt_of_block hX4
            obtain ⟨X5, hX5e⟩ : ∃ X, V.heap.size = X := ⟨_, rfl⟩
            have hX45 : X4 < X5 := by omega
            have hX5g : wr.heap.size ≤ X5 := by have := hV.size; omega
            obtain ⟨V2, hV2e⟩ : ∃ V2, V.alloc (.cells #[.int .u64 0, .int .u64 0] 59) = V2 := ⟨_, rfl⟩
            rw [hV2e] at hB1V hB2V hX4V hX5 hV2
            rw [hX5e] at hX5
            have q0 := box_cell (i := 0) hX4V
            have q1 := box_cell (i := 1) hX4V
            simp at q0 q1
            have hx4 := lt_of_block hX4V
            have hx5 := lt_of_block hX5
            have k1V := box_cell (i := 0) hB1V
            have k2V := box_cell (i := 0) hB2V
            have f1V := box_frozen (i := 0) hB1V
            have f2V := box_frozen (i := 0) hB2V
            have p0V := box_cell (i := 0) hX5
            have p1V := box_cell (i := 1) hX5
            have g0V := box_frozen (i := 0) hX5
            have g1V := box_frozen (i := 1) hX5
            simp at k1V k2V p0V p1V
            have hy1 := (cell_next hV2 y1)
            have hy2 := (cell_next hV2 y2)
            clear k1 k2 f1 f2 x1 x2 y1 y2
            have hA0 : Alt K1 K2 wr V2 := .of_below hV2
            have hKX1 : K1 < X5 := by omega
            have hKX2 : K2 < X5 := by omega
            have hKY1 : K1 < X4 := by omega
            have hKY2 : K2 < X4 := by omega
            have hB1V2 := hB1V
            have hB2V2 := hB2V
            have hX4V2 := hX4V
            have hX5V2 := hX5
            by_cases hc2 : c2 = 1
            · subst hc2
              gi_wp2
              refine wpIn_wide.2 ?_
              go_region
              obtain ⟨V3, hV3⟩ : ∃ V, (((V2.setCell ⟨X5, 0, none⟩ (.int .u64 y.a)).setCell ⟨X5, 1, none⟩ (.int .u64 y.b)).setCell ⟨K2, 0, none⟩ (.slice (some ⟨b2, o2, none⟩) (n2 - 1) 0)).drew = V := ⟨_, rfl⟩
              rw [hV3]
              have hB2V3 : V3.heap[K2]? = some (.cells #[.slice (some ⟨b2, o2, none⟩) (n2 - 1) 0] 57 (0, 0)) := by rw [← hV3]; exact box_set (i := 0) (box_other (i := 1) (box_other (i := 0) hB2V2 (by omega) _) (by omega) _) _
              have hB1V3 := heap3_other (u := .int .u64 y.a) (v := .int .u64 y.b) (z := .slice (some ⟨b2, o2, none⟩) (n2 - 1) 0) hB1V2 (show K1 ≠ X5 by omega) (show K1 ≠ K2 by omega)
              rw [hV3] at hB1V3
              have hX4V3 := heap3_other (u := .int .u64 y.a) (v := .int .u64 y.b) (z := .slice (some ⟨b2, o2, none⟩) (n2 - 1) 0) hX4V2 (show X4 ≠ X5 by omega) (show X4 ≠ K2 by omega)
              rw [hV3] at hX4V3
              have hX5V3 : V3.heap[X5]? = some (.cells #[.int .u64 y.a, .int .u64 y.b] 59 (0, 0)) := by rw [← hV3]; exact box_other (i := 0) (box_set (i := 1) (box_set (i := 0) hX5V2 _) _) (by omega) _
              have hAV3 : Alt K1 K2 wr V3 := by rw [← hV3]; exact (((hA0.setCell (.inl hX5g) _).setCell (.inl hX5g) _).setCell (.inr (.inr rfl)) _).drew
              clear hV3
              have q0V3 := box_cell (i := 0) hX4V3
              have q1V3 := box_cell (i := 1) hX4V3
              have k1V3 := box_cell (i := 0) hB1V3
              have k2V3 := box_cell (i := 0) hB2V3
              have p0V3 := box_cell (i := 0) hX5V3
              have p1V3 := box_cell (i := 1) hX5V3
              have f1V3 := box_frozen (i := 0) hB1V3
              have f2V3 := box_frozen (i := 0) hB2V3
              have g0V3 := box_frozen (i := 0) hX5V3
              have g1V3 := box_frozen (i := 1) hX5V3
              simp at q0V3 q1V3 k1V3 k2V3 p0V3 p1V3
              have lx4V3 := lt_of_block hX4V3
              have lx5V3 := lt_of_block hX5V3
              have lk1V3 := lt_of_block hB1V3
              have lk2V3 := lt_of_block hB2V3
              have hJ3 := abidesW_alt HJA.out hJ hAV3 hne hB1 hB2 hB1V3 hB2V3
              have hpl : pre.length < L1.length + L2.length + 1 := by have := congrArg List.length hpre; simp at this; omega
              obtain ⟨fn, tmps, assign, body, hy, hR⟩ := HY.out pre (y, false, true) V3 hJ3 hpl
              dsimp only [encM] at hy
              have HPR := Lib.hid hpre
              have HM := Lib.hid hmrg
              have HAL := Lib.hid hAV3
              clear hJ3 hpl hpre hmrg hAV3
              gi_wp2
              refine hR.mono ?_
              rintro en W3 ⟨rfl, hJ4, hk3⟩
              have hB1z := hk3.2.1 _ hB1V3
              have hB2z := hk3.2.2 _ hB2V3
              gi_wp2
              go_roundw
              case rel =>
                have t1 := s1
                have t2 := s2.tail0 rfl
                rw [← hn1] at t1 hB1z
                have e2 : n2 - 1 = ys.length := by rw [← hn2]; simp
                rw [e2] at t2 hB2z
                exact ⟨pre ++ [(y, false, true)], _, _, _, _, _, _, t1, t2, hB1z, hB2z, by rw [← HPR.out, HM.out]; simp, hJ4, (HAL.out.below hb hb.size hk1 hk2).trans hk3.1, by have := HAL.out.size; have := hk3.1.size; omega⟩
              case measure =>
                rw [boxLen_of hB1z, boxLen_of hB2z, boxLen_of hB1, boxLen_of hB2]
                omega
            · have hcs : 1 ≤ c2 := by have := G5.out; omega
              gi_wp2
              refine wpIn_wide.2 ?_
              go_region
              obtain ⟨V3, hV3⟩ : ∃ V, (((V2.setCell ⟨X5, 0, none⟩ (.int .u64 y.a)).setCell ⟨X5, 1, none⟩ (.int .u64 y.b)).setCell ⟨K2, 0, none⟩ (.slice (some ⟨b2, o2 + 2, none⟩) (n2 - 1) (c2 - 1))).drew = V := ⟨_, rfl⟩
              rw [hV3]
              have hB2V3 : V3.heap[K2]? = some (.cells #[.slice (some ⟨b2, o2 + 2, none⟩) (n2 - 1) (c2 - 1)] 57 (0, 0)) := by rw [← hV3]; exact box_set (i := 0) (box_other (i := 1) (box_other (i := 0) hB2V2 (by omega) _) (by omega) _) _
              have hB1V3 := heap3_other (u := .int .u64 y.a) (v := .int .u64 y.b) (z := .slice (some ⟨b2, o2 + 2, none⟩) (n2 - 1) (c2 - 1)) hB1V2 (show K1 ≠ X5 by omega) (show K1 ≠ K2 by omega)
              rw [hV3] at hB1V3
              have hX4V3 := heap3_other (u := .int .u64 y.a) (v := .int .u64 y.b) (z := .slice (some ⟨b2, o2 + 2, none⟩) (n2 - 1) (c2 - 1)) hX4V2 (show X4 ≠ X5 by omega) (show X4 ≠ K2 by omega)
              rw [hV3] at hX4V3
              have hX5V3 : V3.heap[X5]? = some (.cells #[.int .u64 y.a, .int .u64 y.b] 59 (0, 0)) := by rw [← hV3]; exact box_other (i := 0) (box_set (i := 1) (box_set (i := 0) hX5V2 _) _) (by omega) _
              have hAV3 : Alt K1 K2 wr V3 := by rw [← hV3]; exact (((hA0.setCell (.inl hX5g) _).setCell (.inl hX5g) _).setCell (.inr (.inr rfl)) _).drew
              clear hV3
              have q0V3 := box_cell (i := 0) hX4V3
              have q1V3 := box_cell (i := 1) hX4V3
              have k1V3 := box_cell (i := 0) hB1V3
              have k2V3 := box_cell (i := 0) hB2V3
              have p0V3 := box_cell (i := 0) hX5V3
              have p1V3 := box_cell (i := 1) hX5V3
              have f1V3 := box_frozen (i := 0) hB1V3
              have f2V3 := box_frozen (i := 0) hB2V3
              have g0V3 := box_frozen (i := 0) hX5V3
              have g1V3 := box_frozen (i := 1) hX5V3
              simp at q0V3 q1V3 k1V3 k2V3 p0V3 p1V3
              have lx4V3 := lt_of_block hX4V3
              have lx5V3 := lt_of_block hX5V3
              have lk1V3 := lt_of_block hB1V3
              have lk2V3 := lt_of_block hB2V3
              have hJ3 := abidesW_alt HJA.out hJ hAV3 hne hB1 hB2 hB1V3 hB2V3
              have hpl : pre.length < L1.length + L2.length + 1 := by have := congrArg List.length hpre; simp at this; omega
              obtain ⟨fn, tmps, assign, body, hy, hR⟩ := HY.out pre (y, false, true) V3 hJ3 hpl
              dsimp only [encM] at hy
              have HPR := Lib.hid hpre
              have HM := Lib.hid hmrg
              have HAL := Lib.hid hAV3
              clear hJ3 hpl hpre hmrg hAV3
              gi_wp2
              refine hR.mono ?_
              rintro en W3 ⟨rfl, hJ4, hk3⟩
              have hB1z := hk3.2.1 _ hB1V3
              have hB2z := hk3.2.2 _ hB2V3
              gi_wp2
              go_roundw
              case rel =>
                have t1 := s1
                have t2 := s2.tail1 hc2
                rw [← hn1] at t1 hB1z
                have e2 : n2 - 1 = ys.length := by rw [← hn2]; simp
                rw [e2] at t2 hB2z
                exact ⟨pre ++ [(y, false, true)], _, _, _, _, _, _, t1, t2, hB1z, hB2z, by rw [← HPR.out, HM.out]; simp, hJ4, (HAL.out.below hb hb.size hk1 hk2).trans hk3.1, by have := HAL.out.size; have := hk3.1.size; omega⟩
              case measure =>
                rw [boxLen_of hB1z, boxLen_of hB2z, boxLen_of hB1, boxLen_of hB2]
                omega
          have HH := Lib.hid HREG
          clear HREG hKR hmrg
          have hf6 : wr.cell? ⟨K1, 0, none⟩ = some (.slice (some ⟨b1, o1, none⟩) n1 c1) ∧ wr.cell? ⟨K2, 0, none⟩ = some (.slice (some ⟨b2, o2, none⟩) n2 c2) ∧ wr.cell? ⟨b1, o1, none⟩ = some (.int .u64 x.a) ∧ wr.cell? ⟨b1, o1 + 1, none⟩ = some (.int .u64 x.b) ∧ wr.cell? ⟨b2, o2, none⟩ = some (.int .u64 y.a) ∧ wr.cell? ⟨b2, o2 + 1, none⟩ = some (.int .u64 y.b) := ⟨k1, k2, x1, x2, y1, y2⟩
          go_region_held3 (fun W' => W'.cell? ⟨K1, 0, none⟩ = some (.slice (some ⟨b1, o1, none⟩) n1 c1) ∧ W'.cell? ⟨K2, 0, none⟩ = some (.slice (some ⟨b2, o2, none⟩) n2 c2) ∧ W'.cell? ⟨b1, o1, none⟩ = some (.int .u64 x.a) ∧ W'.cell? ⟨b1, o1 + 1, none⟩ = some (.int .u64 x.b) ∧ W'.cell? ⟨b2, o2, none⟩ = some (.int .u64 y.a) ∧ W'.cell? ⟨b2, o2 + 1, none⟩ = some (.int .u64 y.b))
            (first | exact hf6 | exact cells6_next hbC1 hf6 | exact cells6_next hbC2 hf6 | (refine cells6_next (W := wr) ?_ hf6; first | exact (Below.refl _ wr).alloc (Nat.le_refl _) _ | exact ((Below.refl _ wr).alloc (Nat.le_refl _) _).drew | exact Below.alloc hbC1 hbC1.size _ | exact Below.alloc hbC2 hbC2.size _ | exact (hbC1.setCell (by first | exact Nat.le_refl _ | exact hbC2.size) _).setCell (by first | exact Nat.le_refl _ | exact hbC2.size) _ | exact (hbC2.setCell (by first | exact Nat.le_refl _ | exact hbC1.size) _).setCell (by first | exact Nat.le_refl _ | exact hbC1.size) _) | assumption)
            (first
              | (go_at_call 111; have hq1 := hbC1; refine (cmpP_any y x _).mono ?_; rintro e wC2 ⟨rfl, hb'⟩; rw [HC2.out]; (first | (have hbC2 : Below wr.heap.size wr wC2 := later_trans hq1 hb') | (have hbC2 : Below wr.heap.size wr wC2 := later_trans (later_trans hq1 (later_alloc _ _)) hb')); (first | (have bx2 := (hb'.block _ (lt_of_block (bx1))).trans (bx1); have zz0 := box_cell (i := 0) bx2; have zz1 := box_cell (i := 1) bx2; simp at zz0 zz1; have m0 := box_frozen (i := 0) bx2; have m1 := box_frozen (i := 1) bx2) | (have bx2 := (hb'.block _ (lt_of_block (box_new wC1 #[.bool false, .bool false] 144))).trans (box_new wC1 #[.bool false, .bool false] 144); have zz0 := box_cell (i := 0) bx2; have zz1 := box_cell (i := 1) bx2; simp at zz0 zz1; have m0 := box_frozen (i := 0) bx2; have m1 := box_frozen (i := 1) bx2) | skip))
              | (go_at_call 111; refine (cmpP_any x y _).mono ?_; rintro e wC1 ⟨rfl, hb'⟩; rw [HC1.out]; (first | (have hbC1 : Below wr.heap.size wr wC1 := later_trans (later_drew wr) hb') | ((have hbC1 : Below wr.heap.size wr wC1 := later_trans (later_trans (later_alloc wr _) (later_drew _)) hb'); (have bx1 := (hb'.block _ (lt_of_block (box_new wr #[.bool false, .bool false] 144))).trans (box_new wr #[.bool false, .bool false] 144); have zz0 := box_cell (i := 0) bx1; have zz1 := box_cell (i := 1) bx1; simp at zz0 zz1; have m0 := box_frozen (i := 0) bx1; have m1 := box_frozen (i := 1) bx1)))))
          · exact HH.out _ wC2.heap.size _ _ _ _ _ _ _ _ _ _ _ _ _ _ _ _ _ _ _ _ _ _ _ _ _ _ _ _ _ _ _ _ _ _ _ _ _ _ _ _ _ _ _ _ _ _ _ _ _ _ _ _ _ _ _ _ _ _ _ _ _ _ _ _ _ (Below.alloc hbC2 hbC2.size _) hbC2.size (box_new wC2 _ _)
          · exact HH.out _ wC1.heap.size _ _ _ _ _ _ _ _ _ _ _ _ _ _ _ _ _ _ _ _ _ _ _ _ _ _ _ _ _ _ _ _ _ _ _ _ _ _ _ _ _ _ _ _ _ _ _ _ _ _ _ _ _ _ _ _ _ _ _ _ _ _ _ _ _ ((hbC2.setCell (p := ⟨wC1.heap.size, 0, none⟩) hbC1.size _).setCell (p := ⟨wC1.heap.size, 1, none⟩) hbC1.size _) hbC1.size (box_set (i := 1) (box_set (i := 0) bx2 (.bool false)) (.bool true))
          · exact HH.out _ wr.heap.size _ _ _ _ _ _ _ _ _ _ _ _ _ _ _ _ _ _ _ _ _ _ _ _ _ _ _ _ _ _ _ _ _ _ _ _ _ _ _ _ _ _ _ _ _ _ _ _ _ _ _ _ _ _ _ _ _ _ _ _ _ _ _ _ _ ((hbC2.setCell (p := ⟨wr.heap.size, 0, none⟩) (Nat.le_refl _) _).setCell (p := ⟨wr.heap.size, 1, none⟩) (Nat.le_refl _) _) (Nat.le_refl _) (box_set (i := 1) (box_set (i := 0) bx2 (.bool false)) (.bool true))
end Go.Proofs.Ytdfnfdgkhflonaa
