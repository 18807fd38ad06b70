/-
  The law TrieBack, walked.
-/
import Derived.Test.YtdfnfdgkhflonaaTWakes
import Derived.Test.YtdfnfdgkhflonaaTSame
import Derived.Test.YtdfnfdgkhflonaaTOwn
import Derived.Test.YtdfnfdgkhflonaaTRunNo
import Derived.Test.YtdfnfdgkhflonaaTTell1
import Derived.Test.YtdfnfdgkhflonaaTLawA
import Derived.Test.YtdfnfdgkhflonaaTSeconds
import Derived.Test.YtdfnfdgkhflonaaTLawB
namespace Go.Proofs.Ytdfnfdgkhflonaa
open Go.RowKit
set_option linter.unusedVariables false

/-- What the law keeps. -/
def TB (w : World) (v5 va vm : Value) (l : List Pr) (B : List Br) (L : List Int) (p : Pr) (X5 X8 : Nat) (W : World) : Prop :=
  Below w.heap.size w W ∧ SlP W v5 l ∧ SlB W va B ∧ SlI .u64 W vm L ∧ W.heap[X5]? = some (.cells #[.int .u64 p.a, .int .u64 p.b] 59 (0, 0)) ∧ W.heap[X8]? = some (.cells #[va, vm] 25 (0, 0))
theorem TB.later {w : World} {v5 va vm : Value} {l : List Pr} {B : List Br} {L : List Int} {p : Pr} {X5 X8 : Nat} {W W' : World} (h : TB w v5 va vm l B L p X5 X8 W) (hb : Below W.heap.size W W') : TB w v5 va vm l B L p X5 X8 W' := by
  obtain ⟨h1, h2, h3, h4, h5, h6⟩ := h
  exact ⟨later_trans h1 hb, h2.later hb, h3.later hb, h4.later hb, (hb.block _ (lt_of_block h5)).trans h5, (hb.block _ (lt_of_block h6)).trans h6⟩
theorem TB.four {w : World} {v5 va vm : Value} {l : List Pr} {B : List Br} {L : List Int} {p : Pr} {X5 X8 : Nat} {W : World} (h : TB w v5 va vm l B L p X5 X8 W) :
    (W.cell? ⟨X5, 0, none⟩ = some (.int .u64 p.a) ∧ W.cell? ⟨X5, 1, none⟩ = some (.int .u64 p.b) ∧ W.cell? ⟨X8, 0, none⟩ = some va ∧ W.cell? ⟨X8, 1, none⟩ = some vm) ∧ X5 < W.heap.size ∧ X8 < W.heap.size := by
  obtain ⟨-, -, -, -, h1, h2⟩ := h
  exact ⟨⟨by simpa using box_cell (i := 0) h1, by simpa using box_cell (i := 1) h1, by simpa using box_cell (i := 0) h2, by simpa using box_cell (i := 1) h2⟩, lt_of_block h1, lt_of_block h2⟩

/-- .. and the trie of the run. -/
def T9 (w : World) (v5 va vm vb9 vl9 : Value) (l : List Pr) (B : List Br) (L : List Int) (p : Pr) (X5 X8 X9 : Nat) (W : World) : Prop :=
  TB w v5 va vm l B L p X5 X8 W ∧ SlB W vb9 (brOf l) ∧ SlI .u64 W vl9 (l.map Pr.b) ∧ W.heap[X9]? = some (.cells #[vb9, vl9] 25 (0, 0))
section
variable {w : World} {v5 va vm vb9 vl9 : Value} {l : List Pr} {B : List Br} {L : List Int} {p : Pr} {X5 X8 X9 : Nat} {W W' : World}
theorem T9.later (h : T9 w v5 va vm vb9 vl9 l B L p X5 X8 X9 W) (hb : Below W.heap.size W W') : T9 w v5 va vm vb9 vl9 l B L p X5 X8 X9 W' :=
  ⟨h.1.later hb, h.2.1.later hb, h.2.2.1.later hb, (hb.block _ (lt_of_block h.2.2.2)).trans h.2.2.2⟩
theorem T9.tb (h : T9 w v5 va vm vb9 vl9 l B L p X5 X8 X9 W) : TB w v5 va vm l B L p X5 X8 W := h.1
theorem T9.pl (h : T9 w v5 va vm vb9 vl9 l B L p X5 X8 X9 W) : SlP W v5 l := h.1.2.1
theorem T9.sB (h : T9 w v5 va vm vb9 vl9 l B L p X5 X8 X9 W) : SlB W vb9 (brOf l) := h.2.1
theorem T9.sL (h : T9 w v5 va vm vb9 vl9 l B L p X5 X8 X9 W) : SlI .u64 W vl9 (l.map Pr.b) := h.2.2.1
theorem T9.four (h : T9 w v5 va vm vb9 vl9 l B L p X5 X8 X9 W) : (W.cell? ⟨X5, 0, none⟩ = some (.int .u64 p.a) ∧ W.cell? ⟨X5, 1, none⟩ = some (.int .u64 p.b) ∧ W.cell? ⟨X9, 0, none⟩ = some vb9 ∧ W.cell? ⟨X9, 1, none⟩ = some vl9) ∧ X5 < W.heap.size ∧ X9 < W.heap.size := by
  obtain ⟨⟨h1, h2, -, -⟩, h3, -⟩ := h.1.four
  have h4 := h.2.2.2
  exact ⟨⟨h1, h2, by simpa using box_cell (i := 0) h4, by simpa using box_cell (i := 1) h4⟩, h3, lt_of_block h4⟩
theorem T9.s4 (h : T9 w v5 va vm vb9 vl9 l B L p X5 X8 X9 W) : W.cell? ⟨X5, 0, none⟩ = some (.int .u64 p.a) ∧ W.cell? ⟨X5, 1, none⟩ = some (.int .u64 p.b) ∧ W.cell? ⟨X9, 0, none⟩ = some vb9 ∧ W.cell? ⟨X9, 1, none⟩ = some vl9 := h.four.1
end
theorem sli_new2 (W : World) (x y : Int) (hp : (⟨x, y⟩ : Pr).wf) : SlI .u64 (W.alloc (.cells #[.int .u64 x, .int .u64 y] 38)) (.slice (some ⟨W.heap.size, 0, none⟩) 2 2) [x, y] := by
  refine ⟨⟨_, 2, rfl, by simp, by simp [maxLen], fun h => (by cases h), fun _ => ⟨W.heap.size, 0, rfl, by simp, fun i u hi => ?_⟩⟩, fun z hz => ?_⟩
  · rw [Nat.zero_add, World.cell?_alloc_new]
    simpa using hi
  · rcases List.mem_cons.1 hz with rfl | h1
    · exact hp.1
    · obtain rfl := List.mem_singleton.1 h1
      exact hp.2
theorem sli_new1 (W : World) (x : Int) (hp : (Lit.int .u64 x).wf = true) : SlI .u64 (W.alloc (.cells #[.int .u64 x] 38)) (.slice (some ⟨W.heap.size, 0, none⟩) 1 1) [x] := by
  refine ⟨⟨_, 1, rfl, by simp, by simp [maxLen], fun h => (by cases h), fun _ => ⟨W.heap.size, 0, rfl, by simp, fun i u hi => ?_⟩⟩, fun z hz => ?_⟩
  · rw [Nat.zero_add, World.cell?_alloc_new]
    simpa using hi
  · obtain rfl := List.mem_singleton.1 hz
    exact hp

set_option maxRecDepth 100000 in
set_option maxHeartbeats 40000000 in
open Classical in
theorem lawBack_walk (v vb vl : Value) (l0 : List Pr) (B0 : List Br) (L0 : List Int) (p : Pr) (w : World) (hP : SlP w v l0) (hB : SlB w vb B0) (hL : SlI .u64 w vl L0) (hpw : p.wf) :
    Calls Try.prog 11 #[v, .agg #[vb, vl], .agg #[.int .u64 p.a, .int .u64 p.b]] w fun e w' => e = .returned (.bool true) ∧ Below w.heap.size w w' := by
  obtain ⟨a, c, rfl, -⟩ := hP.open
  obtain ⟨ab, cb, rfl, -⟩ := hB.open
  obtain ⟨al, cl, rfl, -⟩ := hL.open
  obtain ⟨l, hl⟩ : ∃ l, l0.take (min l0.length 40) = l := ⟨_, rfl⟩
  obtain ⟨B, hB6⟩ : ∃ l, B0.take (min B0.length 40) = l := ⟨_, rfl⟩
  obtain ⟨L, hL6⟩ : ∃ l, L0.take (min L0.length 60) = l := ⟨_, rfl⟩
  have hll : l.length ≤ 40 := by rw [← hl]; simp; omega
  have hBl : B.length ≤ 40 := by rw [← hB6]; simp; omega
  have hLl : L.length ≤ 60 := by rw [← hL6]; simp; omega
  have wfl : ∀ p ∈ l, p.wf := fun p hp => hP.2 p (List.mem_of_mem_take (by rw [hl]; exact hp))
  have wfB : ∀ p ∈ B, p.wf := fun p hp => hB.2 p (List.mem_of_mem_take (by rw [hB6]; exact hp))
  have wfL : ∀ x ∈ L, (Lit.int .u64 x).wf = true := fun p hp => hL.2 p (List.mem_of_mem_take (by rw [hL6]; exact hp))
  have HFew := Lib.hid (fun V (hV : Below w.heap.size w V) => (few_any _ l0 V (hP.later hV)).mono (R' := fun e w' => ∃ a5 c5, e = .returned (.slice a5 l.length c5) ∧ w'.ownsRow V.heap.size 59 2 (.slice a5 l.length c5) l.length (l.flatMap Pr.cells) ∧ Below V.heap.size V w') (by
    rintro e w' ⟨v', rfl, ho, hb⟩
    rw [hl] at ho
    obtain ⟨a5, c5, rfl⟩ := owns_shape2 ho
    exact ⟨_, _, rfl, ho, hb⟩))
  have HOwn := Lib.hid (fun V (hV : Below w.heap.size w V) => (own7_any _ _ B0 L0 V (hB.later hV) (hL.later hV)).mono (R' := fun e w' => ∃ a6 c6 a7 c7, e = .returned (.agg #[.slice a6 B.length c6, .slice a7 L.length c7]) ∧ w'.ownsRow V.heap.size 40 3 (.slice a6 B.length c6) B.length (B.flatMap Br.cells) ∧ w'.ownsRow V.heap.size 38 1 (.slice a7 L.length c7) L.length (L.map (.int .u64)) ∧ Below V.heap.size V w') (by
    rintro e w' ⟨vb', vl', rfl, hob, hol, hb⟩
    rw [hB6] at hob
    rw [hL6] at hol
    obtain ⟨a6, c6, rfl⟩ := owns_shape2 hob
    obtain ⟨a7, c7, rfl⟩ := owns_shape2 hol
    exact ⟨_, _, _, _, rfl, hob, hol, hb⟩))
  have HWl := Lib.hid wfl
  have HWB := Lib.hid wfB
  have HWL := Lib.hid wfL
  clear hP hB hL hl hB6 hL6 wfl wfB wfL
  go_enter Try.func11, Try.ntmps11
  have hbA := later_alloc w (.cells #[.slice ab B0.length cb, .slice al L0.length cl] 25)
  have hXA := box_new w #[.slice ab B0.length cb, .slice al L0.length cl] 25
  obtain ⟨WA, hWA⟩ : ∃ W, w.alloc (.cells #[.slice ab B0.length cb, .slice al L0.length cl] 25) = W := ⟨_, rfl⟩
  have hsA : WA.heap.size = w.heap.size + 1 := by rw [← hWA]; simp
  have hXB := box_new WA #[.int .u64 p.a, .int .u64 p.b] 59
  rw [hWA] at hXA hbA
  have hXA2 := box_alloc hXA (.cells #[.int .u64 p.a, .int .u64 p.b] 59)
  have hbB := later_trans hbA (later_alloc WA (.cells #[.int .u64 p.a, .int .u64 p.b] 59))
  rw [hsA] at hXB
  rw [← hWA] at hXB hXA2 hbB
  clear hWA hXA hbA hsA
  go_wp2_with fail
  refine (wakes7_any _).mono ?_
  rintro e w2 ⟨rfl, hb2⟩
  have hX4 := (hb2.block _ (lt_of_block hXA2)).trans hXA2
  have hX5 := (hb2.block _ (lt_of_block hXB)).trans hXB
  have hb02 := later_trans hbB hb2
  obtain ⟨X4, hX4e⟩ : ∃ X, w.heap.size = X := ⟨_, rfl⟩
  rw [hX4e] at hX4
  obtain ⟨X5, hX5e⟩ : ∃ X, w.heap.size + 1 = X := ⟨_, rfl⟩
  rw [hX5e] at hX5
  try simp only [hX5e]
  try simp only [hX4e]
  have x0 := box_cell (i := 0) hX4
  have x1 := box_cell (i := 1) hX4
  simp at x0 x1
  have hx4l := lt_of_block hX4
  have hx5l := lt_of_block hX5
  clear hXA2 hXB hbB hb2 hX5e
  go_wp2_with fail
  rename_i Q1 K1 hK1
  have HT : ∀ (V : World) (X8 : Nat) (a5 : Option Addr) (c5 : Nat) (a6 : Option Addr) (c6 : Nat) (a7 : Option Addr) (c7 : Nat), TB w (.slice a5 l.length c5) (.slice a6 B.length c6) (.slice a7 L.length c7) l B L p X5 X8 V →
      K1 { tmps := #[.slice a l0.length c, .agg #[.slice ab B0.length cb, .slice al L0.length cl], .agg #[.int .u64 p.a, .int .u64 p.b], undef, .pointer (some ⟨X4, 0, none⟩), .pointer (some ⟨X5, 0, none⟩), .bool false, .slice a5 l.length c5, .pointer (some ⟨X8, 0, none⟩), undef, undef, undef, undef, undef, undef, .bool true, .bool false, .slice a l0.length c, .slice a5 l.length c5, .agg #[.slice ab B0.length cb, .slice al L0.length cl], .agg #[.slice a6 B.length c6, .slice a7 L.length c7], undef, undef, undef, undef, undef, undef, undef, undef, undef, undef, undef, undef, undef, undef, undef, undef, undef, undef, undef, undef, undef, undef, undef, undef, undef, undef, undef, undef, undef, undef, undef, undef, undef, undef, undef, undef, undef, undef, undef, undef, undef, undef, undef, undef, undef, undef, undef, undef, undef, undef, undef, undef, undef, undef, undef, undef, undef, undef, undef, undef, undef, undef, undef, undef, undef, undef, undef, undef, undef, undef, undef, undef, undef, undef, undef, undef, undef, undef, undef, undef, undef, undef, undef, undef, undef], defers := [] } V := by
    intro V X8 a5 c5 a6 c6 a7 c7 k3
    refine hK1 _ _ ?_
    clear hK1 x0 x1 hX4 hX5 hx4l hx5l hb02
    obtain ⟨⟨x0, x1, z0, z1⟩, hl5, hl8⟩ := k3.four
    go_wp2_with fail
    refine (of_any _ l _ k3.2.1).mono ?_
    rintro e w4 ⟨vb4, vl4, q4, rfl, hb4, hyes, hno⟩
    have k4 := k3.later hb4
    clear x0 x1 z0 z1 hl5 hl8 k3
    obtain ⟨⟨x0, x1, z0, z1⟩, hl5, hl8⟩ := k4.four
    by_cases hr : RunOk l
    · obtain ⟨rfl, hB4, hL4⟩ := hyes hr
      rw [List.length_map] at hL4
      obtain ⟨ab4, cb4, rfl⟩ := owns_shape2 hB4
      obtain ⟨al4, cl4, rfl⟩ := owns_shape2 hL4
      have wfb : ∀ b ∈ brOf l, b.wf := br_wf HWl.out (by omega)
      have sB4 : SlB w4 (.slice ab4 (brOf l).length cb4) (brOf l) := ⟨SlT.of_owns hB4, wfb⟩
      have sL4 : SlI .u64 w4 (.slice al4 l.length cl4) (l.map Pr.b) := SlI.of_owns hL4 (leaf_wf HWl.out)
      clear hyes hno hB4 hL4 wfb
      have HR := Lib.hid hr
      clear hr
      have hok := of_trie HR.out
      have HOK := Lib.hid hok
      have HKW := Lib.hid (show Known (brOf l) (brOf l) (l.map Pr.b) (l.map Pr.b) from ⟨hok, fun _ => ⟨rfl, rfl⟩, fun h => absurd hok h⟩)
      have HKL := Lib.hid (show keysL (brOf l) (l.map Pr.b) [] = onceTo (l.map Pr.a) l.length from of_keys l)
      have HK1 := Lib.hid (show keysL (brOf l) (l.map Pr.b) [p.a] = secL l p.a from (under_filter hok p.a).trans (by rw [run_of HR.out]; rfl))
      have HWK := Lib.hid (show ∀ x ∈ onceTo (l.map Pr.a) l.length, (Lit.int .u64 x).wf = true from by rw [← of_keys l]; exact keysL_wf (br_wf HWl.out (by omega)) (leaf_wf HWl.out) [])
      have HW1 := Lib.hid (show ∀ x ∈ secL l p.a, (Lit.int .u64 x).wf = true from by rw [← HK1.out]; exact keysL_wf (br_wf HWl.out (by omega)) (leaf_wf HWl.out) [p.a])
      have HLN := Lib.hid (show (onceTo (l.map Pr.a) l.length).length = (brOf l).length from by rw [← of_keys l, List.length_map])
      have hlm : (l.map Pr.b).length = l.length := by simp
      have hbl : (brOf l).length ≤ 40 := Nat.le_trans (brTo_len l l.length) hll
      clear hok
      have k5 : T9 w (.slice a5 l.length c5) (.slice a6 B.length c6) (.slice a7 L.length c7) (.slice ab4 (brOf l).length cb4) (.slice al4 l.length cl4) l B L p X5 X8 w4.heap.size (w4.alloc (.cells #[.slice ab4 (brOf l).length cb4, .slice al4 l.length cl4] 25)) := ⟨k4.later (later_alloc _ _), sB4.later (later_alloc _ _), sL4.later (later_alloc _ _), box_new _ _ _⟩
      obtain ⟨X9, hX9⟩ : ∃ X, w4.heap.size = X := ⟨_, rfl⟩
      rw [hX9] at k5
      clear sB4 sL4 k4 hb4
      go_wp2_with fail
      refine (sizeK_any _ _ (brOf l) (brOf l) (l.map Pr.b) (l.map Pr.b) _ k5.sB k5.sL HKW.out).mono ?_
      rintro e w6 ⟨rfl, hb6⟩
      rw [hlm]
      have k6 := k5.later hb6
      clear x0 x1 z0 z1 hl5 hl8 k5 hb6
      clear hX9
      have hs6 := k6.s4
      obtain ⟨⟨x0, x1, z0, z1⟩, hl5, hl9⟩ := k6.four
      have kd := k6.later (later_drew w6)
      have hpl := k6.tb.four.2.1
      go_wp2_with fail
      rename_i K7 hK7
      have HT9 : ∀ (wF : World) (s0 s1 s2 s3 s4 s6 s10 s11 s12 s13 s14 s15 s16 s17 s18 s19 s20 s21 s22 s23 s24 s25 s26 s27 s28 s29 s30 s31 s32 s33 s34 s35 s36 s37 s38 s39 s40 s41 s42 s43 s44 s45 s46 s47 s48 s49 s50 s51 s52 s53 s54 s55 s56 s57 s58 s59 s60 s61 s62 s63 s64 s65 s66 s67 : Value), T9 w (.slice a5 l.length c5) (.slice a6 B.length c6) (.slice a7 L.length c7) (.slice ab4 (brOf l).length cb4) (.slice al4 l.length cl4) l B L p X5 X8 X9 wF →
          K7 { tmps := #[s0, s1, s2, s3, s4, .pointer (some ⟨X5, 0, none⟩), s6, .slice a5 l.length c5, .pointer (some ⟨X8, 0, none⟩), .pointer (some ⟨X9, 0, none⟩), s10, s11, s12, s13, s14, s15, s16, s17, s18, s19, s20, s21, s22, s23, s24, s25, s26, s27, s28, s29, s30, s31, s32, s33, s34, s35, s36, s37, s38, s39, s40, s41, s42, s43, s44, s45, s46, s47, s48, s49, s50, s51, s52, s53, s54, s55, s56, s57, s58, s59, s60, s61, s62, s63, s64, s65, s66, s67, .bool false, undef, undef, undef, undef, undef, undef, undef, undef, undef, undef, undef, undef, undef, undef, undef, undef, undef, undef, undef, undef, undef, undef, undef, undef, undef, undef, undef, undef, undef, undef, undef, undef, undef, undef, undef, undef, undef], defers := [] } wF := by
        intro wF s0 s1 s2 s3 s4 s6 s10 s11 s12 s13 s14 s15 s16 s17 s18 s19 s20 s21 s22 s23 s24 s25 s26 s27 s28 s29 s30 s31 s32 s33 s34 s35 s36 s37 s38 s39 s40 s41 s42 s43 s44 s45 s46 s47 s48 s49 s50 s51 s52 s53 s54 s55 s56 s57 s58 s59 s60 s61 s62 s63 s64 s65 s66 s67 kF
        refine hK7 _ _ ?_
        clear hK7 hs6 kd x0 x1 z0 z1 hl5 hl9 k6 hpl
        have kF' := kF.later (later_drew _)
        have hsF := kF.s4
        obtain ⟨⟨x0, x1, z0, z1⟩, hl5, hl9⟩ := kF.four
        go_wp2_with fail
        go_region_held3 (fun W' => W'.cell? ⟨X5, 0, none⟩ = some (.int .u64 p.a) ∧ W'.cell? ⟨X5, 1, none⟩ = some (.int .u64 p.b) ∧ W'.cell? ⟨X9, 0, none⟩ = some (.slice ab4 (brOf l).length cb4) ∧ W'.cell? ⟨X9, 1, none⟩ = some (.slice al4 l.length cl4))
          (first | exact hsF | exact kA.s4 | exact kB.s4 | exact kI.s4 | exact (kI.later (later_alloc _ _)).s4 | exact kU.s4 | exact kV.s4 | exact kJ.s4 | assumption)
          (first
            | (go_at_call 24; refine (equal_any _ _ (secL l p.a) (secL l p.a) _ (SlI.of_owns (owns_later oU hbV) HW1.out) (SlI.of_owns oV HW1.out)).mono ?_; rintro e wJ ⟨rfl, nJ, hwJ⟩; have kJ := kV.later (W' := wJ) (by rw [hwJ]; exact later_drewN _ nJ); clear hwJ)
            | (go_at_call 53; refine (seconds_any _ l p.a _ kU.pl HR.out).mono ?_; rintro e wV ⟨vV, rfl, oV, hbV⟩; have kV := kU.later hbV)
            | (go_at_call 42; refine (keysAll_any _ _ _ (brOf l) (brOf l) (l.map Pr.b) (l.map Pr.b) [p.a] _ (kI.later (later_alloc _ _)).sB (kI.later (later_alloc _ _)).sL (sli_new1 wI p.a hpw.1) HKW.out (by omega)).mono ?_; rintro e wU ⟨vU, rfl, oU, hbU⟩; rw [HK1.out] at oU; have kU := (kI.later (later_alloc _ _)).later hbU)
            | (go_at_call 24; refine (equal_any _ _ (onceTo (l.map Pr.a) l.length) (onceTo (l.map Pr.a) l.length) _ (SlI.of_owns (owns_later oA hbB) HWK.out) (SlI.of_owns oB HWK.out)).mono ?_; rintro e wI ⟨rfl, nI, hwI⟩; have kI := kB.later (W' := wI) (by rw [hwI]; exact later_drewN _ nI); clear hwI)
            | (go_at_call 52; refine (firsts_any _ l _ kA.pl HR.out).mono ?_; rintro e wB ⟨vB, rfl, oB, hbB⟩; have kB := kA.later hbB)
            | (go_at_call 42; refine (keysAll_any _ _ (.slice none 0 0) (brOf l) (brOf l) (l.map Pr.b) (l.map Pr.b) [] _ kF'.sB kF'.sL (SlI.nil _ _) HKW.out (by omega)).mono ?_; rintro e wA ⟨vA, rfl, oA, hbA⟩; rw [HKL.out] at oA; have kA := kF'.later hbA))
        have kZ := kJ.tb
        clear x0 x1 z0 z1 hl5 hl9 kF kF' kA kB kI kU kV kJ oA oB oU oV hbA hbB hbU hbV hsF
        obtain ⟨⟨x0, x1, z0, z1⟩, hl5, hl8⟩ := kZ.four
        clear HOK HKW HKL HK1 HWK HW1 HLN
        go_wp2_with fail
  
        clear HR
        by_cases ht : TrieOk B L
        · have HTR := Lib.hid ht
          clear ht
          refine (run_any _ _ B L _ kZ.2.2.1 kZ.2.2.2.1 HTR.out).mono ?_
          rintro e wM ⟨vM, rfl, oM, hbM⟩
          have kM := kZ.later hbM
          have sM : SlP wM vM (runOf B L) := ⟨SlT.of_owns oM, run_wf kM.2.2.1 kM.2.2.2.1⟩
          clear x0 x1 z0 z1 hl5 hl8 oM
          go_wp2_with fail
          refine (of_any _ (runOf B L) _ sM).mono ?_
          rintro e wN ⟨vN, vN2, qN, rfl, hbN, hyN, hnN⟩
          obtain ⟨rfl, oN, oN2⟩ := hyN (run_run HTR.out)
          rw [of_run HTR.out] at oN
          rw [run_leaves HTR.out] at oN2
          have kN := kM.later hbN
          obtain ⟨aN, cN, rfl⟩ := owns_shape2 oN
          obtain ⟨aN2, cN2, rfl⟩ := owns_shape2 oN2
          have sN : SlB wN (.slice aN B.length cN) B := ⟨SlT.of_owns oN, HWB.out⟩
          have sN2 : SlI .u64 wN (.slice aN2 L.length cN2) L := SlI.of_owns oN2 HWL.out
          have hXN := box_new wN #[.slice aN B.length cN, .slice aN2 L.length cN2] 25
          have hbO := later_alloc wN (.cells #[.slice aN B.length cN, .slice aN2 L.length cN2] 25)
          have kO := kN.later hbO
          have sO := sN.later hbO
          have sO2 := sN2.later hbO
          obtain ⟨⟨x0, x1, z0, z1⟩, hl5, hl8⟩ := kN.four
          clear hyN hnN oN oN2 hbM hbN sM sN sN2 kM kN
          go_wp2_with fail
          refine (check_any _ _ B L _ kO.2.2.1 kO.2.2.2.1).mono ?_
          rintro e wQ ⟨rfl, hbQ⟩
          rw [if_pos HTR.out]
          have kQ := kO.later hbQ
          have sQ := sO.later hbQ
          have sQ2 := sO2.later hbQ
          have hXQ := (hbQ.block _ (lt_of_block hXN)).trans hXN
          have y0 := box_cell (i := 0) hXQ
          have y1 := box_cell (i := 1) hXQ
          simp at y0 y1
          clear x0 x1 z0 z1 hl5 hl8 hbO sO sO2 kO hbQ
          obtain ⟨⟨x0, x1, z0, z1⟩, hl5, hl8⟩ := kQ.four
          go_wp2_with fail
          refine (same_any _ _ _ _ B B L L _ sQ sQ2 kQ.2.2.1 kQ.2.2.2.1 rfl rfl).mono ?_
          rintro e wS ⟨rfl, hbS⟩
          have kS := kQ.later hbS
          go_wp2_with fail
          go_ret
          exact ⟨rfl, kS.1⟩
        · have HTR := Lib.hid ht
          clear ht
          refine (run_no _ _ B L _ kZ.2.2.1 kZ.2.2.2.1 HTR.out).mono ?_
          rintro e wM ⟨rfl, hbM⟩
          have kM := kZ.later hbM
          clear x0 x1 z0 z1 hl5 hl8
          go_wp2_with fail
          refine (of_any _ [] _ (SlP.nil wM)).mono ?_
          rintro e wN ⟨vN, vN2, qN, rfl, hbN, hyN, hnN⟩
          obtain ⟨rfl, oN, oN2⟩ := hyN ⟨by simp, fun i h1 h2 => by simp at h2⟩
          have kN := kM.later hbN
          have kO := kN.later (later_alloc wN (.cells #[vN, vN2] 25))
          obtain ⟨⟨x0, x1, z0, z1⟩, hl5, hl8⟩ := kN.four
          obtain ⟨aN, cN, rfl⟩ := owns_shape2 oN
          obtain ⟨aN2, cN2, rfl⟩ := owns_shape2 oN2
          clear hyN hnN oN oN2 hbM hbN kM kN
          go_wp2_with fail
          refine (check_any _ _ B L _ kO.2.2.1 kO.2.2.2.1).mono ?_
          rintro e wQ ⟨rfl, hbQ⟩
          rw [if_neg HTR.out]
          have kQ := kO.later hbQ
          go_wp2_with fail
          go_ret
          exact ⟨rfl, kQ.1⟩
      have HH9 := Lib.hid HT9
      clear HT9 hK7
      go_region_held3 (fun W' => W'.cell? ⟨X5, 0, none⟩ = some (.int .u64 p.a) ∧ W'.cell? ⟨X5, 1, none⟩ = some (.int .u64 p.b) ∧ W'.cell? ⟨X9, 0, none⟩ = some (.slice ab4 (brOf l).length cb4) ∧ W'.cell? ⟨X9, 1, none⟩ = some (.slice al4 l.length cl4))
        (first | exact hs6 | exact kR.s4 | exact kE.s4 | exact kC.s4 | exact kG.s4 | exact kH.s4 | exact (kC.later (later_alloc _ _)).s4 | exact (kG.later (later_alloc _ _)).s4 | exact kF.s4 | assumption)
        (first
          | (go_at_call 33; refine (run_any _ _ (brOf l) (l.map Pr.b) _ kd.sB kd.sL HOK.out).mono ?_; rintro e wR ⟨vR, rfl, oR, hbR⟩; rw [run_of HR.out] at oR; obtain ⟨aR, cR, rfl⟩ := owns_shape2 oR; have kR := kd.later hbR)
          | (go_at_call 32; refine (equalP_any _ _ l l _ ⟨SlT.of_owns oR, HWl.out⟩ kR.pl).mono ?_; rintro e wE ⟨rfl, nE, hwE⟩; have kE := kR.later (W' := wE) (by rw [hwE]; exact later_drewN _ nE); clear hwE)
          | (go_at_call 31; refine (check_any _ _ (brOf l) (l.map Pr.b) _ kE.sB kE.sL).mono ?_; rintro e wC ⟨rfl, hbC⟩; rw [if_pos HOK.out]; have kC := kE.later hbC)
          | (go_at_call 44; refine (hasAll_any _ _ _ (brOf l) (brOf l) (l.map Pr.b) (l.map Pr.b) [p.a, p.b] _ (kC.later (later_alloc _ _)).sB (kC.later (later_alloc _ _)).sL (sli_new2 wC p.a p.b hpw) HKW.out (by omega)).mono ?_; rintro e wH ⟨rfl, hbH⟩; rw [has_pair HR.out]; have kH := (kC.later (later_alloc _ _)).later hbH)
          | (go_at_call 44; refine (hasAll_any _ _ _ (brOf l) (brOf l) (l.map Pr.b) (l.map Pr.b) [p.a, p.b] _ (kG.later (later_alloc _ _)).sB (kG.later (later_alloc _ _)).sL (sli_new2 wG p.a p.b hpw) HKW.out (by omega)).mono ?_; rintro e wH ⟨rfl, hbH⟩; rw [has_pair HR.out]; have kH := (kG.later (later_alloc _ _)).later hbH)
          | (go_at_call 44; refine (hasAll_any _ _ _ (brOf l) (brOf l) (l.map Pr.b) (l.map Pr.b) [p.a, p.b] _ kG.sB kG.sL ((sli_new2 wC p.a p.b hpw).later hbG) HKW.out (by omega)).mono ?_; rintro e wH ⟨rfl, hbH⟩; rw [has_pair HR.out]; have kH := kG.later hbH)
          | (go_at_call 51; refine (runHas_any _ l p _ kC.pl HR.out).mono ?_; rintro e wG ⟨rfl, hbG⟩; have kG := kC.later hbG)
          | (go_at_call 51; refine (runHas_any _ l p _ (kC.later (later_alloc _ _)).pl HR.out).mono ?_; rintro e wG ⟨rfl, hbG⟩; have kG := (kC.later (later_alloc _ _)).later hbG)
          | (go_at_call 51; refine (runHas_any _ l p _ kH.pl HR.out).mono ?_; rintro e wG ⟨rfl, hbG⟩; have kG := kH.later hbG)
          | (go_at_call 52; refine (firsts_any _ l _ kG.pl HR.out).mono ?_; rintro e wF ⟨vF, rfl, oF, hbF⟩; rw [HLN.out] at oF; obtain ⟨aF, cF, rfl⟩ := owns_shape2 oF; have kF := kG.later hbF)
          | (go_at_call 52; refine (firsts_any _ l _ kH.pl HR.out).mono ?_; rintro e wF ⟨vF, rfl, oF, hbF⟩; rw [HLN.out] at oF; obtain ⟨aF, cF, rfl⟩ := owns_shape2 oF; have kF := kH.later hbF))
      all_goals exact HH9.out _ _ _ _ _ _ _ _ _ _ _ _ _ _ _ _ _ _ _ _ _ _ _ _ _ _ _ _ _ _ _ _ _ _ _ _ _ _ _ _ _ _ _ _ _ _ _ _ _ _ _ _ _ _ _ _ _ _ _ _ _ _ _ _ _ kF
    · obtain ⟨rfl, rfl, rfl⟩ := hno hr
      have HR := Lib.hid hr
      clear hyes hno hr
      have kW := k4.later (later_alloc w4 (.cells #[.slice none 0 0, .slice none 0 0] 25))
      go_wp2_with fail
      clear HR
      by_cases ht : TrieOk B L
      · have HTR := Lib.hid ht
        clear ht
        refine (run_any _ _ B L _ kW.2.2.1 kW.2.2.2.1 HTR.out).mono ?_
        rintro e wM ⟨vM, rfl, oM, hbM⟩
        have kM := kW.later hbM
        have sM : SlP wM vM (runOf B L) := ⟨SlT.of_owns oM, run_wf kM.2.2.1 kM.2.2.2.1⟩
        clear x0 x1 z0 z1 hl5 hl8 oM
        go_wp2_with fail
        refine (of_any _ (runOf B L) _ sM).mono ?_
        rintro e wN ⟨vN, vN2, qN, rfl, hbN, hyN, hnN⟩
        obtain ⟨rfl, oN, oN2⟩ := hyN (run_run HTR.out)
        rw [of_run HTR.out] at oN
        rw [run_leaves HTR.out] at oN2
        have kN := kM.later hbN
        obtain ⟨aN, cN, rfl⟩ := owns_shape2 oN
        obtain ⟨aN2, cN2, rfl⟩ := owns_shape2 oN2
        have sN : SlB wN (.slice aN B.length cN) B := ⟨SlT.of_owns oN, HWB.out⟩
        have sN2 : SlI .u64 wN (.slice aN2 L.length cN2) L := SlI.of_owns oN2 HWL.out
        have hXN := box_new wN #[.slice aN B.length cN, .slice aN2 L.length cN2] 25
        have hbO := later_alloc wN (.cells #[.slice aN B.length cN, .slice aN2 L.length cN2] 25)
        have kO := kN.later hbO
        have sO := sN.later hbO
        have sO2 := sN2.later hbO
        obtain ⟨⟨x0, x1, z0, z1⟩, hl5, hl8⟩ := kN.four
        clear hyN hnN oN oN2 hbM hbN sM sN sN2 kM kN
        go_wp2_with fail
        refine (check_any _ _ B L _ kO.2.2.1 kO.2.2.2.1).mono ?_
        rintro e wQ ⟨rfl, hbQ⟩
        rw [if_pos HTR.out]
        have kQ := kO.later hbQ
        have sQ := sO.later hbQ
        have sQ2 := sO2.later hbQ
        have hXQ := (hbQ.block _ (lt_of_block hXN)).trans hXN
        have y0 := box_cell (i := 0) hXQ
        have y1 := box_cell (i := 1) hXQ
        simp at y0 y1
        clear x0 x1 z0 z1 hl5 hl8 hbO sO sO2 kO hbQ
        obtain ⟨⟨x0, x1, z0, z1⟩, hl5, hl8⟩ := kQ.four
        go_wp2_with fail
        refine (same_any _ _ _ _ B B L L _ sQ sQ2 kQ.2.2.1 kQ.2.2.2.1 rfl rfl).mono ?_
        rintro e wS ⟨rfl, hbS⟩
        have kS := kQ.later hbS
        go_wp2_with fail
        go_ret
        exact ⟨rfl, kS.1⟩
      · have HTR := Lib.hid ht
        clear ht
        refine (run_no _ _ B L _ kW.2.2.1 kW.2.2.2.1 HTR.out).mono ?_
        rintro e wM ⟨rfl, hbM⟩
        have kM := kW.later hbM
        clear x0 x1 z0 z1 hl5 hl8
        go_wp2_with fail
        refine (of_any _ [] _ (SlP.nil wM)).mono ?_
        rintro e wN ⟨vN, vN2, qN, rfl, hbN, hyN, hnN⟩
        obtain ⟨rfl, oN, oN2⟩ := hyN ⟨by simp, fun i h1 h2 => by simp at h2⟩
        have kN := kM.later hbN
        have kO := kN.later (later_alloc wN (.cells #[vN, vN2] 25))
        obtain ⟨⟨x0, x1, z0, z1⟩, hl5, hl8⟩ := kN.four
        obtain ⟨aN, cN, rfl⟩ := owns_shape2 oN
        obtain ⟨aN2, cN2, rfl⟩ := owns_shape2 oN2
        clear hyN hnN oN oN2 hbM hbN kM kN
        go_wp2_with fail
        refine (check_any _ _ B L _ kO.2.2.1 kO.2.2.2.1).mono ?_
        rintro e wQ ⟨rfl, hbQ⟩
        rw [if_neg HTR.out]
        have kQ := kO.later hbQ
        go_wp2_with fail
        go_ret
        exact ⟨rfl, kQ.1⟩
  go_region_held3 (fun W' => W'.cell? ⟨X4, 0, none⟩ = some (.slice ab B0.length cb) ∧ W'.cell? ⟨X4, 1, none⟩ = some (.slice al L0.length cl))
    (first | exact ⟨x0, x1⟩ | (refine cells2_next (W := w2) ?_ ⟨x0, x1⟩; first | exact hbWO | exact hbWF | exact (Below.refl _ w2).alloc (Nat.le_refl _) _ | exact ((Below.refl _ w2).alloc (Nat.le_refl _) _).drew | exact (Below.refl _ w2).drew | exact Below.alloc hbWF hbWF.size _ | exact Below.alloc hbWO hbWO.size _ | exact (hbWO.setCell hbn0 _).setCell hbn0 _) | assumption)
    (first
      | (go_at_call 35; refine (HFew.out _ (later_trans hb02 (later_drew w2))).mono ?_; rintro e wF ⟨a5, c5, rfl, s5, hbF⟩; have hbWF : Below w2.heap.size w2 wF := later_trans (later_drew w2) hbF)
      | (go_at_call 35; refine (HFew.out _ (later_trans hb02 (later_trans (later_alloc w2 _) (later_drew _)))).mono ?_; rintro e wF ⟨a5, c5, rfl, s5, hbF⟩; have hbWF : Below w2.heap.size w2 wF := later_trans (later_trans (later_alloc w2 _) (later_drew _)) hbF; have hbn1 := (hbF.block _ (lt_of_block (box_new w2 #[.slice none 0 0, .slice none 0 0] 25))).trans (box_new w2 #[.slice none 0 0, .slice none 0 0] 25))
      | (go_at_call 36; refine (HOwn.out _ (later_trans hb02 (later_trans hbWF (later_alloc wF _)))).mono ?_; rintro e wO ⟨a6, c6, a7, c7, rfl, s6, s7, hbO⟩; have hbFO : Below wF.heap.size wF wO := later_trans (later_alloc wF _) hbO; have hbWO := later_trans hbWF hbFO; have hbn0 : w2.heap.size ≤ wF.heap.size := hbWF.size; have hbn := (hbO.block _ (lt_of_block (box_new wF #[.slice none 0 0, .slice none 0 0] 25))).trans (box_new wF #[.slice none 0 0, .slice none 0 0] 25); have n0 := box_cell (i := 0) hbn; have n1 := box_cell (i := 1) hbn; simp at n0 n1; have m0 := box_frozen (i := 0) hbn; have m1 := box_frozen (i := 1) hbn)
      | (go_at_call 36; refine (HOwn.out _ (later_trans hb02 hbWF)).mono ?_; rintro e wO ⟨a6, c6, a7, c7, rfl, s6, s7, hbO⟩; have hbFO : Below wF.heap.size wF wO := hbO; have hbWO := later_trans hbWF hbFO; have hbn := (hbO.block _ (lt_of_block hbn1)).trans hbn1; have hbn0 : w2.heap.size ≤ w2.heap.size := Nat.le_refl _; have n0 := box_cell (i := 0) hbn; have n1 := box_cell (i := 1) hbn; simp at n0 n1; have m0 := box_frozen (i := 0) hbn; have m1 := box_frozen (i := 1) hbn)
      | (go_at_call 36; refine (HOwn.out _ (later_trans hb02 hbWF)).mono ?_; rintro e wO ⟨a6, c6, a7, c7, rfl, s6, s7, hbO⟩; have hbFO : Below wF.heap.size wF wO := hbO; have hbWO := later_trans hbWF hbFO))
  · refine HT _ _ _ _ _ _ _ _ ⟨later_trans hb02 (Below.alloc hbWO hbWO.size _), ?_⟩
    have hb9 := later_alloc wO (.cells #[.slice a6 B.length c6, .slice a7 L.length c7] 25)
    have hb8 := Below.alloc hbWO hbWO.size (.cells #[.slice a6 B.length c6, .slice a7 L.length c7] 25)
    have hb7 := later_trans hb02 hb8
    exact ⟨⟨SlT.of_owns (owns_later s5 (later_trans hbFO hb9)), HWl.out⟩, ⟨SlT.of_owns (owns_later s6 hb9), HWB.out⟩, SlI.of_owns (owns_later s7 hb9) HWL.out, (hb8.block _ hx5l).trans hX5, box_new wO _ _⟩
  all_goals (
    refine HT _ _ _ _ _ _ _ _ ⟨later_trans hb02 ((hbWO.setCell hbn0 _).setCell hbn0 _), ?_⟩
    have hb8 := (hbWO.setCell (p := ⟨_, 0, none⟩) hbn0 (.slice a6 B.length c6)).setCell (p := ⟨_, 1, none⟩) hbn0 (.slice a7 L.length c7)
    have hb7 := later_trans hb02 hb8
    have o5 := own_set (i := 1) (own_set (i := 0) (owns_later s5 hbFO) hbn (by decide) (.slice a6 B.length c6)) (box_set (i := 0) hbn (.slice a6 B.length c6)) (by decide) (.slice a7 L.length c7)
    have o6 := own_set (i := 1) (own_set (i := 0) s6 hbn (by decide) (.slice a6 B.length c6)) (box_set (i := 0) hbn (.slice a6 B.length c6)) (by decide) (.slice a7 L.length c7)
    have o7 := own_set (i := 1) (own_set (i := 0) s7 hbn (by decide) (.slice a6 B.length c6)) (box_set (i := 0) hbn (.slice a6 B.length c6)) (by decide) (.slice a7 L.length c7)
    exact ⟨⟨SlT.of_owns o5, HWl.out⟩, ⟨SlT.of_owns o6, HWB.out⟩, SlI.of_owns o7 HWL.out, (hb8.block _ hx5l).trans hX5, box_set (i := 1) (box_set (i := 0) hbn _) _⟩)
end Go.Proofs.Ytdfnfdgkhflonaa
