/-
  The law TrieOf, walked.
-/
import Derived.Test.YtdfnfdgkhflonaaTWakes
import Derived.Test.YtdfnfdgkhflonaaTRight
import Derived.Test.YtdfnfdgkhflonaaTSame
import Derived.Test.YtdfnfdgkhflonaaTRefRun
import Derived.Test.YtdfnfdgkhflonaaTOfP2
import Derived.Test.YtdfnfdgkhflonaaTOwn
import Derived.Test.YtdfnfdgkhflonaaTRunNo
namespace Go.Proofs.Ytdfnfdgkhflonaa
open Go.RowKit
set_option linter.unusedVariables false

/-- What the law keeps. -/
def WT (w : World) (v vb vl v5 vb6 vl6 : Value) (l0 : List Pr) (B0 : List Br) (L0 : List Int) (l : List Pr) (B : List Br) (L : List Int) (X3 X6 : Nat) (W : World) : Prop :=
  Below w.heap.size w W ∧ SlP W v l0 ∧ SlB W vb B0 ∧ SlI .u64 W vl L0 ∧ SlP W v5 l ∧ SlB W vb6 B ∧ SlI .u64 W vl6 L ∧
    W.heap[X3]? = some (.cells #[vb, vl] 25 (0, 0)) ∧ W.heap[X6]? = some (.cells #[vb6, vl6] 25 (0, 0))
theorem WT.later {w : World} {v vb vl v5 vb6 vl6 : Value} {l0 : List Pr} {B0 : List Br} {L0 : List Int} {l : List Pr} {B : List Br} {L : List Int} {X3 X6 : Nat} {W W' : World} (h : WT w v vb vl v5 vb6 vl6 l0 B0 L0 l B L X3 X6 W) (hb : Below W.heap.size W W') : WT w v vb vl v5 vb6 vl6 l0 B0 L0 l B L X3 X6 W' :=
  ⟨later_trans h.1 hb, h.2.1.later hb, h.2.2.1.later hb, h.2.2.2.1.later hb, h.2.2.2.2.1.later hb, h.2.2.2.2.2.1.later hb, h.2.2.2.2.2.2.1.later hb,
    (hb.block _ (lt_of_block h.2.2.2.2.2.2.2.1)).trans h.2.2.2.2.2.2.2.1, (hb.block _ (lt_of_block h.2.2.2.2.2.2.2.2)).trans h.2.2.2.2.2.2.2.2⟩
theorem WT.pl {w : World} {v vb vl v5 vb6 vl6 : Value} {l0 : List Pr} {B0 : List Br} {L0 : List Int} {l : List Pr} {B : List Br} {L : List Int} {X3 X6 : Nat} {W : World} (h : WT w v vb vl v5 vb6 vl6 l0 B0 L0 l B L X3 X6 W) : SlP W v5 l := h.2.2.2.2.1
theorem WT.bb {w : World} {v vb vl v5 vb6 vl6 : Value} {l0 : List Pr} {B0 : List Br} {L0 : List Int} {l : List Pr} {B : List Br} {L : List Int} {X3 X6 : Nat} {W : World} (h : WT w v vb vl v5 vb6 vl6 l0 B0 L0 l B L X3 X6 W) : SlB W vb6 B := h.2.2.2.2.2.1
theorem WT.ll {w : World} {v vb vl v5 vb6 vl6 : Value} {l0 : List Pr} {B0 : List Br} {L0 : List Int} {l : List Pr} {B : List Br} {L : List Int} {X3 X6 : Nat} {W : World} (h : WT w v vb vl v5 vb6 vl6 l0 B0 L0 l B L X3 X6 W) : SlI .u64 W vl6 L := h.2.2.2.2.2.2.1
theorem WT.four {w : World} {v vb vl v5 vb6 vl6 : Value} {l0 : List Pr} {B0 : List Br} {L0 : List Int} {l : List Pr} {B : List Br} {L : List Int} {X3 X6 : Nat} {W : World} (h : WT w v vb vl v5 vb6 vl6 l0 B0 L0 l B L X3 X6 W) :
    W.cell? ⟨X3, 0, none⟩ = some vb ∧ W.cell? ⟨X3, 1, none⟩ = some vl ∧ W.cell? ⟨X6, 0, none⟩ = some vb6 ∧ W.cell? ⟨X6, 1, none⟩ = some vl6 := by
  obtain ⟨-, -, -, -, -, -, -, h1, h3⟩ := h
  exact ⟨by simpa using box_cell (i := 0) h1, by simpa using box_cell (i := 1) h1, by simpa using box_cell (i := 0) h3, by simpa using box_cell (i := 1) h3⟩
theorem WT.cells {w : World} {v vb vl v5 vb6 vl6 : Value} {l0 : List Pr} {B0 : List Br} {L0 : List Int} {l : List Pr} {B : List Br} {L : List Int} {X3 X6 : Nat} {W : World} (h : WT w v vb vl v5 vb6 vl6 l0 B0 L0 l B L X3 X6 W) :
    (W.cell? ⟨X3, 0, none⟩ = some vb ∧ W.cell? ⟨X3, 1, none⟩ = some vl ∧ X3 < W.heap.size) ∧ (W.cell? ⟨X6, 0, none⟩ = some vb6 ∧ W.cell? ⟨X6, 1, none⟩ = some vl6 ∧ X6 < W.heap.size) := by
  obtain ⟨-, -, -, -, -, -, -, h1, h3⟩ := h
  exact ⟨⟨by simpa using box_cell (i := 0) h1, by simpa using box_cell (i := 1) h1, lt_of_block h1⟩, ⟨by simpa using box_cell (i := 0) h3, by simpa using box_cell (i := 1) h3, lt_of_block h3⟩⟩

theorem brTo_wf {l : List Pr} (h : ∀ p ∈ l, p.wf) (hl : l.length ≤ 1048576) : ∀ i, i ≤ l.length → ∀ b ∈ brTo l i, b.wf := by
  intro i
  induction i with
  | zero => intro _ b hb; cases hb
  | succ i ih =>
    intro hi b hb
    have ih := ih (by omega)
    have hg : l.getD i Pr.no = l[i] := getD_pr (by omega)
    have hin := h l[i] (List.getElem_mem (by omega))
    have key : ∀ bs : List Br, (∀ b ∈ bs, b.wf) → bs ≠ [] → ∀ b ∈ setT bs ((i : Int) + 1), b.wf := by
      intro bs hbs hne b hb
      obtain ⟨init, c, rfl⟩ : ∃ init c, bs = init ++ [c] := ⟨bs.dropLast, bs.getLast hne, (List.dropLast_concat_getLast hne).symm⟩
      rw [setT_snoc] at hb
      rcases List.mem_append.1 hb with h1 | h1
      · exact hbs b (List.mem_append_left _ h1)
      · simp only [List.mem_singleton] at h1
        have h2 := hbs c (by simp)
        subst h1
        refine ⟨h2.1, h2.2.1, ?_⟩
        simp [Lit.wf, IntKind.min, IntKind.max, IntKind.signed, IntKind.bits]
        omega
    have e : brTo l (i + 1) = setT (if newAt l i then brTo l i ++ [⟨(l.getD i Pr.no).a, i, 0⟩] else brTo l i) ((i : Int) + 1) := rfl
    rw [e] at hb
    by_cases hn : newAt l i
    · rw [if_pos hn] at hb
      refine key _ (fun b hb => ?_) (by simp) b hb
      rcases List.mem_append.1 hb with h1 | h1
      · exact ih b h1
      · simp only [List.mem_singleton] at h1
        subst h1
        rw [hg]
        refine ⟨hin.1, ?_, (by decide : (Lit.int .i64 0).wf = true)⟩
        simp [Lit.wf, IntKind.min, IntKind.max, IntKind.signed, IntKind.bits]
        omega
    · rw [if_neg hn] at hb
      have h0 : 0 < i := by
        rcases Nat.eq_zero_or_pos i with h | h
        · exact absurd (Or.inl h) hn
        · exact h
      exact key _ ih (brTo_ne h0) b hb
theorem br_wf {l : List Pr} (h : ∀ p ∈ l, p.wf) (hl : l.length ≤ 1048576) : ∀ b ∈ brOf l, b.wf := brTo_wf h hl l.length (Nat.le_refl _)
theorem leaf_wf {l : List Pr} (h : ∀ p ∈ l, p.wf) : ∀ x ∈ l.map Pr.b, (Lit.int .u64 x).wf = true := by
  intro x hx
  obtain ⟨p, hp, rfl⟩ := List.mem_map.1 hx
  exact (h p hp).2

set_option maxRecDepth 100000 in
set_option maxHeartbeats 40000000 in
open Classical in
theorem lawOf_walk (v vb vl : Value) (l0 : List Pr) (B0 : List Br) (L0 : List Int) (w : World) (hP : SlP w v l0) (hB : SlB w vb B0) (hL : SlI .u64 w vl L0) :
    Calls Try.prog 8 #[v, .agg #[vb, vl]] w fun e w' => e = .returned (.bool true) ∧ Below w.heap.size w w' := by
  obtain ⟨a, c, rfl, -⟩ := hP.open
  obtain ⟨ab, cb, rfl, -⟩ := hB.open
  obtain ⟨al, cl, rfl, -⟩ := hL.open
  obtain ⟨l, hl⟩ : ∃ l, l0.take (min l0.length 40) = l := ⟨_, rfl⟩
  obtain ⟨B, hB6⟩ : ∃ l, B0.take (min B0.length 40) = l := ⟨_, rfl⟩
  obtain ⟨L, hL6⟩ : ∃ l, L0.take (min L0.length 60) = l := ⟨_, rfl⟩
  have hll : l.length ≤ 40 := by rw [← hl]; simp; omega
  have hBl : B.length ≤ 40 := by rw [← hB6]; simp; omega
  have hLl : L.length ≤ 60 := by rw [← hL6]; simp; omega
  have wfl : ∀ p ∈ l, p.wf := fun p hp => hP.2 p (List.mem_of_mem_take (by rw [hl]; exact hp))
  have wfB : ∀ p ∈ B, p.wf := fun p hp => hB.2 p (List.mem_of_mem_take (by rw [hB6]; exact hp))
  have wfL : ∀ x ∈ L, (Lit.int .u64 x).wf = true := fun p hp => hL.2 p (List.mem_of_mem_take (by rw [hL6]; exact hp))
  have HFew := Lib.hid (fun V (hV : Below w.heap.size w V) => (few_any _ l0 V (hP.later hV)).mono (R' := fun e w' => ∃ a5 c5, e = .returned (.slice a5 l.length c5) ∧ w'.ownsRow V.heap.size 59 2 (.slice a5 l.length c5) l.length (l.flatMap Pr.cells) ∧ Below V.heap.size V w') (by
    rintro e w' ⟨v', rfl, ho, hb⟩
    rw [hl] at ho
    obtain ⟨a5, c5, rfl⟩ := owns_shape2 ho
    exact ⟨_, _, rfl, ho, hb⟩))
  have HOwn := Lib.hid (fun V (hV : Below w.heap.size w V) => (own7_any _ _ B0 L0 V (hB.later hV) (hL.later hV)).mono (R' := fun e w' => ∃ a6 c6 a7 c7, e = .returned (.agg #[.slice a6 B.length c6, .slice a7 L.length c7]) ∧ w'.ownsRow V.heap.size 40 3 (.slice a6 B.length c6) B.length (B.flatMap Br.cells) ∧ w'.ownsRow V.heap.size 38 1 (.slice a7 L.length c7) L.length (L.map (.int .u64)) ∧ Below V.heap.size V w') (by
    rintro e w' ⟨vb', vl', rfl, hob, hol, hb⟩
    rw [hB6] at hob
    rw [hL6] at hol
    obtain ⟨a6, c6, rfl⟩ := owns_shape2 hob
    obtain ⟨a7, c7, rfl⟩ := owns_shape2 hol
    exact ⟨_, _, _, _, rfl, hob, hol, hb⟩))
  have HP := Lib.hid hP
  have HB := Lib.hid hB
  have HL := Lib.hid hL
  have HWl := Lib.hid wfl
  have HWB := Lib.hid wfB
  have HWL := Lib.hid wfL
  clear hP hB hL hl hB6 hL6 wfl wfB wfL
  go_enter Try.func8, Try.ntmps8
  have hb1 := later_alloc w (.cells #[.slice ab B0.length cb, .slice al L0.length cl] 25)
  have hX := box_new w #[.slice ab B0.length cb, .slice al L0.length cl] 25
  go_wp2_with fail
  refine (wakes7_any _).mono ?_
  rintro e w2 ⟨rfl, hb2⟩
  have hX3 := (hb2.block _ (lt_of_block hX)).trans hX
  have hb02 := later_trans hb1 hb2
  obtain ⟨X3, hX3e⟩ : ∃ X, w.heap.size = X := ⟨_, rfl⟩
  have x0 := box_cell (i := 0) hX3
  have x1 := box_cell (i := 1) hX3
  simp at x0 x1
  rw [hX3e] at x0 x1 hX3
  simp only [hX3e]
  have hx3l := lt_of_block hX3
  clear hX hb1 hb2
  go_wp2_with fail
  rename_i Q1 K1 hK1
  have HT : ∀ (V : World) (X6 : Nat) (a5 : Option Addr) (c5 : Nat) (a6 : Option Addr) (c6 : Nat) (a7 : Option Addr) (c7 : Nat), WT w (.slice a l0.length c) (.slice ab B0.length cb) (.slice al L0.length cl) (.slice a5 l.length c5) (.slice a6 B.length c6) (.slice a7 L.length c7) l0 B0 L0 l B L X3 X6 V →
      K1 { tmps := #[.slice a l0.length c, .agg #[.slice ab B0.length cb, .slice al L0.length cl], undef, .pointer (some ⟨X3, 0, none⟩), .bool false, .slice a5 l.length c5, .pointer (some ⟨X6, 0, none⟩), undef, undef, undef, undef, undef, .bool true, .bool false, .slice a l0.length c, .slice a5 l.length c5, .agg #[.slice ab B0.length cb, .slice al L0.length cl], .agg #[.slice a6 B.length c6, .slice a7 L.length c7], undef, undef, undef, undef, undef, undef, undef, undef, undef, undef, undef, undef, undef, undef, undef, undef, undef, undef, undef, undef, undef, undef, undef, undef, undef, undef, undef, undef, undef, undef, undef, undef, undef, undef, undef, undef, undef, undef, undef, undef, undef, undef, undef, undef, undef, undef, undef, undef, undef, undef, undef, undef, undef, undef, undef, undef, undef, undef, undef, undef, undef, undef, undef, undef], defers := [] } V := by
    intro V X6 a5 c5 a6 c6 a7 c7 k3
    refine hK1 _ _ ?_
    clear hK1 x0 x1 hX3 hx3l hb02
    obtain ⟨⟨x0, x1, hx1l⟩, z0, z1, hx3l⟩ := k3.cells
    go_wp2_with fail
    refine (of_any _ _ _ k3.2.2.2.2.1).mono ?_
    rintro e w4 ⟨vb4, vl4, q4, rfl, hb4, hyes, hno⟩
    have k4 := k3.later hb4
    clear k3 x0 x1 hx1l z0 z1 hx3l
    by_cases hr : RunOk l
    · obtain ⟨rfl, hB4, hL4⟩ := hyes hr
      rw [List.length_map] at hL4
      obtain ⟨ab4, cb4, rfl⟩ := owns_shape2 hB4
      obtain ⟨al4, cl4, rfl⟩ := owns_shape2 hL4
      have wfb : ∀ b ∈ brOf l, b.wf := br_wf HWl.out (by omega)
      have sB4 : SlB w4 (.slice ab4 (brOf l).length cb4) (brOf l) := ⟨SlT.of_owns hB4, wfb⟩
      have sL4 : SlI .u64 w4 (.slice al4 l.length cl4) (l.map Pr.b) := SlI.of_owns hL4 (leaf_wf HWl.out)
      clear hyes hno hB4 hL4 wfb
      have HR := Lib.hid hr
      clear hr
      go_wp2_with fail
      have hb5 := later_alloc w4 (.cells #[.slice ab4 (brOf l).length cb4, .slice al4 l.length cl4] 25)
      have hX7 := box_new w4 #[.slice ab4 (brOf l).length cb4, .slice al4 l.length cl4] 25
      obtain ⟨W5, hW5⟩ : ∃ W, w4.alloc (.cells #[.slice ab4 (brOf l).length cb4, .slice al4 l.length cl4] 25) = W := ⟨_, rfl⟩
      obtain ⟨X7, hX7e⟩ : ∃ X, w4.heap.size = X := ⟨_, rfl⟩
      rw [hW5] at hb5 hX7 ⊢
      simp only [hX7e] at hX7 ⊢
      have k5 := k4.later hb5
      have sB4 := sB4.later hb5
      have sL4 := sL4.later hb5
      clear hW5 hX7e hb5 k4 hb4
      refine (right3_any _ l _ k5.2.2.2.2.1).mono ?_
      rintro e w6 ⟨rfl, hb6⟩
      rw [decide_eq_true HR.out]
      have k6 := k5.later hb6
      have sB4 := sB4.later hb6
      have sL4 := sL4.later hb6
      have hX7 := (hb6.block _ (lt_of_block hX7)).trans hX7
      have y0 := box_cell (i := 0) hX7
      have y1 := box_cell (i := 1) hX7
      simp at y0 y1
      clear k5 hb6
      go_wp2_with fail
      go_region_held3 (fun W' => W'.cell? ⟨X7, 0, none⟩ = some (.slice ab4 (brOf l).length cb4) ∧ W'.cell? ⟨X7, 1, none⟩ = some (.slice al4 l.length cl4))
        (first | exact ⟨y0, y1⟩ | exact cells2_next hb7 ⟨y0, y1⟩ | exact cells2_next (later_trans hb7 hb8) ⟨y0, y1⟩ | assumption)
        (first
          | (go_at_call 40; refine (refof_any _ l _ (k6.later (later_drew _)).2.2.2.2.1 (by omega)).mono ?_; rintro e w7 ⟨vb7, vl7, rfl, hb7, o7, o7'⟩; rw [List.length_map] at o7'; obtain ⟨a71, c71, rfl⟩ := owns_shape2 o7; obtain ⟨a72, c72, rfl⟩ := owns_shape2 o7')
          | (go_at_call 39; refine (same7_any _ _ _ _ (brOf l) (refTo l l.length) (l.map Pr.b) (l.map Pr.b) _ ((sB4.later (later_drew _)).later hb7) (by simpa using (sL4.later (later_drew _)).later hb7) ⟨SlT.of_owns o7, by rw [br_same HR.out.2]; exact br_wf HWl.out (by omega)⟩ (SlI.of_owns o7' (leaf_wf HWl.out))).mono ?_; rintro e w8 ⟨rfl, hb8⟩; rw [decide_eq_true (show brOf l = refTo l l.length ∧ l.map Pr.b = l.map Pr.b from ⟨(br_same HR.out.2).symm, rfl⟩)]))
      have k8 := ((k6.later (later_drew _)).later hb7).later hb8
      clear y0 y1 hX7 k6 sB4 sL4
      obtain ⟨⟨x0, x1, hx1l⟩, z0, z1, hx3l⟩ := k8.cells
      by_cases ht : TrieOk B L
      · have HTR := Lib.hid ht
        clear ht
        go_wp2_with fail
        refine (right7_any _ _ B L _ k8.bb k8.ll).mono ?_
        rintro e wa ⟨rfl, hba⟩
        rw [decide_eq_true HTR.out]
        have ka := k8.later hba
        clear x0 x1 hx1l z0 z1 hx3l
        obtain ⟨⟨x0, x1, hx1l⟩, z0, z1, hx3l⟩ := ka.cells
        go_wp2_with fail
        refine (refrun_any _ _ B L _ ka.bb ka.ll HTR.out).mono ?_
        rintro e wb ⟨v9, rfl, o9, hbb⟩
        obtain ⟨a9, c9, rfl⟩ := owns_shape2 o9
        have kb := ka.later hbb
        clear x0 x1 hx1l z0 z1 hx3l
        obtain ⟨⟨x0, x1, hx1l⟩, z0, z1, hx3l⟩ := kb.cells
        go_wp2_with fail
        refine (check_any _ _ B L _ kb.bb kb.ll).mono ?_
        rintro e wc ⟨rfl, hbc⟩
        rw [if_pos HTR.out]
        have kc := kb.later hbc
        have s9 : SlP wc (.slice a9 (runOf B L).length c9) (runOf B L) := ⟨SlT.of_owns (owns_later o9 hbc), run_wf kc.bb kc.ll⟩
        have kd := kc.later (later_drew wc)
        have hx4 := kc.four
        clear x0 x1 hx1l z0 z1 hx3l
        go_wp2_with fail
        refine wp_region_noPanic ?_
        refine wp_region_held_drew (S := fun W' => W'.cell? ⟨X3, 0, none⟩ = some (.slice ab B0.length cb) ∧ W'.cell? ⟨X3, 1, none⟩ = some (.slice al L0.length cl) ∧ W'.cell? ⟨X6, 0, none⟩ = some (.slice a6 B.length c6) ∧ W'.cell? ⟨X6, 1, none⟩ = some (.slice a7 L.length c7)) (by kernel_rfl) ?_ (fun hHeld => ?_)
        · exact hx4
        refine wpAnyH_take (i := 0) (v := ?v1) rfl (by kernel_rfl) (by kernel_rfl) (by kernel_rfl) (fun _ _ _ h => h) (Or.inl ⟨by rfl, ?hy1⟩) (by assumption) ?rest1
        case hy1 => (intro w hSw; (try dsimp only at hSw); go_simp; try (with_reducible rfl))
        try simp only [Act.put, List.setIfInBounds_toArray, List.set_cons_zero, List.set_cons_succ, List.getElem_toArray, List.getElem_cons_zero]
        refine wpAnyH_take (i := 1) (v := ?v2) rfl (by kernel_rfl) (by kernel_rfl) (by kernel_rfl) (fun _ _ _ h => h) (Or.inl ⟨by rfl, ?hy2⟩) (by assumption) ?rest2
        case hy2 => (intro w hSw; (try dsimp only at hSw); go_simp; try (with_reducible rfl))
        try simp only [Act.put, List.setIfInBounds_toArray, List.set_cons_zero, List.set_cons_succ, List.getElem_toArray, List.getElem_cons_zero, List.getElem_cons_succ]
        refine wpAnyH_take (i := 2) (v := ?v3) rfl (by kernel_rfl) (by kernel_rfl) (by kernel_rfl) (fun _ _ _ h => h) (Or.inl ⟨by rfl, ?hy3⟩) (by assumption) ?rest3
        case hy3 => (intro w hSw; (try dsimp only at hSw); go_simp; try (with_reducible rfl))
        try simp only [Act.put, List.setIfInBounds_toArray, List.set_cons_zero, List.set_cons_succ, List.getElem_toArray, List.getElem_cons_zero, List.getElem_cons_succ]
        refine wpAnyH_take (i := 3) (v := ?v4) rfl (by kernel_rfl) (by kernel_rfl) (by kernel_rfl) (fun _ _ _ h => h) (Or.inl ⟨by rfl, ?hy4⟩) (by assumption) ?rest4
        case hy4 => (intro w hSw; (try dsimp only at hSw); go_simp; try (with_reducible rfl))
        try simp only [Act.put, List.setIfInBounds_toArray, List.set_cons_zero, List.set_cons_succ, List.getElem_toArray, List.getElem_cons_zero, List.getElem_cons_succ]
        refine wpAnyH_take (i := 4) (v := ?v5) rfl (by kernel_rfl) (by kernel_rfl) (by kernel_rfl) (fun _ _ _ h => h) (Or.inl ⟨by rfl, ?hy5⟩) (by assumption) ?rest5
        case hy5 => (intro w hSw; (try dsimp only at hSw); go_simp; try (with_reducible rfl))
        try simp only [Act.put, List.setIfInBounds_toArray, List.set_cons_zero, List.set_cons_succ, List.getElem_toArray, List.getElem_cons_zero, List.getElem_cons_succ]
        refine wpAnyH_take (i := 5) (v := ?v6) rfl (by kernel_rfl) (by kernel_rfl) (by kernel_rfl) (fun _ _ _ h => h) (Or.inl ⟨by rfl, ?hy6⟩) (by assumption) ?rest6
        case hy6 => (intro w hSw; (try dsimp only at hSw); go_simp; try (with_reducible rfl))
        try simp only [Act.put, List.setIfInBounds_toArray, List.set_cons_zero, List.set_cons_succ, List.getElem_toArray, List.getElem_cons_zero, List.getElem_cons_succ]
        refine wpAnyH_take (i := 6) (v := ?v7) rfl (by kernel_rfl) (by kernel_rfl) (by kernel_rfl) (fun _ _ _ h => h) (Or.inl ⟨by rfl, ?hy7⟩) (by assumption) ?rest7
        case hy7 => (intro w hSw; (try dsimp only at hSw); go_simp; try (with_reducible rfl))
        try simp only [Act.put, List.setIfInBounds_toArray, List.set_cons_zero, List.set_cons_succ, List.getElem_toArray, List.getElem_cons_zero, List.getElem_cons_succ]
        refine wpAnyH_ready (rs := [7]) (by kernel_rfl) (by simp) ?_
        refine AllReadyH.cons rfl (fun K hK => ?_) AllReadyH.nil
        go_simp
        refine hK.out _ _ hHeld (fun _ => ?_)
        clear hK K
        refine wpAnyH_ready (rs := [8]) (by kernel_rfl) (by simp) ?_
        refine AllReadyH.cons rfl (fun K hK => ?_) AllReadyH.nil
        go_simp
        refine hK.out _ _ hHeld (fun _ => ?_)
        clear hK K
        refine wpAnyH_take (i := 9) (v := ?v8) rfl (by kernel_rfl) (by kernel_rfl) (by kernel_rfl) (fun _ _ _ h => h) (Or.inl ⟨by rfl, ?hy8⟩) (by assumption) ?rest8
        case hy8 => (intro w hSw; (try dsimp only at hSw); go_simp; try (with_reducible rfl))
        try simp only [Act.put, List.setIfInBounds_toArray, List.set_cons_zero, List.set_cons_succ, List.getElem_toArray, List.getElem_cons_zero, List.getElem_cons_succ]
        refine wpAnyH_take (i := 10) (v := ?v9) rfl (by kernel_rfl) (by kernel_rfl) (by kernel_rfl) (fun _ _ _ h => h) (Or.inl ⟨by rfl, ?hy9⟩) (by assumption) ?rest9
        case hy9 => (intro w hSw; (try dsimp only at hSw); go_simp; try (with_reducible rfl))
        try simp only [Act.put, List.setIfInBounds_toArray, List.set_cons_zero, List.set_cons_succ, List.getElem_toArray, List.getElem_cons_zero, List.getElem_cons_succ]
        refine wpAnyH_take (i := 11) (v := ?v10) rfl (by kernel_rfl) (by kernel_rfl) (by kernel_rfl) (fun _ _ _ h => h) (Or.inl ⟨by rfl, ?hy10⟩) (by assumption) ?rest10
        case hy10 => (intro w hSw; (try dsimp only at hSw); go_simp; try (with_reducible rfl))
        try simp only [Act.put, List.setIfInBounds_toArray, List.set_cons_zero, List.set_cons_succ, List.getElem_toArray, List.getElem_cons_zero, List.getElem_cons_succ]
        refine wpAnyH_take (i := 12) (v := ?v11) rfl (by kernel_rfl) (by kernel_rfl) (by kernel_rfl) (fun _ _ _ h => h) (Or.inl ⟨by rfl, ?hy11⟩) (by assumption) ?rest11
        case hy11 => (intro w hSw; (try dsimp only at hSw); go_simp; try (with_reducible rfl))
        try simp only [Act.put, List.setIfInBounds_toArray, List.set_cons_zero, List.set_cons_succ, List.getElem_toArray, List.getElem_cons_zero, List.getElem_cons_succ]
        refine wpAnyH_take (i := 14) (v := ?v12) rfl (by kernel_rfl) (by kernel_rfl) (by kernel_rfl) (fun _ _ _ h => h) (Or.inl ⟨by rfl, ?hy12⟩) (by assumption) ?rest12
        case hy12 => (intro w hSw; (try dsimp only at hSw); go_simp; try (with_reducible rfl))
        try simp only [Act.put, List.setIfInBounds_toArray, List.set_cons_zero, List.set_cons_succ, List.getElem_toArray, List.getElem_cons_zero, List.getElem_cons_succ]
        refine wpAnyH_ready (rs := [13]) (by kernel_rfl) (by simp) ?_
        refine AllReadyH.cons rfl (fun K hK => ?_) AllReadyH.nil
        go_simp
        (go_at_call 33; refine (run_any _ _ B L _ kd.bb kd.ll HTR.out).mono ?_; rintro e wR ⟨vR, rfl, oR, hbR⟩; obtain ⟨aR, cR, rfl⟩ := owns_shape2 oR; have kR := kd.later hbR)
        try go_wp2_with fail
        refine hK.out _ _ kR.four (fun hH13 => ?_)
        clear hK K hHeld
        try simp only [Act.put, List.setIfInBounds_toArray, List.set_cons_zero, List.set_cons_succ, List.getElem_toArray, List.getElem_cons_zero, List.getElem_cons_succ]
        refine wpAnyH_ready (rs := [15]) (by kernel_rfl) (by simp) ?_
        refine AllReadyH.cons rfl (fun K hK => ?_) AllReadyH.nil
        go_simp
        (go_at_call 32; refine (equalP_any _ _ (runOf B L) (runOf B L) _ ⟨SlT.of_owns oR, run_wf kR.bb kR.ll⟩ ((s9.later (later_drew wc)).later hbR)).mono ?_; rintro e wE ⟨rfl, nE, hwE⟩; have kE := kR.later (W' := wE) (by rw [hwE]; exact later_drewN _ nE); clear hwE)
        try go_wp2_with fail
        refine hK.out _ _ kE.four (fun hH15 => ?_)
        clear hK K hH13
        try simp only [Act.put, List.setIfInBounds_toArray, List.set_cons_zero, List.set_cons_succ, List.getElem_toArray, List.getElem_cons_zero, List.getElem_cons_succ]
        refine wpAnyH_take (i := 16) (v := ?v13) rfl (by kernel_rfl) (by kernel_rfl) (by kernel_rfl) (fun _ _ _ h => h) (Or.inl ⟨by rfl, ?hy13⟩) (by assumption) ?rest13
        case hy13 => (intro w hSw; (try dsimp only at hSw); go_simp; try (with_reducible rfl))
        try simp only [Act.put, List.setIfInBounds_toArray, List.set_cons_zero, List.set_cons_succ, List.getElem_toArray, List.getElem_cons_zero, List.getElem_cons_succ]
        refine wpAnyH_take (i := 17) (v := ?v14) rfl (by kernel_rfl) (by kernel_rfl) (by kernel_rfl) (fun _ _ _ h => h) (Or.inl ⟨by rfl, ?hy14⟩) (by assumption) ?rest14
        case hy14 => (intro w hSw; (try dsimp only at hSw); go_simp; try (with_reducible rfl))
        try simp only [Act.put, List.setIfInBounds_toArray, List.set_cons_zero, List.set_cons_succ, List.getElem_toArray, List.getElem_cons_zero, List.getElem_cons_succ]
        refine wpAnyH_take (i := 18) (v := ?v15) rfl (by kernel_rfl) (by kernel_rfl) (by kernel_rfl) (fun _ _ _ h => h) (Or.inl ⟨by rfl, ?hy15⟩) (by assumption) ?rest15
        case hy15 => (intro w hSw; (try dsimp only at hSw); go_simp; try (with_reducible rfl))
        try simp only [Act.put, List.setIfInBounds_toArray, List.set_cons_zero, List.set_cons_succ, List.getElem_toArray, List.getElem_cons_zero, List.getElem_cons_succ]
        refine wpAnyH_take (i := 19) (v := ?v16) rfl (by kernel_rfl) (by kernel_rfl) (by kernel_rfl) (fun _ _ _ h => h) (Or.inl ⟨by rfl, ?hy16⟩) (by assumption) ?rest16
        case hy16 => (intro w hSw; (try dsimp only at hSw); go_simp; try (with_reducible rfl))
        try simp only [Act.put, List.setIfInBounds_toArray, List.set_cons_zero, List.set_cons_succ, List.getElem_toArray, List.getElem_cons_zero, List.getElem_cons_succ]
        refine wpAnyH_ready (rs := [20]) (by kernel_rfl) (by simp) ?_
        refine AllReadyH.cons rfl (fun K hK => ?_) AllReadyH.nil
        go_simp
        (go_at_call 36; refine (HOwn.out _ kE.1).mono ?_; rintro e wO ⟨aO, cO, aP, cP, rfl, oO, oP, hbO⟩; have kO := kE.later hbO)
        try go_wp2_with fail
        refine hK.out _ _ kO.four (fun hH20 => ?_)
        clear hK K hH15
        try simp only [Act.put, List.setIfInBounds_toArray, List.set_cons_zero, List.set_cons_succ, List.getElem_toArray, List.getElem_cons_zero, List.getElem_cons_succ]
        refine wpAnyH_ready (rs := [21]) (by kernel_rfl) (by simp) ?_
        refine AllReadyH.cons rfl (fun K hK => ?_) AllReadyH.nil
        go_simp
        (go_at_call 39; refine (same7_any _ _ _ _ B B L L _ kO.bb kO.ll ⟨SlT.of_owns oO, HWB.out⟩ (SlI.of_owns oP HWL.out)).mono ?_; rintro e wS ⟨rfl, hbS⟩; have kS := kO.later hbS)
        try go_wp2_with fail
        refine hK.out _ _ kS.four (fun hH21 => ?_)
        clear hK K hH20
        try simp only [Act.put, List.setIfInBounds_toArray, List.set_cons_zero, List.set_cons_succ, List.getElem_toArray, List.getElem_cons_zero, List.getElem_cons_succ]
        refine wpAnyH_take (i := 22) (v := ?v17) rfl (by kernel_rfl) (by kernel_rfl) (by kernel_rfl) (fun _ _ _ h => h) (Or.inl ⟨by rfl, ?hy17⟩) (by assumption) ?rest17
        case hy17 => (intro w hSw; (try dsimp only at hSw); go_simp; try (with_reducible rfl))
        try simp only [Act.put, List.setIfInBounds_toArray, List.set_cons_zero, List.set_cons_succ, List.getElem_toArray, List.getElem_cons_zero, List.getElem_cons_succ]
        refine wpAnyH_take (i := 23) (v := ?v18) rfl (by kernel_rfl) (by kernel_rfl) (by kernel_rfl) (fun _ _ _ h => h) (Or.inl ⟨by rfl, ?hy18⟩) (by assumption) ?rest18
        case hy18 => (intro w hSw; (try dsimp only at hSw); go_simp; try (with_reducible rfl))
        try simp only [Act.put, List.setIfInBounds_toArray, List.set_cons_zero, List.set_cons_succ, List.getElem_toArray, List.getElem_cons_zero, List.getElem_cons_succ]
        refine wpAnyH_take (i := 24) (v := ?v19) rfl (by kernel_rfl) (by kernel_rfl) (by kernel_rfl) (fun _ _ _ h => h) (Or.inl ⟨by rfl, ?hy19⟩) (by assumption) ?rest19
        case hy19 => (intro w hSw; (try dsimp only at hSw); go_simp; try (with_reducible rfl))
        try simp only [Act.put, List.setIfInBounds_toArray, List.set_cons_zero, List.set_cons_succ, List.getElem_toArray, List.getElem_cons_zero, List.getElem_cons_succ]
        refine wpAnyH_take (i := 25) (v := ?v20) rfl (by kernel_rfl) (by kernel_rfl) (by kernel_rfl) (fun _ _ _ h => h) (Or.inl ⟨by rfl, ?hy20⟩) (by assumption) ?rest20
        case hy20 => (intro w hSw; (try dsimp only at hSw); go_simp; try (with_reducible rfl))
        try simp only [Act.put, List.setIfInBounds_toArray, List.set_cons_zero, List.set_cons_succ, List.getElem_toArray, List.getElem_cons_zero, List.getElem_cons_succ]
        refine wpAnyH_ready (rs := [26]) (by kernel_rfl) (by simp) ?_
        refine AllReadyH.cons rfl (fun K hK => ?_) AllReadyH.nil
        go_simp
        (go_at_call 35; refine (HFew.out _ kS.1).mono ?_; rintro e wF ⟨aF, cF, rfl, oF, hbF⟩; have kF := kS.later hbF)
        try go_wp2_with fail
        refine hK.out _ _ kF.four (fun hH26 => ?_)
        clear hK K hH21
        try simp only [Act.put, List.setIfInBounds_toArray, List.set_cons_zero, List.set_cons_succ, List.getElem_toArray, List.getElem_cons_zero, List.getElem_cons_succ]
        refine wpAnyH_ready (rs := [27]) (by kernel_rfl) (by simp) ?_
        refine AllReadyH.cons rfl (fun K hK => ?_) AllReadyH.nil
        go_simp
        (go_at_call 32; refine (equalP_any _ _ l l _ kF.pl ⟨SlT.of_owns oF, HWl.out⟩).mono ?_; rintro e wG ⟨rfl, nG, hwG⟩; have kG := kF.later (W' := wG) (by rw [hwG]; exact later_drewN _ nG); clear hwG)
        try go_wp2_with fail
        refine hK.out _ _ kG.four (fun hH27 => ?_)
        clear hK K hH26
        try simp only [Act.put, List.setIfInBounds_toArray, List.set_cons_zero, List.set_cons_succ, List.getElem_toArray, List.getElem_cons_zero, List.getElem_cons_succ]
        refine wpAnyH_take (i := 28) (v := ?v21) rfl (by kernel_rfl) (by kernel_rfl) (by kernel_rfl) (fun _ _ _ h => h) (Or.inl ⟨by rfl, ?hy21⟩) (by assumption) ?rest21
        case hy21 => (intro w hSw; (try dsimp only at hSw); go_simp; try (with_reducible rfl))
        try simp only [Act.put, List.setIfInBounds_toArray, List.set_cons_zero, List.set_cons_succ, List.getElem_toArray, List.getElem_cons_zero, List.getElem_cons_succ]
        refine wpAnyH_take (i := 29) (v := ?v22) rfl (by kernel_rfl) (by kernel_rfl) (by kernel_rfl) (fun _ _ _ h => h) (Or.inl ⟨by rfl, ?hy22⟩) (by assumption) ?rest22
        case hy22 => (intro w hSw; (try dsimp only at hSw); go_simp; try (with_reducible rfl))
        try simp only [Act.put, List.setIfInBounds_toArray, List.set_cons_zero, List.set_cons_succ, List.getElem_toArray, List.getElem_cons_zero, List.getElem_cons_succ]
        refine wpAnyH_done (by kernel_rfl) ?_ _
        refine NoPanic.normal ?_
        all_goals go_wp2_with fail
        all_goals go_ret
        all_goals exact ⟨by simp, kG.1⟩
      · have HTR := Lib.hid ht
        clear ht
        go_wp2_with fail
        refine (right7_any _ _ B L _ k8.bb k8.ll).mono ?_
        rintro e wa ⟨rfl, hba⟩
        rw [decide_eq_false HTR.out]
        have ka := k8.later hba
        clear x0 x1 hx1l z0 z1 hx3l
        obtain ⟨⟨x0, x1, hx1l⟩, z0, z1, hx3l⟩ := ka.cells
        go_wp2_with fail
        have kb := ka
        refine (check_any _ _ B L _ kb.bb kb.ll).mono ?_
        rintro e wc ⟨rfl, hbc⟩
        rw [if_neg HTR.out]
        have kc := kb.later hbc
        have kd := kc.later (later_drew wc)
        have hx4 := kc.four
        clear x0 x1 hx1l z0 z1 hx3l
        go_wp2_with fail
        go_region_held3 (fun W' => W'.cell? ⟨X3, 0, none⟩ = some (.slice ab B0.length cb) ∧ W'.cell? ⟨X3, 1, none⟩ = some (.slice al L0.length cl) ∧ W'.cell? ⟨X6, 0, none⟩ = some (.slice a6 B.length c6) ∧ W'.cell? ⟨X6, 1, none⟩ = some (.slice a7 L.length c7))
          (first | exact hx4 | exact kR.four | exact kE.four | exact kO.four | exact kS.four | exact kF.four | exact kG.four | assumption)
          (first
            | (go_at_call 33; refine (run_no _ _ B L _ kd.bb kd.ll HTR.out).mono ?_; rintro e wR ⟨rfl, hbR⟩; have kR := kd.later hbR)
            | (go_at_call 36; refine (HOwn.out _ kE.1).mono ?_; rintro e wO ⟨aO, cO, aP, cP, rfl, oO, oP, hbO⟩; have kO := kE.later hbO)
            | (go_at_call 39; refine (same7_any _ _ _ _ B B L L _ kO.bb kO.ll ⟨SlT.of_owns oO, HWB.out⟩ (SlI.of_owns oP HWL.out)).mono ?_; rintro e wS ⟨rfl, hbS⟩; have kS := kO.later hbS)
            | (go_at_call 35; refine (HFew.out _ kS.1).mono ?_; rintro e wF ⟨aF, cF, rfl, oF, hbF⟩; have kF := kS.later hbF)
            | (go_at_call 32; refine (equalP_any _ _ l l _ kF.pl ⟨SlT.of_owns oF, HWl.out⟩).mono ?_; rintro e wG ⟨rfl, nG, hwG⟩; have kG := kF.later (W' := wG) (by rw [hwG]; exact later_drewN _ nG); clear hwG)
            | (go_at_call 32; refine (equalP_any _ _ [] [] _ (SlP.nil _) (SlP.nil _)).mono ?_; rintro e wE ⟨rfl, nE, hwE⟩; have kE := kR.later (W' := wE) (by rw [hwE]; exact later_drewN _ nE); clear hwE))
        all_goals go_wp2_with fail
        all_goals go_ret
        all_goals exact ⟨by simp, kG.1⟩
    · obtain ⟨rfl, rfl, rfl⟩ := hno hr
      clear hyes hno
      have HR := Lib.hid hr
      clear hr
      go_wp2_with fail
      have hb5 := later_alloc w4 (.cells #[.slice none 0 0, .slice none 0 0] 25)
      have hX7 := box_new w4 #[.slice none 0 0, .slice none 0 0] 25
      obtain ⟨W5, hW5⟩ : ∃ W, w4.alloc (.cells #[.slice none 0 0, .slice none 0 0] 25) = W := ⟨_, rfl⟩
      obtain ⟨X7, hX7e⟩ : ∃ X, w4.heap.size = X := ⟨_, rfl⟩
      rw [hW5] at hb5 hX7 ⊢
      simp only [hX7e] at hX7 ⊢
      have k5 := k4.later hb5
      clear hW5 hX7e hb5 k4 hb4
      refine (right3_any _ l _ k5.2.2.2.2.1).mono ?_
      rintro e w6 ⟨rfl, hb6⟩
      rw [decide_eq_false HR.out]
      have k8 := k5.later hb6
      have hX7 := (hb6.block _ (lt_of_block hX7)).trans hX7
      have y0 := box_cell (i := 0) hX7
      have y1 := box_cell (i := 1) hX7
      simp at y0 y1
      clear k5 hb6
      obtain ⟨⟨x0, x1, hx1l⟩, z0, z1, hx3l⟩ := k8.cells
      by_cases ht : TrieOk B L
      · have HTR := Lib.hid ht
        clear ht
        go_wp2_with fail
        refine (right7_any _ _ B L _ k8.bb k8.ll).mono ?_
        rintro e wa ⟨rfl, hba⟩
        rw [decide_eq_true HTR.out]
        have ka := k8.later hba
        clear x0 x1 hx1l z0 z1 hx3l
        obtain ⟨⟨x0, x1, hx1l⟩, z0, z1, hx3l⟩ := ka.cells
        go_wp2_with fail
        refine (refrun_any _ _ B L _ ka.bb ka.ll HTR.out).mono ?_
        rintro e wb ⟨v9, rfl, o9, hbb⟩
        obtain ⟨a9, c9, rfl⟩ := owns_shape2 o9
        have kb := ka.later hbb
        clear x0 x1 hx1l z0 z1 hx3l
        obtain ⟨⟨x0, x1, hx1l⟩, z0, z1, hx3l⟩ := kb.cells
        go_wp2_with fail
        refine (check_any _ _ B L _ kb.bb kb.ll).mono ?_
        rintro e wc ⟨rfl, hbc⟩
        rw [if_pos HTR.out]
        have kc := kb.later hbc
        have s9 : SlP wc (.slice a9 (runOf B L).length c9) (runOf B L) := ⟨SlT.of_owns (owns_later o9 hbc), run_wf kc.bb kc.ll⟩
        have kd := kc.later (later_drew wc)
        have hx4 := kc.four
        clear x0 x1 hx1l z0 z1 hx3l
        go_wp2_with fail
        refine wp_region_noPanic ?_
        refine wp_region_held_drew (S := fun W' => W'.cell? ⟨X3, 0, none⟩ = some (.slice ab B0.length cb) ∧ W'.cell? ⟨X3, 1, none⟩ = some (.slice al L0.length cl) ∧ W'.cell? ⟨X6, 0, none⟩ = some (.slice a6 B.length c6) ∧ W'.cell? ⟨X6, 1, none⟩ = some (.slice a7 L.length c7)) (by kernel_rfl) ?_ (fun hHeld => ?_)
        · exact hx4
        refine wpAnyH_take (i := 0) (v := ?v23) rfl (by kernel_rfl) (by kernel_rfl) (by kernel_rfl) (fun _ _ _ h => h) (Or.inl ⟨by rfl, ?hy23⟩) (by assumption) ?rest23
        case hy23 => (intro w hSw; (try dsimp only at hSw); go_simp; try (with_reducible rfl))
        try simp only [Act.put, List.setIfInBounds_toArray, List.set_cons_zero, List.set_cons_succ, List.getElem_toArray, List.getElem_cons_zero]
        refine wpAnyH_take (i := 1) (v := ?v24) rfl (by kernel_rfl) (by kernel_rfl) (by kernel_rfl) (fun _ _ _ h => h) (Or.inl ⟨by rfl, ?hy24⟩) (by assumption) ?rest24
        case hy24 => (intro w hSw; (try dsimp only at hSw); go_simp; try (with_reducible rfl))
        try simp only [Act.put, List.setIfInBounds_toArray, List.set_cons_zero, List.set_cons_succ, List.getElem_toArray, List.getElem_cons_zero, List.getElem_cons_succ]
        refine wpAnyH_take (i := 2) (v := ?v25) rfl (by kernel_rfl) (by kernel_rfl) (by kernel_rfl) (fun _ _ _ h => h) (Or.inl ⟨by rfl, ?hy25⟩) (by assumption) ?rest25
        case hy25 => (intro w hSw; (try dsimp only at hSw); go_simp; try (with_reducible rfl))
        try simp only [Act.put, List.setIfInBounds_toArray, List.set_cons_zero, List.set_cons_succ, List.getElem_toArray, List.getElem_cons_zero, List.getElem_cons_succ]
        refine wpAnyH_take (i := 3) (v := ?v26) rfl (by kernel_rfl) (by kernel_rfl) (by kernel_rfl) (fun _ _ _ h => h) (Or.inl ⟨by rfl, ?hy26⟩) (by assumption) ?rest26
        case hy26 => (intro w hSw; (try dsimp only at hSw); go_simp; try (with_reducible rfl))
        try simp only [Act.put, List.setIfInBounds_toArray, List.set_cons_zero, List.set_cons_succ, List.getElem_toArray, List.getElem_cons_zero, List.getElem_cons_succ]
        refine wpAnyH_take (i := 4) (v := ?v27) rfl (by kernel_rfl) (by kernel_rfl) (by kernel_rfl) (fun _ _ _ h => h) (Or.inl ⟨by rfl, ?hy27⟩) (by assumption) ?rest27
        case hy27 => (intro w hSw; (try dsimp only at hSw); go_simp; try (with_reducible rfl))
        try simp only [Act.put, List.setIfInBounds_toArray, List.set_cons_zero, List.set_cons_succ, List.getElem_toArray, List.getElem_cons_zero, List.getElem_cons_succ]
        refine wpAnyH_take (i := 5) (v := ?v28) rfl (by kernel_rfl) (by kernel_rfl) (by kernel_rfl) (fun _ _ _ h => h) (Or.inl ⟨by rfl, ?hy28⟩) (by assumption) ?rest28
        case hy28 => (intro w hSw; (try dsimp only at hSw); go_simp; try (with_reducible rfl))
        try simp only [Act.put, List.setIfInBounds_toArray, List.set_cons_zero, List.set_cons_succ, List.getElem_toArray, List.getElem_cons_zero, List.getElem_cons_succ]
        refine wpAnyH_take (i := 6) (v := ?v29) rfl (by kernel_rfl) (by kernel_rfl) (by kernel_rfl) (fun _ _ _ h => h) (Or.inl ⟨by rfl, ?hy29⟩) (by assumption) ?rest29
        case hy29 => (intro w hSw; (try dsimp only at hSw); go_simp; try (with_reducible rfl))
        try simp only [Act.put, List.setIfInBounds_toArray, List.set_cons_zero, List.set_cons_succ, List.getElem_toArray, List.getElem_cons_zero, List.getElem_cons_succ]
        refine wpAnyH_ready (rs := [7]) (by kernel_rfl) (by simp) ?_
        refine AllReadyH.cons rfl (fun K hK => ?_) AllReadyH.nil
        go_simp
        refine hK.out _ _ hHeld (fun _ => ?_)
        clear hK K
        refine wpAnyH_ready (rs := [8]) (by kernel_rfl) (by simp) ?_
        refine AllReadyH.cons rfl (fun K hK => ?_) AllReadyH.nil
        go_simp
        refine hK.out _ _ hHeld (fun _ => ?_)
        clear hK K
        refine wpAnyH_take (i := 9) (v := ?v30) rfl (by kernel_rfl) (by kernel_rfl) (by kernel_rfl) (fun _ _ _ h => h) (Or.inl ⟨by rfl, ?hy30⟩) (by assumption) ?rest30
        case hy30 => (intro w hSw; (try dsimp only at hSw); go_simp; try (with_reducible rfl))
        try simp only [Act.put, List.setIfInBounds_toArray, List.set_cons_zero, List.set_cons_succ, List.getElem_toArray, List.getElem_cons_zero, List.getElem_cons_succ]
        refine wpAnyH_take (i := 10) (v := ?v31) rfl (by kernel_rfl) (by kernel_rfl) (by kernel_rfl) (fun _ _ _ h => h) (Or.inl ⟨by rfl, ?hy31⟩) (by assumption) ?rest31
        case hy31 => (intro w hSw; (try dsimp only at hSw); go_simp; try (with_reducible rfl))
        try simp only [Act.put, List.setIfInBounds_toArray, List.set_cons_zero, List.set_cons_succ, List.getElem_toArray, List.getElem_cons_zero, List.getElem_cons_succ]
        refine wpAnyH_take (i := 11) (v := ?v32) rfl (by kernel_rfl) (by kernel_rfl) (by kernel_rfl) (fun _ _ _ h => h) (Or.inl ⟨by rfl, ?hy32⟩) (by assumption) ?rest32
        case hy32 => (intro w hSw; (try dsimp only at hSw); go_simp; try (with_reducible rfl))
        try simp only [Act.put, List.setIfInBounds_toArray, List.set_cons_zero, List.set_cons_succ, List.getElem_toArray, List.getElem_cons_zero, List.getElem_cons_succ]
        refine wpAnyH_take (i := 12) (v := ?v33) rfl (by kernel_rfl) (by kernel_rfl) (by kernel_rfl) (fun _ _ _ h => h) (Or.inl ⟨by rfl, ?hy33⟩) (by assumption) ?rest33
        case hy33 => (intro w hSw; (try dsimp only at hSw); go_simp; try (with_reducible rfl))
        try simp only [Act.put, List.setIfInBounds_toArray, List.set_cons_zero, List.set_cons_succ, List.getElem_toArray, List.getElem_cons_zero, List.getElem_cons_succ]
        refine wpAnyH_take (i := 14) (v := ?v34) rfl (by kernel_rfl) (by kernel_rfl) (by kernel_rfl) (fun _ _ _ h => h) (Or.inl ⟨by rfl, ?hy34⟩) (by assumption) ?rest34
        case hy34 => (intro w hSw; (try dsimp only at hSw); go_simp; try (with_reducible rfl))
        try simp only [Act.put, List.setIfInBounds_toArray, List.set_cons_zero, List.set_cons_succ, List.getElem_toArray, List.getElem_cons_zero, List.getElem_cons_succ]
        refine wpAnyH_ready (rs := [13]) (by kernel_rfl) (by simp) ?_
        refine AllReadyH.cons rfl (fun K hK => ?_) AllReadyH.nil
        go_simp
        (go_at_call 33; refine (run_any _ _ B L _ kd.bb kd.ll HTR.out).mono ?_; rintro e wR ⟨vR, rfl, oR, hbR⟩; obtain ⟨aR, cR, rfl⟩ := owns_shape2 oR; have kR := kd.later hbR)
        try go_wp2_with fail
        refine hK.out _ _ kR.four (fun hH13 => ?_)
        clear hK K hHeld
        try simp only [Act.put, List.setIfInBounds_toArray, List.set_cons_zero, List.set_cons_succ, List.getElem_toArray, List.getElem_cons_zero, List.getElem_cons_succ]
        refine wpAnyH_ready (rs := [15]) (by kernel_rfl) (by simp) ?_
        refine AllReadyH.cons rfl (fun K hK => ?_) AllReadyH.nil
        go_simp
        (go_at_call 32; refine (equalP_any _ _ (runOf B L) (runOf B L) _ ⟨SlT.of_owns oR, run_wf kR.bb kR.ll⟩ ((s9.later (later_drew wc)).later hbR)).mono ?_; rintro e wE ⟨rfl, nE, hwE⟩; have kE := kR.later (W' := wE) (by rw [hwE]; exact later_drewN _ nE); clear hwE)
        try go_wp2_with fail
        refine hK.out _ _ kE.four (fun hH15 => ?_)
        clear hK K hH13
        try simp only [Act.put, List.setIfInBounds_toArray, List.set_cons_zero, List.set_cons_succ, List.getElem_toArray, List.getElem_cons_zero, List.getElem_cons_succ]
        refine wpAnyH_take (i := 16) (v := ?v35) rfl (by kernel_rfl) (by kernel_rfl) (by kernel_rfl) (fun _ _ _ h => h) (Or.inl ⟨by rfl, ?hy35⟩) (by assumption) ?rest35
        case hy35 => (intro w hSw; (try dsimp only at hSw); go_simp; try (with_reducible rfl))
        try simp only [Act.put, List.setIfInBounds_toArray, List.set_cons_zero, List.set_cons_succ, List.getElem_toArray, List.getElem_cons_zero, List.getElem_cons_succ]
        refine wpAnyH_take (i := 17) (v := ?v36) rfl (by kernel_rfl) (by kernel_rfl) (by kernel_rfl) (fun _ _ _ h => h) (Or.inl ⟨by rfl, ?hy36⟩) (by assumption) ?rest36
        case hy36 => (intro w hSw; (try dsimp only at hSw); go_simp; try (with_reducible rfl))
        try simp only [Act.put, List.setIfInBounds_toArray, List.set_cons_zero, List.set_cons_succ, List.getElem_toArray, List.getElem_cons_zero, List.getElem_cons_succ]
        refine wpAnyH_take (i := 18) (v := ?v37) rfl (by kernel_rfl) (by kernel_rfl) (by kernel_rfl) (fun _ _ _ h => h) (Or.inl ⟨by rfl, ?hy37⟩) (by assumption) ?rest37
        case hy37 => (intro w hSw; (try dsimp only at hSw); go_simp; try (with_reducible rfl))
        try simp only [Act.put, List.setIfInBounds_toArray, List.set_cons_zero, List.set_cons_succ, List.getElem_toArray, List.getElem_cons_zero, List.getElem_cons_succ]
        refine wpAnyH_take (i := 19) (v := ?v38) rfl (by kernel_rfl) (by kernel_rfl) (by kernel_rfl) (fun _ _ _ h => h) (Or.inl ⟨by rfl, ?hy38⟩) (by assumption) ?rest38
        case hy38 => (intro w hSw; (try dsimp only at hSw); go_simp; try (with_reducible rfl))
        try simp only [Act.put, List.setIfInBounds_toArray, List.set_cons_zero, List.set_cons_succ, List.getElem_toArray, List.getElem_cons_zero, List.getElem_cons_succ]
        refine wpAnyH_ready (rs := [20]) (by kernel_rfl) (by simp) ?_
        refine AllReadyH.cons rfl (fun K hK => ?_) AllReadyH.nil
        go_simp
        (go_at_call 36; refine (HOwn.out _ kE.1).mono ?_; rintro e wO ⟨aO, cO, aP, cP, rfl, oO, oP, hbO⟩; have kO := kE.later hbO)
        try go_wp2_with fail
        refine hK.out _ _ kO.four (fun hH20 => ?_)
        clear hK K hH15
        try simp only [Act.put, List.setIfInBounds_toArray, List.set_cons_zero, List.set_cons_succ, List.getElem_toArray, List.getElem_cons_zero, List.getElem_cons_succ]
        refine wpAnyH_ready (rs := [21]) (by kernel_rfl) (by simp) ?_
        refine AllReadyH.cons rfl (fun K hK => ?_) AllReadyH.nil
        go_simp
        (go_at_call 39; refine (same7_any _ _ _ _ B B L L _ kO.bb kO.ll ⟨SlT.of_owns oO, HWB.out⟩ (SlI.of_owns oP HWL.out)).mono ?_; rintro e wS ⟨rfl, hbS⟩; have kS := kO.later hbS)
        try go_wp2_with fail
        refine hK.out _ _ kS.four (fun hH21 => ?_)
        clear hK K hH20
        try simp only [Act.put, List.setIfInBounds_toArray, List.set_cons_zero, List.set_cons_succ, List.getElem_toArray, List.getElem_cons_zero, List.getElem_cons_succ]
        refine wpAnyH_take (i := 22) (v := ?v39) rfl (by kernel_rfl) (by kernel_rfl) (by kernel_rfl) (fun _ _ _ h => h) (Or.inl ⟨by rfl, ?hy39⟩) (by assumption) ?rest39
        case hy39 => (intro w hSw; (try dsimp only at hSw); go_simp; try (with_reducible rfl))
        try simp only [Act.put, List.setIfInBounds_toArray, List.set_cons_zero, List.set_cons_succ, List.getElem_toArray, List.getElem_cons_zero, List.getElem_cons_succ]
        refine wpAnyH_take (i := 23) (v := ?v40) rfl (by kernel_rfl) (by kernel_rfl) (by kernel_rfl) (fun _ _ _ h => h) (Or.inl ⟨by rfl, ?hy40⟩) (by assumption) ?rest40
        case hy40 => (intro w hSw; (try dsimp only at hSw); go_simp; try (with_reducible rfl))
        try simp only [Act.put, List.setIfInBounds_toArray, List.set_cons_zero, List.set_cons_succ, List.getElem_toArray, List.getElem_cons_zero, List.getElem_cons_succ]
        refine wpAnyH_take (i := 24) (v := ?v41) rfl (by kernel_rfl) (by kernel_rfl) (by kernel_rfl) (fun _ _ _ h => h) (Or.inl ⟨by rfl, ?hy41⟩) (by assumption) ?rest41
        case hy41 => (intro w hSw; (try dsimp only at hSw); go_simp; try (with_reducible rfl))
        try simp only [Act.put, List.setIfInBounds_toArray, List.set_cons_zero, List.set_cons_succ, List.getElem_toArray, List.getElem_cons_zero, List.getElem_cons_succ]
        refine wpAnyH_take (i := 25) (v := ?v42) rfl (by kernel_rfl) (by kernel_rfl) (by kernel_rfl) (fun _ _ _ h => h) (Or.inl ⟨by rfl, ?hy42⟩) (by assumption) ?rest42
        case hy42 => (intro w hSw; (try dsimp only at hSw); go_simp; try (with_reducible rfl))
        try simp only [Act.put, List.setIfInBounds_toArray, List.set_cons_zero, List.set_cons_succ, List.getElem_toArray, List.getElem_cons_zero, List.getElem_cons_succ]
        refine wpAnyH_ready (rs := [26]) (by kernel_rfl) (by simp) ?_
        refine AllReadyH.cons rfl (fun K hK => ?_) AllReadyH.nil
        go_simp
        (go_at_call 35; refine (HFew.out _ kS.1).mono ?_; rintro e wF ⟨aF, cF, rfl, oF, hbF⟩; have kF := kS.later hbF)
        try go_wp2_with fail
        refine hK.out _ _ kF.four (fun hH26 => ?_)
        clear hK K hH21
        try simp only [Act.put, List.setIfInBounds_toArray, List.set_cons_zero, List.set_cons_succ, List.getElem_toArray, List.getElem_cons_zero, List.getElem_cons_succ]
        refine wpAnyH_ready (rs := [27]) (by kernel_rfl) (by simp) ?_
        refine AllReadyH.cons rfl (fun K hK => ?_) AllReadyH.nil
        go_simp
        (go_at_call 32; refine (equalP_any _ _ l l _ kF.pl ⟨SlT.of_owns oF, HWl.out⟩).mono ?_; rintro e wG ⟨rfl, nG, hwG⟩; have kG := kF.later (W' := wG) (by rw [hwG]; exact later_drewN _ nG); clear hwG)
        try go_wp2_with fail
        refine hK.out _ _ kG.four (fun hH27 => ?_)
        clear hK K hH26
        try simp only [Act.put, List.setIfInBounds_toArray, List.set_cons_zero, List.set_cons_succ, List.getElem_toArray, List.getElem_cons_zero, List.getElem_cons_succ]
        refine wpAnyH_take (i := 28) (v := ?v43) rfl (by kernel_rfl) (by kernel_rfl) (by kernel_rfl) (fun _ _ _ h => h) (Or.inl ⟨by rfl, ?hy43⟩) (by assumption) ?rest43
        case hy43 => (intro w hSw; (try dsimp only at hSw); go_simp; try (with_reducible rfl))
        try simp only [Act.put, List.setIfInBounds_toArray, List.set_cons_zero, List.set_cons_succ, List.getElem_toArray, List.getElem_cons_zero, List.getElem_cons_succ]
        refine wpAnyH_take (i := 29) (v := ?v44) rfl (by kernel_rfl) (by kernel_rfl) (by kernel_rfl) (fun _ _ _ h => h) (Or.inl ⟨by rfl, ?hy44⟩) (by assumption) ?rest44
        case hy44 => (intro w hSw; (try dsimp only at hSw); go_simp; try (with_reducible rfl))
        try simp only [Act.put, List.setIfInBounds_toArray, List.set_cons_zero, List.set_cons_succ, List.getElem_toArray, List.getElem_cons_zero, List.getElem_cons_succ]
        refine wpAnyH_done (by kernel_rfl) ?_ _
        refine NoPanic.normal ?_
        all_goals go_wp2_with fail
        all_goals go_ret
        all_goals exact ⟨by simp, kG.1⟩
      · have HTR := Lib.hid ht
        clear ht
        go_wp2_with fail
        refine (right7_any _ _ B L _ k8.bb k8.ll).mono ?_
        rintro e wa ⟨rfl, hba⟩
        rw [decide_eq_false HTR.out]
        have ka := k8.later hba
        clear x0 x1 hx1l z0 z1 hx3l
        obtain ⟨⟨x0, x1, hx1l⟩, z0, z1, hx3l⟩ := ka.cells
        go_wp2_with fail
        have kb := ka
        refine (check_any _ _ B L _ kb.bb kb.ll).mono ?_
        rintro e wc ⟨rfl, hbc⟩
        rw [if_neg HTR.out]
        have kc := kb.later hbc
        have kd := kc.later (later_drew wc)
        have hx4 := kc.four
        clear x0 x1 hx1l z0 z1 hx3l
        go_wp2_with fail
        go_region_held3 (fun W' => W'.cell? ⟨X3, 0, none⟩ = some (.slice ab B0.length cb) ∧ W'.cell? ⟨X3, 1, none⟩ = some (.slice al L0.length cl) ∧ W'.cell? ⟨X6, 0, none⟩ = some (.slice a6 B.length c6) ∧ W'.cell? ⟨X6, 1, none⟩ = some (.slice a7 L.length c7))
          (first | exact hx4 | exact kR.four | exact kE.four | exact kO.four | exact kS.four | exact kF.four | exact kG.four | assumption)
          (first
            | (go_at_call 33; refine (run_no _ _ B L _ kd.bb kd.ll HTR.out).mono ?_; rintro e wR ⟨rfl, hbR⟩; have kR := kd.later hbR)
            | (go_at_call 36; refine (HOwn.out _ kE.1).mono ?_; rintro e wO ⟨aO, cO, aP, cP, rfl, oO, oP, hbO⟩; have kO := kE.later hbO)
            | (go_at_call 39; refine (same7_any _ _ _ _ B B L L _ kO.bb kO.ll ⟨SlT.of_owns oO, HWB.out⟩ (SlI.of_owns oP HWL.out)).mono ?_; rintro e wS ⟨rfl, hbS⟩; have kS := kO.later hbS)
            | (go_at_call 35; refine (HFew.out _ kS.1).mono ?_; rintro e wF ⟨aF, cF, rfl, oF, hbF⟩; have kF := kS.later hbF)
            | (go_at_call 32; refine (equalP_any _ _ l l _ kF.pl ⟨SlT.of_owns oF, HWl.out⟩).mono ?_; rintro e wG ⟨rfl, nG, hwG⟩; have kG := kF.later (W' := wG) (by rw [hwG]; exact later_drewN _ nG); clear hwG)
            | (go_at_call 32; refine (equalP_any _ _ [] [] _ (SlP.nil _) (SlP.nil _)).mono ?_; rintro e wE ⟨rfl, nE, hwE⟩; have kE := kR.later (W' := wE) (by rw [hwE]; exact later_drewN _ nE); clear hwE))
        all_goals go_wp2_with fail
        all_goals go_ret
        all_goals exact ⟨by simp, kG.1⟩
  go_region_held3 (fun W' => W'.cell? ⟨X3, 0, none⟩ = some (.slice ab B0.length cb) ∧ W'.cell? ⟨X3, 1, none⟩ = some (.slice al L0.length cl))
    (first | exact ⟨x0, x1⟩ | (refine cells2_next (W := w2) ?_ ⟨x0, x1⟩; first | exact hbWO | exact hbWF | exact (Below.refl _ w2).alloc (Nat.le_refl _) _ | exact ((Below.refl _ w2).alloc (Nat.le_refl _) _).drew | exact (Below.refl _ w2).drew | exact Below.alloc hbWF hbWF.size _ | exact Below.alloc hbWO hbWO.size _ | exact (hbWO.setCell hbn0 _).setCell hbn0 _) | assumption)
    (first
      | (go_at_call 35; refine (HFew.out _ (later_trans hb02 (later_drew w2))).mono ?_; rintro e wF ⟨a5, c5, rfl, s5, hbF⟩; have hbWF : Below w2.heap.size w2 wF := later_trans (later_drew w2) hbF)
      | (go_at_call 35; refine (HFew.out _ (later_trans hb02 (later_trans (later_alloc w2 _) (later_drew _)))).mono ?_; rintro e wF ⟨a5, c5, rfl, s5, hbF⟩; have hbWF : Below w2.heap.size w2 wF := later_trans (later_trans (later_alloc w2 _) (later_drew _)) hbF; have hbn1 := (hbF.block _ (lt_of_block (box_new w2 #[.slice none 0 0, .slice none 0 0] 25))).trans (box_new w2 #[.slice none 0 0, .slice none 0 0] 25))
      | (go_at_call 36; refine (HOwn.out _ (later_trans hb02 (later_trans hbWF (later_alloc wF _)))).mono ?_; rintro e wO ⟨a6, c6, a7, c7, rfl, s6, s7, hbO⟩; have hbFO : Below wF.heap.size wF wO := later_trans (later_alloc wF _) hbO; have hbWO := later_trans hbWF hbFO; have hbn0 : w2.heap.size ≤ wF.heap.size := hbWF.size; have hbn := (hbO.block _ (lt_of_block (box_new wF #[.slice none 0 0, .slice none 0 0] 25))).trans (box_new wF #[.slice none 0 0, .slice none 0 0] 25); have n0 := box_cell (i := 0) hbn; have n1 := box_cell (i := 1) hbn; simp at n0 n1; have m0 := box_frozen (i := 0) hbn; have m1 := box_frozen (i := 1) hbn)
      | (go_at_call 36; refine (HOwn.out _ (later_trans hb02 hbWF)).mono ?_; rintro e wO ⟨a6, c6, a7, c7, rfl, s6, s7, hbO⟩; have hbFO : Below wF.heap.size wF wO := hbO; have hbWO := later_trans hbWF hbFO; have hbn := (hbO.block _ (lt_of_block hbn1)).trans hbn1; have hbn0 : w2.heap.size ≤ w2.heap.size := Nat.le_refl _; have n0 := box_cell (i := 0) hbn; have n1 := box_cell (i := 1) hbn; simp at n0 n1; have m0 := box_frozen (i := 0) hbn; have m1 := box_frozen (i := 1) hbn)
      | (go_at_call 36; refine (HOwn.out _ (later_trans hb02 hbWF)).mono ?_; rintro e wO ⟨a6, c6, a7, c7, rfl, s6, s7, hbO⟩; have hbFO : Below wF.heap.size wF wO := hbO; have hbWO := later_trans hbWF hbFO))
  · refine HT _ _ _ _ _ _ _ _ ⟨later_trans hb02 (Below.alloc hbWO hbWO.size _), ?_⟩
    have hb9 := later_alloc wO (.cells #[.slice a6 B.length c6, .slice a7 L.length c7] 25)
    have hb8 := Below.alloc hbWO hbWO.size (.cells #[.slice a6 B.length c6, .slice a7 L.length c7] 25)
    have hb7 := later_trans hb02 hb8
    exact ⟨HP.out.later hb7, HB.out.later hb7, HL.out.later hb7, ⟨SlT.of_owns (owns_later s5 (later_trans hbFO hb9)), HWl.out⟩, ⟨SlT.of_owns (owns_later s6 hb9), HWB.out⟩, SlI.of_owns (owns_later s7 hb9) HWL.out, (hb8.block _ hx3l).trans hX3, box_new wO _ _⟩
  all_goals (
    refine HT _ _ _ _ _ _ _ _ ⟨later_trans hb02 ((hbWO.setCell hbn0 _).setCell hbn0 _), ?_⟩
    have hb8 := (hbWO.setCell (p := ⟨_, 0, none⟩) hbn0 (.slice a6 B.length c6)).setCell (p := ⟨_, 1, none⟩) hbn0 (.slice a7 L.length c7)
    have hb7 := later_trans hb02 hb8
    have o5 := own_set (i := 1) (own_set (i := 0) (owns_later s5 hbFO) hbn (by decide) (.slice a6 B.length c6)) (box_set (i := 0) hbn (.slice a6 B.length c6)) (by decide) (.slice a7 L.length c7)
    have o6 := own_set (i := 1) (own_set (i := 0) s6 hbn (by decide) (.slice a6 B.length c6)) (box_set (i := 0) hbn (.slice a6 B.length c6)) (by decide) (.slice a7 L.length c7)
    have o7 := own_set (i := 1) (own_set (i := 0) s7 hbn (by decide) (.slice a6 B.length c6)) (box_set (i := 0) hbn (.slice a6 B.length c6)) (by decide) (.slice a7 L.length c7)
    exact ⟨HP.out.later hb7, HB.out.later hb7, HL.out.later hb7, ⟨SlT.of_owns o5, HWl.out⟩, ⟨SlT.of_owns o6, HWB.out⟩, SlI.of_owns o7 HWL.out, (hb8.block _ hx3l).trans hX3, box_set (i := 1) (box_set (i := 0) hbn _) _⟩)
end Go.Proofs.Ytdfnfdgkhflonaa
