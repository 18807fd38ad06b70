/-
  run.Union, walked.
-/
import Derived.Test.YtdfnfdgkhflonaaTMerged
import Derived.Test.YtdfnfdgkhflonaaTRun
namespace Go.Proofs.Ytdfnfdgkhflonaa
open Go.RowKit Go.Shelf
set_option linter.unusedVariables false
attribute [local go_sem] Oper.semAt_some

/-- The told pairs that someone has. -/
def keptL (xs : List (Pr × Bool × Bool)) : List Pr := (xs.filter (fun x => x.2.1 || x.2.2)).map (·.1)
theorem keptL_snoc_yes {xs : List (Pr × Bool × Bool)} {x : Pr × Bool × Bool} (h : (x.2.1 || x.2.2) = true) : keptL (xs ++ [x]) = keptL xs ++ [x.1] := by
  unfold keptL; rw [List.filter_append, List.map_append]; simp [h]
theorem keptL_snoc_no {xs : List (Pr × Bool × Bool)} {x : Pr × Bool × Bool} (h : (x.2.1 || x.2.2) = false) : keptL (xs ++ [x]) = keptL xs := by
  unfold keptL; rw [List.filter_append, List.map_append]; simp [h]
theorem keptL_len (xs : List (Pr × Bool × Bool)) : (keptL xs).length ≤ xs.length := by
  unfold keptL; rw [List.length_map]; exact List.length_filter_le _ _
theorem told_some : ∀ (n : Nat) (xs ys : List Pr), xs.length + ys.length ≤ n → ∀ x ∈ mergeS xs ys, (x.2.1 || x.2.2) = true := by
  intro n
  induction n with
  | zero =>
    intro xs ys h
    obtain rfl : xs = [] := List.eq_nil_of_length_eq_zero (by omega)
    obtain rfl : ys = [] := List.eq_nil_of_length_eq_zero (by omega)
    rw [mergeS_nn]; intro x hx; cases hx
  | succ n ih =>
    intro xs ys h
    match xs, ys, h with
    | [], [], _ => rw [mergeS_nn]; intro x hx; cases hx
    | x :: xs, [], h =>
      rw [mergeS_cn]
      intro z hz
      rcases List.mem_cons.1 hz with rfl | hz
      · rfl
      · exact ih xs [] (by simp at h ⊢; omega) z hz
    | [], y :: ys, h =>
      rw [mergeS_nc]
      intro z hz
      rcases List.mem_cons.1 hz with rfl | hz
      · rfl
      · exact ih [] ys (by simp at h ⊢; omega) z hz
    | x :: xs, y :: ys, h =>
      rcases ahd_or x y with e | rfl | e
      · rw [mergeS_lt _ _ e]
        intro z hz
        rcases List.mem_cons.1 hz with rfl | hz
        · rfl
        · exact ih xs (y :: ys) (by simp at h ⊢; omega) z hz
      · rw [mergeS_eq]
        intro z hz
        rcases List.mem_cons.1 hz with rfl | hz
        · rfl
        · exact ih xs ys (by simp at h ⊢; omega) z hz
      · rw [mergeS_gt _ _ e]
        intro z hz
        rcases List.mem_cons.1 hz with rfl | hz
        · rfl
        · exact ih (x :: xs) ys (by simp at h ⊢; omega) z hz
theorem keptL_all (xs ys : List Pr) : keptL (mergeS xs ys) = unionL xs ys := by
  unfold keptL unionL
  rw [List.filter_eq_self.2 (told_some _ xs ys (Nat.le_refl _))]

theorem mergedF_any (a1 a2 : Option Addr) (n1 n2 c1 c2 : Nat) (w : World) :
    Calls Try.prog 119 #[.slice a1 n1 c1, .slice a2 n2 c2] w fun en w' => en = .returned (.func (.func 136) #[] #[.pointer (some ⟨w.heap.size, 0, none⟩), .pointer (some ⟨w.heap.size + 1, 0, none⟩)]) ∧ w' = (w.alloc (.cells #[.slice a1 n1 c1] 57)).alloc (.cells #[.slice a2 n2 c2] 57) := by
  go_enter Try.func119, Try.ntmps119
  go_wp2
  go_ret
  exact ⟨rfl, rfl⟩

theorem either_any (sa sb : Bool) (w : World) : Calls Try.prog 101 #[.agg #[.bool sa, .bool sb]] w fun e w' => e = .returned (.bool (sa || sb)) ∧ Below w.heap.size w w' := by
  cases sa with
  | true =>
    go_enter Try.func101, Try.ntmps101
    go_wp2
    go_ret
    exact ⟨rfl, later_alloc w _⟩
  | false =>
    go_enter Try.func101, Try.ntmps101
    go_wp2
    go_ret
    exact ⟨rfl, later_alloc w _⟩

theorem keeps_later {A C : World} (h : Below A.heap.size A C) (B : Nat) : KeepsFrom B A C := ⟨h.size, fun k o _ hk _ => (h.block k (Array.getElem?_eq_some_iff.1 hk).1).trans hk⟩
theorem KM.later {n0 K1 K2 : Nat} {A C : World} (h : Below A.heap.size A C) (hn : n0 ≤ A.heap.size) : KM n0 K1 K2 A C :=
  ⟨h.mono hn, fun o e => (h.block _ (Array.getElem?_eq_some_iff.1 e).1).trans e, fun o e => (h.block _ (Array.getElem?_eq_some_iff.1 e).1).trans e⟩

/-- What the range of Union keeps. -/
def UnI (w : World) (T F base : Nat) (pre : List (Pr × Bool × Bool)) (V : World) : Prop :=
  ∃ v, V.heap[T]? = some (.cells #[v] 57 (0, 0)) ∧ V.ownsRow base 59 2 v (keptL pre).length ((keptL pre).flatMap Pr.cells) ∧ base ≤ V.heap.size ∧ Below w.heap.size w V ∧ V.heap[F]? = some (.cells #[.func (.func 101) #[] #[]] 142 (0, 0))
theorem unI_kept {w : World} {T F base D : Nat} (hD : w.heap.size ≤ D) : OwnFrom D (UnI w T F base) := by
  rintro pre A B' row ⟨v, h1, h2, h3, h4, h5⟩ hg hr
  exact ⟨v, box_kept h1 hg hr, ownsRow_kept h2 hg hr, Nat.le_trans h3 hg.size, ownFrom_below (Nat.le_refl _) hD () A B' row h4 hg hr, box_kept h5 hg hr⟩
theorem unI_state {w : World} {T F base r : Nat} {pre : List (Pr × Bool × Bool)} {A B : World} (h : UnI w T F base pre A) (hg : A.grownBy B (some r)) (h1 : r ≠ T) (h2 : r ≠ F) (h3 : r < base) (h4 : w.heap.size ≤ r) : UnI w T F base pre B := by
  obtain ⟨v, g1, g2, g3, g4, g5⟩ := h
  refine ⟨v, (hg.block _ (lt_of_block g1) (by simpa using Ne.symm h1)).trans g1, ?_, Nat.le_trans g3 hg.size, g4.grown hg g4.size (fun k e => by cases e; exact h4), (hg.block _ (lt_of_block g5) (by simpa using Ne.symm h2)).trans g5⟩
  obtain ⟨k1, k2⟩ := g2
  refine ⟨k1, ?_⟩
  rcases k2 with k2 | ⟨g, cap, cur, hv, hgb, hh, rest⟩
  · exact .inl k2
  · exact .inr ⟨g, cap, cur, hv, hgb, (hg.block _ (lt_of_block hh) (by simp; omega)).trans hh, rest⟩

set_option maxRecDepth 100000 in
set_option maxHeartbeats 2000000 in
theorem kept_any (v1 v2 : Value) (L1 L2 : List Pr) (w : World) (h1 : SlP w v1 L1) (h2 : SlP w v2 L2) (hr1 : RunOk L1) (hr2 : RunOk L2) (hl : L1.length + L2.length ≤ 1048575) :
    Calls Try.prog 100 #[v1, v2, .func (.func 101) #[] #[]] w fun e w' => ∃ v', e = .returned (.tuple #[v', .int .i64 0]) ∧ SlP w' v' (unionL L1 L2) ∧ Below w.heap.size w w' := by
  obtain ⟨i0, hi, hz0, hz1, hz2⟩ := info_parts info_pair
  have HC1 := Lib.hid (fun V (hV : Below w.heap.size w V) => (runCheck_any v1 L1 V (h1.later hV)).mono (R' := fun e w' => e = .returned (.int .i64 0) ∧ Below V.heap.size V w') (by rintro e w' ⟨rfl, h⟩; exact ⟨by rw [if_pos hr1], h⟩))
  have HC2 := Lib.hid (fun V (hV : Below w.heap.size w V) => (runCheck_any v2 L2 V (h2.later hV)).mono (R' := fun e w' => e = .returned (.int .i64 0) ∧ Below V.heap.size V w') (by rintro e w' ⟨rfl, h⟩; exact ⟨by rw [if_pos hr2], h⟩))
  have H1 := Lib.hid h1
  have H2 := Lib.hid h2
  have HWF := Lib.hid (union_wf h1.2 h2.2)
  obtain ⟨a1, c1, rfl, -⟩ := h1.open
  obtain ⟨a2, c2, rfl, -⟩ := h2.open
  clear h1 h2
  refine (callsIn_wide (n := 6)).1 ?_
  refine callsIn_of_wp_marks Try.func100 rfl trivial ?_ rfl
  simp only [Try.ntmps100, List.size_toArray, List.length_cons, List.length_nil, Nat.reduceAdd, Nat.reduceSub, Array.replicate_succ, Array.replicate_zero, List.push_toArray, List.append_toArray, List.nil_append, List.cons_append]
  have hF0 := box_new w #[.func (.func 101) #[] #[]] 142
  have hb0 := later_alloc w (.cells #[.func (.func 101) #[] #[]] 142)
  gi_wp2_with (first
    | (refine ⟨trivial, ?_⟩; gi_at_call 80; have hq := hb1; refine (callsIn_wide.2 (HC2.out _ (later_trans hb0 hb1))).mono ?_; rintro e w2 ⟨rfl, hb2⟩)
    | (refine ⟨trivial, ?_⟩; gi_at_call 80; refine (callsIn_wide.2 (HC1.out _ hb0)).mono ?_; rintro e w1 ⟨rfl, hb1⟩)
    | (refine ⟨trivial, ?_⟩; gi_at_call 119; refine (callsIn_wide.2 (mergedF_any _ _ _ _ _ _ _)).mono ?_; rintro e w3 ⟨rfl, rfl⟩))
  obtain ⟨F, hFe⟩ : ∃ F, w.heap.size = F := ⟨_, rfl⟩
  obtain ⟨T, hTe⟩ : ∃ T, w2.heap.size = T := ⟨_, rfl⟩
  have hbW2 := later_trans (later_trans hb0 hb1) hb2
  have hF2 := (hb2.block _ (lt_of_block ((hb1.block _ (lt_of_block hF0)).trans hF0))).trans ((hb1.block _ (lt_of_block hF0)).trans hF0)
  rw [hFe] at hF2
  have hFT : F < T := by have := lt_of_block hF2; omega
  have hnT : w.heap.size ≤ T := by omega
  obtain ⟨Wr, hWr⟩ : ∃ Wr, ((w2.alloc (.cells #[.slice none 0 0] 57)).alloc (.cells #[.slice a1 L1.length c1] 57)).alloc (.cells #[.slice a2 L2.length c2] 57) = Wr := ⟨_, rfl⟩
  have hbWr : Below w.heap.size w Wr := by rw [← hWr]; exact later_trans hbW2 (later_trans (later_alloc w2 _) (later_trans (later_alloc _ _) (later_alloc _ _)))
  have hszr : Wr.heap.size = T + 3 := by rw [← hWr, ← hTe]; simp
  have hTr : Wr.heap[T]? = some (.cells #[.slice none 0 0] 57 (0, 0)) := by rw [← hWr, ← hTe]; exact box_alloc (box_alloc (box_new w2 _ _) _) _
  have hFr : Wr.heap[F]? = some (.cells #[.func (.func 101) #[] #[]] 142 (0, 0)) := by rw [← hWr]; exact box_alloc (box_alloc (box_alloc hF2 _) _) _
  have hK1r : Wr.heap[T + 1]? = some (.cells #[.slice a1 L1.length c1] 57 (0, 0)) := by
    rw [← hWr, ← hTe]
    have := box_new (w2.alloc (.cells #[.slice none 0 0] 57)) #[.slice a1 L1.length c1] 57
    exact box_alloc (by simpa using this) _
  have hK2r : Wr.heap[T + 1 + 1]? = some (.cells #[.slice a2 L2.length c2] 57 (0, 0)) := by
    rw [← hWr, ← hTe]
    have := box_new ((w2.alloc (.cells #[.slice none 0 0] 57)).alloc (.cells #[.slice a1 L1.length c1] 57)) #[.slice a2 L2.length c2] 57
    simpa using this
  rw [hWr]
  simp only [hTe, hFe]
  clear hWr hTe hb1 hb2 hF2 hF0 hb0 hbW2
  refine wpIn_range_state (by omega) (gf := 136) (lb := #[.pointer (some ⟨T + 1, 0, none⟩), .pointer (some ⟨T + 1 + 1, 0, none⟩)]) rfl (enters_of Try.func136 (by kernel_rfl) rfl)
    (merged_stops 5 (by omega) L1 L2 _ _ (T + 1) (T + 1 + 1) w Wr hbWr H1.out H2.out (by omega) (by omega) (by omega) hK1r hK2r) (fun r h => by omega) (fun h k => KM.trans h k)
    (fun V l o o' hl ho hc hw => ⟨belowK_b (w := w) (Nat.le_refl _) V l o o' (by omega) ho hc hw, fun o2 h2 => by rw [World.putObj_heap_other (by omega)]; exact h2, fun o2 h2 => by rw [World.putObj_heap_other (by omega)]; exact h2⟩)
    (Below.refl _ _) (fun _ => rfl) (UnI w T F Wr.heap.size) (unI_kept (by omega)) (fun s A B r hI hg hr => unI_state hI hg (by omega) (by omega) (by omega) (by omega))
    ⟨_, hTr, World.ownsRow_nil _ _ _ _, Nat.le_refl _, hbWr, hFr⟩
    (fun x a' V => ∃ b, b ≠ T ∧ V.heap[b]? = some (.cells #[.int .u64 x.1.a, .int .u64 x.1.b] 59 (0, 0)) ∧ V.heap[b + 1]? = some (.cells #[.bool x.2.1, .bool x.2.2] 144 (0, 0)) ∧ Wr.heap.size ≤ b ∧
      a' = { tmps := #[.slice a1 L1.length c1, .slice a2 L2.length c2, .func (.func 101) #[] #[], undef, undef, .pointer (some ⟨F, 0, none⟩), .slice none 0 0, .int .i64 0, .pointer (some ⟨T, 0, none⟩), .pointer (some ⟨b, 0, none⟩), .pointer (some ⟨b + 1, 0, none⟩),
        .slice a1 L1.length c1, .int .i64 0, .bool false, .bool false, .slice a2 L2.length c2, .int .i64 0, .bool false, .bool false, .slice a1 L1.length c1, .slice a2 L2.length c2, .func (.func 136) #[] #[.pointer (some ⟨T + 1, 0, none⟩), .pointer (some ⟨T + 1 + 1, 0, none⟩)],
        .agg #[.int .u64 x.1.a, .int .u64 x.1.b], .agg #[.bool x.2.1, .bool x.2.2], undef, undef, undef, undef, undef, undef, undef, undef, undef, undef, undef], defers := [] })
    (fun x a' => fun _ A B' row h hg hr => by obtain ⟨b, h1, h2, h3, h4, h5⟩ := h; exact ⟨b, h1, box_kept h2 hg hr, box_kept h3 hg hr, h4, h5⟩) ?assign ?body ?done
  case assign =>
    intro l pre x V K hI hK
    simp only [encM]
    gi_wp2
    have hk := later_trans (later_alloc V (.cells #[.int .u64 x.1.a, .int .u64 x.1.b] 59)) (later_alloc _ (.cells #[.bool x.2.1, .bool x.2.2] 144))
    obtain ⟨v, h1, h2, h3, h4, h5⟩ := hI
    have hs := box_new (V.alloc (.cells #[.int .u64 x.1.a, .int .u64 x.1.b] 59)) #[.bool x.2.1, .bool x.2.2] 144
    have hlt := lt_of_block h1
    refine hK _ _ (keeps_later hk _) (KM.later hk (by omega)) ⟨v, box_alloc (box_alloc h1 _) _, (h2.alloc _).alloc _, Nat.le_trans h3 hk.size, later_trans h4 hk, box_alloc (box_alloc h5 _) _⟩ ⟨V.heap.size, by omega, box_alloc (box_new V _ _) _, by simpa using hs, h3, rfl⟩
  case body =>
    rintro l pre x a' V hl ⟨v, h1, h2, h3, h4, h5⟩ ⟨b, hbT, hpb, hsb, hbb, rfl⟩ hpl
    obtain ⟨av, cv, rfl⟩ := owns_shape2 h2
    have t0 := box_cell (i := 0) h1
    have p0 := box_cell (i := 0) hpb
    have p1 := box_cell (i := 1) hpb
    have q0 := box_cell (i := 0) hsb
    have q1 := box_cell (i := 1) hsb
    have f0 := box_cell (i := 0) h5
    simp at t0 p0 p1 q0 q1 f0
    have hpl2 := keptL_len pre
    cases hsab : (x.2.1 || x.2.2) with
    | false =>
      have HS := Lib.hid hsab
      clear hsab
      gi_wp2_with (refine ⟨trivial, ?_⟩; gi_at_call 101; refine (CallsIn.inRound l (callsIn_wide.2 (either_any _ _ _))).mono ?_; rintro e w5 ⟨rfl, hb5⟩; rw [HS.out])
      refine ⟨keeps_later hb5 _, KM.later hb5 (by omega), ⟨_, (hb5.block _ (lt_of_block h1)).trans h1, ?_, Nat.le_trans h3 hb5.size, later_trans h4 hb5, (hb5.block _ (lt_of_block h5)).trans h5⟩⟩
      rw [keptL_snoc_no HS.out]
      exact owns_later h2 hb5
    | true =>
      have HS := Lib.hid hsab
      clear hsab
      gi_wp2_with (first
        | (refine ⟨trivial, ?_⟩; gi_at_call 101; refine (CallsIn.inRound l (callsIn_wide.2 (either_any _ _ _))).mono ?_; rintro e w5 ⟨rfl, hb5⟩; rw [HS.out]; have hT5 := (hb5.block _ (lt_of_block h1)).trans h1; have hP5 := (hb5.block _ (lt_of_block hpb)).trans hpb; have t5 := box_cell (i := 0) hT5; have p5 := box_cell (i := 0) hP5; have r5 := box_cell (i := 1) hP5; simp at t5 p5 r5; have o5 := owns_later h2 hb5; have sz5 := hb5.size)
        | (gi_at_builtin; refine wpListIn_append_own _ rfl (.tmp 27) (.tmp 29) 57 rfl Wr.heap.size 59 i0 _ 2 16 Try.underlying57 hi hz0 hz1 hz2 rfl (by decide) _ _ _ rfl (o5.alloc _) ⟨w5.heap.size, 0, none⟩ 1 1 [.int .u64 x.1.a, .int .u64 x.1.b] rfl rfl (cells_new _ _ _) (by simp [Value.oneCell']) (by unfold maxLen; omega) (by omega) (by simp; omega) ?_; intro v6 w6 hown6 hgrow6 _; obtain ⟨g6, cap6, rfl⟩ := ownsRow_succ hown6; have hT6 := box_grown (o5.alloc _) hgrow6 (box_alloc hT5 _) (by decide); have f6 := box_frozen (i := 0) hT6; have c6 := box_cell (i := 0) hT6; simp at c6))
      have hk := later_trans hb5 (later_alloc w5 (.cells #[.int .u64 x.1.a, .int .u64 x.1.b] 59))
      have hgT : T < Wr.heap.size := by omega
      have other : ∀ (b' : Nat) (cs : Array Value) (e : TypeId) (fr : Nat × Nat), e ≠ 59 → b' ≠ T → V.heap[b']? = some (.cells cs e fr) → (w6.setCell ⟨T, 0, none⟩ (.slice (some ⟨g6, 0, none⟩) ((keptL pre).length + 1) cap6)).heap[b']? = some (.cells cs e fr) := by
        intro b' cs e fr e1 e2 hb'
        exact (heap_setCell_other _ ⟨T, 0, none⟩ b' _ e2).trans (box_grown (o5.alloc _) hgrow6 (box_alloc ((hb5.block _ (lt_of_block hb')).trans hb') _) (Ne.symm e1))
      have otherB : ∀ (b' : Nat) (o : Obj), b' < Wr.heap.size → b' ≠ T → V.heap[b']? = some o → (w6.setCell ⟨T, 0, none⟩ (.slice (some ⟨g6, 0, none⟩) ((keptL pre).length + 1) cap6)).heap[b']? = some o := by
        intro b' o e1 e2 hb'
        refine (heap_setCell_other _ ⟨T, 0, none⟩ b' _ e2).trans ?_
        have hlt := (Array.getElem?_eq_some_iff.1 hb').1
        refine (hgrow6.block b' (by simp; omega) ?_).trans (((later_alloc w5 _).block b' (by omega)).trans ((hb5.block _ hlt).trans hb'))
        intro e
        have := owns_above (o5.alloc (.cells #[.int .u64 x.1.a, .int .u64 x.1.b] 59)) b' e.symm
        omega
      refine ⟨?_, ⟨?_, fun o e => otherB _ o (by omega) (by omega) e, fun o e => otherB _ o (by omega) (by omega) e⟩, ⟨_, box_set hT6 _, ?_, ?_, ?_, other _ _ _ _ (by decide) (by omega) h5⟩⟩
      · have k1 : KeepsOthers w5 _ := ((KeepsOthers.alloc w5 _).trans (KeepsOthers.of_grownBy hgrow6 (own_isCells (o5.alloc _)))).trans (KeepsOthers.setCell _ ⟨T, 0, none⟩ (.slice (some ⟨g6, 0, none⟩) ((keptL pre).length + 1) cap6))
        exact (keeps_later hb5 _).trans (k1.from _)
      · exact ((hk.mono h4.size).grown hgrow6 (by simp; omega) (fun k e => Nat.le_trans (by omega) (owns_above o5 k e))).setCell (show w.heap.size ≤ T by omega) _
      · have h9 := own_set (i := 0) hown6 hT6 (by decide) (.slice (some ⟨g6, 0, none⟩) ((keptL pre).length + 1) cap6)
        rw [keptL_snoc_yes HS.out, List.length_append, List.flatMap_append]
        simpa [Pr.cells] using h9
      · exact Nat.le_trans h3 (Nat.le_trans hk.size (Nat.le_trans hgrow6.size (by simp)))
      · exact ((later_trans h4 hk).grown hgrow6 (by simp; omega) (fun k e => Nat.le_trans (by omega) (owns_above o5 k e))).setCell (show w.heap.size ≤ T by omega) _
  case done =>
    rintro D ys V hD rfl hI hdef
    have hI2 := hI
    obtain ⟨v, h1, h2, h3, h4, h5⟩ := hI
    rw [keptL_all] at h2
    obtain ⟨av, cv, rfl⟩ := owns_shape2 h2
    have t0 := box_cell (i := 0) h1
    simp at t0
    have hul := union_len L1 L2
    have hbig : decide ((1048576 : Int) < ((unionL L1 L2).length : Int)) = false := decide_eq_false (by omega)
    have hbig2 : decide (1048576 < (unionL L1 L2).length) = false := decide_eq_false (by omega)
    have HW := Lib.hid HWF.out
    obtain ⟨U, hU⟩ : ∃ U, unionL L1 L2 = U := ⟨_, rfl⟩
    rw [hU] at h2 t0 hbig hbig2 hul
    rw [hU] at HW
    have HU := Lib.hid hU
    clear hU
    gi_wp2
    have hI3 := fun o' => OwnFrom.putObj (unI_kept (w := w) (T := T) (F := F) (base := Wr.heap.size) (by omega)) o' hI2 hD hdef rfl
    refine ⟨by simp, .inl ⟨_, _, rfl, run_takeDeferred hdef, ?_⟩⟩
    refine ⟨_, results_tmp2 rfl _ _ _, _, rfl, ?_⟩
    obtain ⟨_, _, _, _, g4, _⟩ := hI3 (Obj.deferred none)
    have hue := HU.out
    subst hue
    exact ⟨⟨SlT.of_owns (ownsRow_kept (B := Wr.heap.size) h2 (grownBy_putObj' V D _) (fun r e => by cases e; exact ⟨hD, _, hdef, rfl⟩)), HW.out⟩, g4⟩

set_option maxRecDepth 100000 in
theorem union_any (v1 v2 : Value) (L1 L2 : List Pr) (w : World) (h1 : SlP w v1 L1) (h2 : SlP w v2 L2) (hr1 : RunOk L1) (hr2 : RunOk L2) (hl : L1.length + L2.length ≤ 1048575) :
    Calls Try.prog 55 #[v1, v2] w fun e w' => ∃ v', e = .returned (.tuple #[v', .int .i64 0]) ∧ SlP w' v' (unionL L1 L2) ∧ Below w.heap.size w w' := by
  have HK := Lib.hid (kept_any v1 v2 L1 L2 w h1 h2 hr1 hr2 hl)
  obtain ⟨a1, c1, rfl, -⟩ := h1.open
  obtain ⟨a2, c2, rfl, -⟩ := h2.open
  clear h1 h2 hr1 hr2
  go_enter Try.func55, Try.ntmps55
  go_wp2_with fail
  refine HK.out.mono ?_
  rintro e w1 ⟨v', rfl, hs, hb⟩
  go_wp2_with fail
  go_ret2
  exact ⟨_, rfl, hs, hb⟩
end Go.Proofs.Ytdfnfdgkhflonaa
