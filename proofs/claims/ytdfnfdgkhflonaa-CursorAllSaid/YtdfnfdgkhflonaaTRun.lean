/-
  trie.Run, walked.
-/
import Derived.Test.YtdfnfdgkhflonaaTPairs
import Derived.Test.YtdfnfdgkhflonaaTCheck
import Derived.Test.YtdfnfdgkhflonaaTOfP
namespace Go.Proofs.Ytdfnfdgkhflonaa
open Go.RowKit Go.Shelf
set_option linter.unusedVariables false
attribute [local go_sem] Oper.semAt_some

theorem pairsF_any (vb vl pv : Value) (w : World) :
    Calls Try.prog 76 #[.agg #[vb, vl, pv]] w fun en w' => en = .returned (.func (.func 109) #[] #[.pointer (some ⟨w.heap.size, 0, none⟩)]) ∧ w' = w.alloc (.cells #[vb, vl, pv] 120) := by
  go_enter Try.func76, Try.ntmps76
  go_wp2
  go_ret
  exact ⟨rfl, rfl⟩

theorem box_kept {W W' : World} {row : Option Nat} {B b : Nat} {cs : Array Value} {e : TypeId} {fr : Nat × Nat} (h : W.heap[b]? = some (.cells cs e fr)) (hg : W.grownBy W' row) (hr : ∀ r, row = some r → B ≤ r ∧ ∃ o : Obj, W.heap[r]? = some o ∧ o.isCells = false) : W'.heap[b]? = some (.cells cs e fr) := by
  refine (hg.block b (lt_of_block h) ?_).trans h
  intro e1
  obtain ⟨_, o, h1, h2⟩ := hr b e1.symm
  rw [h] at h1
  cases h1
  simp [Obj.isCells] at h2
theorem ownsRow_kept {W W' : World} {row : Option Nat} {B base : Nat} {e : TypeId} {size : Nat} {v : Value} {n : Nat} {xs : List Value} (h : W.ownsRow base e size v n xs) (hg : W.grownBy W' row) (hr : ∀ r, row = some r → B ≤ r ∧ ∃ o : Obj, W.heap[r]? = some o ∧ o.isCells = false) : W'.ownsRow base e size v n xs := by
  obtain ⟨h1, h2⟩ := h
  refine ⟨h1, ?_⟩
  rcases h2 with h2 | ⟨g, cap, cur, hv, hg', hh, r⟩
  · exact .inl h2
  · exact .inr ⟨g, cap, cur, hv, hg', box_kept hh hg hr, r⟩

theorem own_isCells {w : World} {base : Nat} {e : TypeId} {size : Nat} {v : Value} {n : Nat} {xs : List Value} (h : w.ownsRow base e size v n xs) : ∀ (j : Nat) (o : Obj), v.ownBlock = some j → w.heap[j]? = some o → o.isCells = true := by
  intro j o h1 h2
  rcases h.2 with ⟨rfl, rfl⟩ | ⟨g, cap, cur, rfl, hg, hh, r⟩
  · simp [Value.ownBlock] at h1
  · simp [Value.ownBlock] at h1
    subst h1
    rw [hh] at h2
    cases h2
    rfl

/-- What Run's range keeps. -/
def RunI (w : World) (T base : Nat) (pre : List Pr) (V : World) : Prop :=
  ∃ v, V.heap[T]? = some (.cells #[v] 57 (0, 0)) ∧ V.ownsRow base 59 2 v pre.length (pre.flatMap Pr.cells) ∧ base ≤ V.heap.size ∧ Below w.heap.size w V
theorem runI_kept {w : World} {T base D : Nat} (hD : w.heap.size ≤ D) : OwnFrom D (RunI w T base) := by
  rintro pre A B' row ⟨v, h1, h2, h3, h4⟩ hg hr
  exact ⟨v, box_kept h1 hg hr, ownsRow_kept h2 hg hr, Nat.le_trans h3 hg.size, ownFrom_below (Nat.le_refl _) hD () A B' row h4 hg hr⟩

set_option maxRecDepth 100000 in
set_option maxHeartbeats 2000000 in
theorem run_any (vb vl : Value) (B : List Br) (L : List Int) (w : World) (hB : SlB w vb B) (hL : SlI .u64 w vl L) (hok : TrieOk B L) :
    Calls Try.prog 33 #[.agg #[vb, vl]] w fun e w' => ∃ v', e = .returned v' ∧ w'.ownsRow w.heap.size 59 2 v' (runOf B L).length ((runOf B L).flatMap Pr.cells) ∧ Below w.heap.size w w' := by
  obtain ⟨i0, hi, hz0, hz1, hz2⟩ := info_parts info_pair
  obtain ⟨ab, cb, rfl, -⟩ := hB.open
  obtain ⟨al, cl, rfl, -⟩ := hL.open
  have HC := Lib.hid (fun W (hW : Below w.heap.size w W) => (check_any _ _ B L W (hB.later hW) (hL.later hW)).mono (R' := fun e w' => e = .returned (.int .i64 0) ∧ Below W.heap.size W w') (by rintro e w' ⟨rfl, h⟩; exact ⟨by rw [if_pos hok], h⟩))
  refine (callsIn_wide (n := 6)).1 ?_
  refine callsIn_of_wp_marks Try.func33 rfl trivial ?_ rfl
  simp only [Try.ntmps33, List.size_toArray, List.length_cons, List.length_nil, Nat.reduceAdd, Nat.reduceSub, Array.replicate_succ, Array.replicate_zero, List.push_toArray, List.append_toArray, List.nil_append, List.cons_append]
  gi_wp2_with (first
    | (refine ⟨trivial, ?_⟩; gi_at_call 31; refine (callsIn_wide.2 (HC.out _ (later_alloc w _))).mono ?_; rintro e w1 ⟨rfl, hb1⟩; have hbx1 := (hb1.block _ (lt_of_block (box_new w #[.slice ab B.length cb, .slice al L.length cl] 25))).trans (box_new w _ _); have b0 := box_cell (i := 0) hbx1; have b1 := box_cell (i := 1) hbx1; simp at b0 b1; have hlt1 := lt_of_block hbx1)
    | (refine ⟨trivial, ?_⟩; gi_at_call 76; refine (callsIn_wide.2 (pairsF_any _ _ _ _)).mono ?_; rintro e w2 ⟨rfl, rfl⟩))
  obtain ⟨T, hTe⟩ : ∃ T, w1.heap.size = T := ⟨_, rfl⟩
  have hnT : w.heap.size < T := by omega
  obtain ⟨Wr, hWr⟩ : ∃ Wr, (w1.alloc (.cells #[.slice none 0 0] 57)).alloc (.cells #[.slice ab B.length cb, .slice al L.length cl, .slice none 0 0] 120) = Wr := ⟨_, rfl⟩
  have hbWr : Below w.heap.size w Wr := by rw [← hWr]; exact later_trans (later_trans (later_alloc w _) hb1) (later_trans (later_alloc w1 _) (later_alloc _ _))
  have hszr : Wr.heap.size = T + 2 := by rw [← hWr, ← hTe]; simp
  have hTr : Wr.heap[T]? = some (.cells #[.slice none 0 0] 57 (0, 0)) := by rw [← hWr, ← hTe]; exact box_alloc (box_new w1 _ _) _
  have hKr : Wr.heap[T + 1]? = some (.cells #[.slice ab B.length cb, .slice al L.length cl, .slice none 0 0] 120 (0, 0)) := by
    rw [← hWr, ← hTe]
    have := box_new (w1.alloc (.cells #[.slice none 0 0] 57)) #[.slice ab B.length cb, .slice al L.length cl, .slice none 0 0] 120
    simpa using this
  rw [hWr]
  simp only [hTe]
  clear hWr hTe b0 b1 hbx1 hb1 hlt1
  refine wpIn_rangeFunc_ownH rfl (by omega) (gf := 109) (lb := #[.pointer (some ⟨T + 1, 0, none⟩)]) rfl trivial (enters_of Try.func109 (by kernel_rfl) rfl)
    (pairs_stops 5 (by omega) _ _ _ B L (T + 1) w Wr hbWr hB hL hok hKr) (fun h k => KPairs.trans h k)
    (fun V l o o' hl ho hc hw => ⟨belowK_b (w := w) (Nat.le_refl _) V l o o' (by omega) ho hc hw, fun b cs e fr _ _ h => by
      rw [World.putObj_heap_other (by rintro rfl; rw [ho] at h; cases h; simp [Obj.isCells] at hc)]; exact h⟩)
    (Below.refl _ _) (fun _ => rfl) (RunI w T Wr.heap.size) (fun _ _ _ => False) (runI_kept (by omega)) (fun _ => fun _ _ _ _ h _ _ => h.elim)
    ⟨_, hTr, World.ownsRow_nil _ _ _ _, Nat.le_refl _, hbWr⟩
    (fun x a' V => ∃ b, b ≠ T ∧ V.heap[b]? = some (.cells #[.int .u64 x.a, .int .u64 x.b] 59 (0, 0)) ∧ Wr.heap.size ≤ b ∧ a' = { tmps := #[.agg #[.slice ab B.length cb, .slice al L.length cl], .pointer (some ⟨w.heap.size, 0, none⟩), .slice none 0 0, .pointer (some ⟨T, 0, none⟩), .pointer (some ⟨b, 0, none⟩),
        .agg #[.slice ab B.length cb, .slice al L.length cl], .int .i64 0, .bool false, .agg #[.slice ab B.length cb, .slice al L.length cl], .agg #[.slice ab B.length cb, .slice al L.length cl, .slice none 0 0],
        .func (.func 109) #[] #[.pointer (some ⟨T + 1, 0, none⟩)], .agg #[.int .u64 x.a, .int .u64 x.b], undef, undef, undef, undef, undef], defers := [] })
    (fun x a' => fun _ A B' row h hg hr => by obtain ⟨b, h1, h2, h3, h4⟩ := h; exact ⟨b, h1, box_kept h2 hg hr, h3, h4⟩) ?assign ?body ?done ?stop
  case assign =>
    intro l pre x V K hI hK
    simp only [encPr]
    gi_wp2
    have hk := later_alloc V (.cells #[.int .u64 x.a, .int .u64 x.b] 59)
    obtain ⟨v, h1, h2, h3, h4⟩ := hI
    refine hK _ _ ((KeepsOthers.alloc V _).from _) (KPairs.later hk (Nat.le_trans (by omega) h3)) ⟨v, box_alloc h1 _, h2.alloc _, Nat.le_trans h3 hk.size, later_trans h4 hk⟩ ⟨V.heap.size, ?_, box_new V _ _, h3, rfl⟩
    have := lt_of_block h1
    omega
  case body =>
    rintro l pre x a' V hl hrec ⟨v, h1, h2, h3, h4⟩ ⟨b, hbT, hpb, hbb, rfl⟩ hpl
    obtain ⟨av, cv, rfl⟩ := owns_shape2 h2
    have t0 := box_cell (i := 0) h1
    have p0 := box_cell (i := 0) hpb
    have p1 := box_cell (i := 1) hpb
    simp at t0 p0 p1
    gi_wp2_with (gi_at_builtin; refine wpListIn_append_own _ rfl (.tmp 12) (.tmp 14) 57 rfl Wr.heap.size 59 i0 _ 2 16 Try.underlying57 hi hz0 hz1 hz2 rfl (by decide) _ _ _ rfl (h2.alloc _) ⟨V.heap.size, 0, none⟩ 1 1 [.int .u64 x.a, .int .u64 x.b] rfl rfl (cells_new _ _ _) (by simp [Value.oneCell']) (by unfold maxLen; omega) (by omega) (by simp; omega) ?_; intro v6 w6 hown6 hgrow6 _; obtain ⟨g6, cap6, rfl⟩ := ownsRow_succ hown6; have hT6 := box_grown (h2.alloc _) hgrow6 (box_alloc h1 _) (by decide); have f6 := box_frozen (i := 0) hT6; have c6 := box_cell (i := 0) hT6; simp at c6)
    have hk := later_alloc V (.cells #[.int .u64 x.a, .int .u64 x.b] 59)
    refine ⟨(((KeepsOthers.alloc V _).trans (KeepsOthers.of_grownBy hgrow6 (own_isCells (h2.alloc _)))).trans (KeepsOthers.setCell _ _ _)).from _, ⟨?_, ?_⟩, ⟨_, box_set hT6 _, ?_, ?_, ?_⟩⟩
    · exact ((hk.mono (by omega)).grown hgrow6 (by simp; omega) (fun k e => Nat.le_trans (by omega) (owns_above h2 k e))).setCell (show w.heap.size ≤ T by omega) _
    · intro b' cs e fr e1 e2 hb'
      refine (heap_setCell_other _ ⟨T, 0, none⟩ b' _ ?_).trans (box_grown (h2.alloc _) hgrow6 (box_alloc hb' _) (Ne.symm e1))
      intro e0
      rw [show b' = T from e0, h1] at hb'
      cases hb'
      exact e2 rfl
    · have h9 := own_set (i := 0) hown6 hT6 (by decide) (.slice (some ⟨g6, 0, none⟩) (pre.length + 1) cap6)
      rw [List.length_append, List.flatMap_append]
      simpa [Pr.cells] using h9
    · exact Nat.le_trans h3 (Nat.le_trans hk.size (Nat.le_trans hgrow6.size (by simp)))
    · exact ((later_trans h4 hk).grown hgrow6 (by simp; omega) (fun k e => Nat.le_trans (by omega) (owns_above h2 k e))).setCell (show w.heap.size ≤ T by omega) _
  case' done =>
    rintro D ys V hD rfl hI hdef
    have hI2 := hI
    obtain ⟨v, h1, h2, h3, h4⟩ := hI
    obtain ⟨av, cv, rfl⟩ := owns_shape2 h2
    have t0 := box_cell (i := 0) h1
    simp at t0
    gi_wp2
    have hI3 := fun o' => OwnFrom.putObj (runI_kept (w := w) (T := T) (base := Wr.heap.size) (by omega)) o' hI2 hD hdef rfl
    refine ⟨by simp, .inl ⟨_, _, rfl, run_takeDeferred hdef, ?_⟩⟩
    refine ⟨_, results_tmp rfl _ _ _, _, rfl, ?_⟩
    obtain ⟨_, _, _, _, g4⟩ := hI3 (Obj.deferred none)
    exact ⟨owns_down (ownsRow_kept (B := Wr.heap.size) h2 (grownBy_putObj' V D _) (fun r e => by cases e; exact ⟨hD, _, hdef, rfl⟩)) (by omega), g4⟩
  case' stop =>
    rintro D c' pre V hD _ h
    exact h.elim
end Go.Proofs.Ytdfnfdgkhflonaa
