/-
  plan.Order, walked: the order that is chosen; a hint that is none.
-/
import Derived.RangeFuncKeeps
import Derived.RangeFuncOwn
import Derived.RangeFuncFrom
import Derived.Test.YtdmfhlfhlflakaaDoorPlSeq
import Derived.Test.YtdmfhlfhlflakaaDoorPlBnd
namespace Go.Proofs.YtdmfhlfhlflakaaDoor
open Go.RowKit Go.Shelf Go.BigFrame Go.Maps
set_option linter.unusedVariables false
attribute [local go_sem] Oper.semAt_some

theorem box_kept {W W' : World} {row : Option Nat} {B b : Nat} {cs : Array Value} {e : TypeId} {fr : Nat × Nat} (h : W.heap[b]? = some (.cells cs e fr)) (hg : W.grownBy W' row) (hr : ∀ r, row = some r → B ≤ r ∧ ∃ o : Obj, W.heap[r]? = some o ∧ o.isCells = false) : W'.heap[b]? = some (.cells cs e fr) := by
  refine (hg.block b (lt_of_block h) ?_).trans h
  intro e1
  obtain ⟨_, o, h1, h2⟩ := hr b e1.symm
  rw [h] at h1
  cases h1
  simp [Obj.isCells] at h2
theorem ownsRow_kept {W W' : World} {row : Option Nat} {B base : Nat} {e : TypeId} {size : Nat} {v : Value} {n : Nat} {xs : List Value} (h : W.ownsRow base e size v n xs) (hg : W.grownBy W' row) (hr : ∀ r, row = some r → B ≤ r ∧ ∃ o : Obj, W.heap[r]? = some o ∧ o.isCells = false) : W'.ownsRow base e size v n xs := by
  obtain ⟨h1, h2⟩ := h
  refine ⟨h1, ?_⟩
  rcases h2 with h2 | ⟨g, cap, cur, hv, hg', hh, r⟩
  · exact .inl h2
  · exact .inr ⟨g, cap, cur, hv, hg', box_kept hh hg hr, r⟩

theorem own_isCells {w : World} {base : Nat} {e : TypeId} {size : Nat} {v : Value} {n : Nat} {xs : List Value} (h : w.ownsRow base e size v n xs) : ∀ (j : Nat) (o : Obj), v.ownBlock = some j → w.heap[j]? = some o → o.isCells = true := by
  intro j o h1 h2
  rcases h.2 with ⟨rfl, rfl⟩ | ⟨g, cap, cur, rfl, hg, hh, r⟩
  · simp [Value.ownBlock] at h1
  · simp [Value.ownBlock] at h1
    subst h1
    rw [hh] at h2
    cases h2
    rfl
theorem info_row : (Tryd.prog.info? 81).map (fun i => (i.zero, i.size, i.bytes)) = some (some (.slice none 0 0), 1, 24) := by kernel_rfl
theorem keeps_later {A C : World} (h : Below A.heap.size A C) (B : Nat) : KeepsFrom B A C := ⟨h.size, fun k o _ hk _ => (h.block k (Array.getElem?_eq_some_iff.1 hk).1).trans hk⟩

theorem chosenF_any (m : Int) (ev sv : Value) (w : World) (he : ∃ a n c, ev = .slice a n c) (hs : ∃ a n c, sv = .slice a n c) :
    Calls Tryd.prog 60 #[shpV m ev sv] w fun e w' => e = .returned (.func (.func 102) #[] #[.pointer (some ⟨w.heap.size, 0, none⟩)]) ∧ w' = w.alloc (.cells #[.int .i64 m, ev, sv] 27) := by
  obtain ⟨ae, ne, ce, rfl⟩ := he
  obtain ⟨az, nz, cz, rfl⟩ := hs
  have hmf : ∀ (fn : Fn) (first cap : Array Value) (w : World), (Instr.makeFunc fn first cap).run Tryd.prog w = .ok (.func fn first cap) w := fun _ _ _ _ => rfl
  go_enter Tryd.func60, Tryd.ntmps60
  go_wp2
  go_ret
  exact ⟨rfl, rfl⟩

/-- What Order's range keeps. -/
def OrI (w : World) (T base : Nat) (pre : List Int) (V : World) : Prop :=
  ∃ v, V.heap[T]? = some (.cells #[v] 25 (0, 0)) ∧ V.ownsRow base 3 1 v pre.length (pre.map (.int .i64)) ∧ base ≤ V.heap.size ∧ Below w.heap.size w V
theorem orI_kept {w : World} {T base D : Nat} (hD : w.heap.size ≤ D) : OwnFrom D (OrI w T base) := by
  rintro pre A B' row ⟨v, h1, h2, h3, h4⟩ hg hr
  exact ⟨v, box_kept h1 hg hr, ownsRow_kept h2 hg hr, Nat.le_trans h3 hg.size, ownFrom_below (Nat.le_refl _) hD () A B' row h4 hg hr⟩
theorem orI_maps {w : World} {T base : Nat} {pre : List Int} {A B : World} (h : OrI w T base pre A) (hC : ChI w.heap.size A B) : OrI w T base pre B := by
  obtain ⟨v, g1, g2, g3, g4⟩ := h
  obtain ⟨hW, hb⟩ := hC
  refine ⟨v, hW.block _ _ g1 (fun _ _ e => by cases e), ?_, Nat.le_trans g3 hW.size, g4.trans hb⟩
  obtain ⟨k1, k2⟩ := g2
  refine ⟨k1, ?_⟩
  rcases k2 with k2 | ⟨g', cap, cur, hv, hgb, hh, rest⟩
  · exact .inl k2
  · exact .inr ⟨g', cap, cur, hv, hgb, hW.block _ _ hh (fun _ _ e => by cases e), rest⟩

set_option maxRecDepth 100000 in
set_option maxHeartbeats 4000000 in
theorem order_chosen (S : Shp) (ev sv : Value) (a0 : Option Addr) (c0 : Nat) (w : World) (h : ShR w ev sv S) (hok : shpB S = true) :
    Calls Tryd.prog 22 #[shpV S.many ev sv, .slice a0 0 c0] w fun e w' => ∃ v', e = .returned (.tuple #[v', .int .i64 0]) ∧ w'.ownsRow w.heap.size 3 1 v' (chosenTo S S.many.toNat).length ((chosenTo S S.many.toNat).map (.int .i64)) ∧ Below w.heap.size w w' := by
  obtain ⟨j0, hj, jz0, jz1, jz2⟩ := info_parts info_int
  have hb0 := later_alloc w (.cells #[.int .i64 S.many, ev, sv] 27)
  have hC := Check_any S ev sv _ (h.later hb0)
  rw [if_pos hok] at hC
  have hF := fun W => chosenF_any S.many ev sv W (by obtain ⟨a, c, e, -⟩ := h.edges.open; exact ⟨_, _, _, e⟩) (by obtain ⟨a, c, e, -⟩ := h.sizes.open; exact ⟨_, _, _, e⟩)
  have H := Lib.hid (And.intro h hok)
  have HC := Lib.hid hC
  have HF := Lib.hid hF
  obtain ⟨ae, ce, rfl, -⟩ := h.edges.open
  obtain ⟨az, cz, rfl, -⟩ := h.sizes.open
  clear h hok hb0 hC hF
  refine (callsIn_wide (n := 6)).1 ?_
  refine callsIn_of_wp_marks Tryd.func22 rfl trivial ?_ rfl
  simp only [Tryd.ntmps22, List.size_toArray, List.length_cons, List.length_nil, Nat.reduceAdd, Nat.reduceSub, Array.replicate_succ, Array.replicate_zero, List.push_toArray, List.append_toArray, List.nil_append, List.cons_append]
  refine wpIn_wide.2 ?_
  go_wp2_with fail
  refine HC.out.mono ?_
  rintro e w1 ⟨rfl, hb1⟩
  have b1 := new_kept hb1
  have c0 := box_cell (i := 0) b1
  have c1 := box_cell (i := 1) b1
  have c2 := box_cell (i := 2) b1
  simp at c0 c1 c2
  have lw1 := lt_of_block b1
  have HB1 := Lib.hid (below_new hb1)
  clear hb1 b1
  go_wp2_with fail
  refine (HF.out _).mono ?_
  rintro e w5 ⟨rfl, hw5⟩
  have hX5 := box_new (w1.alloc (.cells #[.slice none 0 0] 25)) #[.int .i64 S.many, .slice ae S.edges.length ce, .slice az S.sizes.length cz] 27
  have hT5 := box_alloc (box_new w1 #[.slice none 0 0] 25) (.cells #[.int .i64 S.many, .slice ae S.edges.length ce, .slice az S.sizes.length cz] 27)
  have hb5 : Below w.heap.size w w5 := by rw [hw5]; exact later_trans HB1.out (later_trans (later_alloc _ _) (later_alloc _ _))
  have hs5 : w5.heap.size = w1.heap.size + 2 := by rw [hw5]; simp
  rw [← hw5, World.size_alloc] at hX5
  rw [← hw5] at hT5
  obtain ⟨T0, hT0⟩ : ∃ T0, w1.heap.size = T0 := ⟨_, rfl⟩
  have HT0 : Hid (w.heap.size < T0) := Lib.hid (by rw [← hT0]; exact lw1)
  rw [hT0] at hX5 hT5 hs5
  obtain ⟨q1, q2, q3, q4, -⟩ := shpB_yes H.out.2
  have hks := chosen_seq 5 (by omega) S (w0 := w) (w := w5) H.out.1 q4 q1 q2 hb5 hX5
  have HL : Hid ((chosenTo S S.many.toNat).length ≤ 32) := Lib.hid (by rw [chosenTo_len]; omega)
  clear q1 q2 q3 q4 hw5 c0 c1 c2 lw1
  go_wp2_with fail
  refine (wpIn_wide (n := 6)).1 ?_
  refine wpIn_range_stops (by omega) (gf := 102) (lb := #[.pointer (some ⟨T0 + 1, 0, none⟩)]) rfl (enters_of Tryd.func102 (by kernel_rfl) rfl)
    hks ChI.rest (fun h k => KeepI.trans h k) (fun V l o o' hl ho hc hw' => KeepI.put hb5.size V l o o' hl ho hc hw')
    (Below.refl _ _) (fun _ => rfl) (OrI w T0 w5.heap.size) (fun _ _ _ => False) (orI_kept hb5.size) (fun c => fun _ _ _ _ h => h.elim) (fun _ _ _ _ _ _ _ => trivial)
    (fun s A B hI hW => orI_maps hI hW)
    ⟨_, hT5, World.ownsRow_nil _ _ _ _, Nat.le_refl _, hb5⟩
    (fun x a' V => a' = { tmps := #[shpV S.many (.slice ae S.edges.length ce) (.slice az S.sizes.length cz), .slice a0 0 c0, .pointer (some ⟨w.heap.size, 0, none⟩), undef, .slice none 0 0, .int .i64 0, .pointer (some ⟨T0, 0, none⟩), .int .i64 x, undef, .bool false, .agg #[.int .i64 S.many, .slice ae S.edges.length ce, .slice az S.sizes.length cz], .int .i64 0, .bool false, .bool true, .slice a0 0 c0, .int .i64 0, .bool true, .agg #[.int .i64 S.many, .slice ae S.edges.length ce, .slice az S.sizes.length cz], .func (.func 102) #[] #[.pointer (some ⟨T0 + 1, 0, none⟩)], .int .i64 x, undef, undef, undef, undef, undef, undef, undef, undef, undef, undef, undef, undef, undef, undef, undef, undef, undef], defers := [] })
    (fun x a' => fun _ A B' row h hg hr => h) ?assign ?body ?done (fun D c pre V hD hS hx hd => hx.elim)
  case assign =>
    intro l pre x V KQ hI hK
    simp only [encI]
    gi_wp2
    exact hK _ _ (keeps_later (later_refl V) _) ⟨Below.refl _ _, fun b o hb _ _ => hb⟩ hI rfl
  case body =>
    rintro l pre x a' V hl ⟨v, h1, h2, h3, h4⟩ rfl hpl
    have hs4 := h4.size
    obtain ⟨av, cv, rfl⟩ := owns_shape2 h2
    have t0 := box_cell (i := 0) h1
    have f0 := box_frozen (i := 0) h1
    simp at t0
    have hTV := lt_of_block h1
    gi_wp2_with (first
      | (gi_at_builtin; refine wpListIn_append_own _ rfl (.tmp 20) (.tmp 22) 25 rfl w5.heap.size 3 j0 _ 1 8 Tryd.underlying25 hj jz0 jz1 jz2 rfl (by decide) _ _ _ rfl (h2.alloc _) ⟨V.heap.size, 0, none⟩ 1 1 [.int .i64 x] rfl rfl (cells_new _ _ _) (by simp [Value.oneCell']) (by unfold maxLen; omega) (by omega) (by simp; omega) ?_; intro v6 w6 hown6 hgrow6 _; obtain ⟨g6, cap6, rfl⟩ := ownsRow_succ hown6; have hT6 := box_grown (h2.alloc _) hgrow6 (box_alloc h1 _) (by decide); have t6 := box_cell (i := 0) hT6; have f6 := box_frozen (i := 0) hT6; simp at t6))
    have hk := later_alloc V (.cells #[.int .i64 x] 3)
    have other : ∀ (b' : Nat) (o : Obj), V.heap[b']? = some o → (∀ cs e fr, o = Obj.cells cs e fr → e ≠ 3 ∧ e ≠ 25) → (w6.setCell ⟨T0, 0, none⟩ (.slice (some ⟨g6, 0, none⟩) (pre.length + 1) cap6)).heap[b']? = some o := by
      intro b' o hb' hty
      have hne : b' ≠ T0 := fun e => by
        subst e
        rw [h1] at hb'
        cases hb'
        exact (hty _ _ _ rfl).2 rfl
      refine (heap_setCell_other _ ⟨T0, 0, none⟩ b' _ hne).trans ?_
      refine (hgrow6.block b' (by have := lt_of_block hb'; simp; omega) ?_).trans ((hk.block b' (lt_of_block hb')).trans hb')
      intro e
      have hb2 := (hk.block _ (lt_of_block hb')).trans hb'
      have hic := own_isCells (h2.alloc (.cells #[.int .i64 x] 3)) b' o e.symm hb2
      cases o with
      | cells cs e' fr => exact own_ne (h2.alloc (.cells #[.int .i64 x] 3)) hb2 (fun e2 => (hty _ _ _ rfl).1 e2.symm) e
      | _ => cases hic
    have hbel : Below w.heap.size V (w6.setCell ⟨T0, 0, none⟩ (.slice (some ⟨g6, 0, none⟩) (pre.length + 1) cap6)) :=
      below_set ((hk.mono (by have := h4.size; omega)).grown hgrow6 (by have := h4.size; simp; omega) (fun k e => Nat.le_trans hb5.size (owns_above h2 k e))) (by have := HT0.out; omega)
    refine ⟨?_, ⟨hbel, fun b o hb _ ho => other b o hb ho⟩, ⟨_, box_set hT6 _, ?_, ?_, h4.trans hbel⟩⟩
    · have k1 : KeepsOthers V _ := ((KeepsOthers.alloc V _).trans (KeepsOthers.of_grownBy hgrow6 (own_isCells (h2.alloc _)))).trans (KeepsOthers.setCell _ ⟨T0, 0, none⟩ (.slice (some ⟨g6, 0, none⟩) (pre.length + 1) cap6))
      exact k1.from _
    · have h9 := own_set (i := 0) hown6 hT6 (by decide) (.slice (some ⟨g6, 0, none⟩) (pre.length + 1) cap6)
      simpa using h9
    · exact Nat.le_trans h3 (Nat.le_trans hk.size (Nat.le_trans hgrow6.size (by simp)))
  case done =>
    rintro D ys V hD rfl hI - hdef
    obtain ⟨v9, g1, g2, g3', g4⟩ := id hI
    obtain ⟨av, cv, rfl⟩ := owns_shape2 g2
    have t0 := box_cell (i := 0) g1
    simp at t0
    refine ‹∀ (a : Act) (w_1 : World), _ → _› _ _ ?_
    go_wp2
    refine ⟨by simp, .inl ⟨_, _, rfl, run_takeDeferred hdef, ?_⟩⟩
    refine ⟨_, results_tmp2 rfl _ _ _, _, rfl, ?_, g4.trans (belowK_b (w := w) (Nat.le_refl _) _ D _ _ (by have := hb5.size; omega) hdef rfl rfl)⟩
    exact owns_down (ownsRow_kept (B := w5.heap.size) g2 (grownBy_putObj' V D _) (fun r e => by cases e; exact ⟨hD, _, hdef, rfl⟩)) hb5.size

set_option maxRecDepth 100000 in
set_option maxHeartbeats 2000000 in
theorem order_no (S : Shp) (ev sv hv : Value) (o : List Int) (w : World) (h : ShR w ev sv S) (ho : SlI .i64 w hv o) (hok : shpB S = true) (h0 : 0 < o.length) (hno : ordersB S.many o = false) :
    Calls Tryd.prog 22 #[shpV S.many ev sv, hv] w fun e w' => e = .returned (.tuple #[.slice none 0 0, .int .i64 2]) ∧ Below w.heap.size w w' := by
  have hb0 := later_alloc w (.cells #[.int .i64 S.many, ev, sv] 27)
  have hC := Check_any S ev sv _ (h.later hb0)
  rw [if_pos hok] at hC
  have hO := fun W (hb : Below _ _ W) => orders_any S.many ev sv hv o W (by obtain ⟨a, c, e, -⟩ := h.edges.open; exact ⟨_, _, _, e⟩) (by obtain ⟨a, c, e, -⟩ := h.sizes.open; exact ⟨_, _, _, e⟩) ((SlI.later ho hb0).later hb)
  simp only [hno] at hO
  have HC := Lib.hid hC
  have HO := Lib.hid hO
  have hlen : ((o.length : Int) == 0) = false := by rw [beq_eq_false_iff_ne]; omega
  obtain ⟨ae, ce, rfl, -⟩ := h.edges.open
  obtain ⟨az, cz, rfl, -⟩ := h.sizes.open
  obtain ⟨ao, co, rfl, -⟩ := ho.open
  clear h hok hb0 hC hO ho hno h0
  go_enter Tryd.func22, Tryd.ntmps22
  go_wp2_with fail
  refine HC.out.mono ?_
  rintro e w1 ⟨rfl, hb1⟩
  have b1 := new_kept hb1
  have c0 := box_cell (i := 0) b1
  have c1 := box_cell (i := 1) b1
  have c2 := box_cell (i := 2) b1
  simp at c0 c1 c2
  have HB1 := Lib.hid hb1
  clear hb1 b1
  go_wp2_with fail
  refine (HO.out _ HB1.out).mono ?_
  rintro e w2 ⟨rfl, hb2⟩
  go_wp2_with fail
  go_ret2
  exact ⟨rfl, below_new (later_trans HB1.out hb2)⟩
end Go.Proofs.YtdmfhlfhlflakaaDoor
