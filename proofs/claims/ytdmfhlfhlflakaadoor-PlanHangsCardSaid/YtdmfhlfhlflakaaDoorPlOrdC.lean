/-
  plan.Order at an order, and at a shape that may not be; plan.Orders; the laws' same and few.
-/
import Derived.Laws.CopyOwn
import Derived.Test.YtdmfhlfhlflakaaDoorPlOwn
import Derived.Test.YtdmfhlfhlflakaaDoorPlRefN
namespace Go.Proofs.YtdmfhlfhlflakaaDoor
open Go.RowKit Go.Shelf
set_option linter.unusedVariables false
set_option linter.unusedSimpArgs false

theorem info1_int : (Tryd.prog.info? 3).map (·.size) = some 1 := by kernel_rfl
theorem owns_blockI {w : World} {base : Nat} {e : TypeId} {g n : Nat} {xs : List Value} (h : w.ownsRow base e 1 (.slice (some ⟨g, 0, none⟩) n n) n xs) : w.heap[g]? = some (.cells xs.toArray e (0, 0)) := by
  rcases h.2 with ⟨h', _⟩ | ⟨g', cap, cur, hv, _, hh, _, _, h3, h4⟩
  · cases h'
  · cases hv
    rw [hh]
    have : xs.toArray = cur := by
      rw [← h4, List.take_of_length_le (by simp; omega)]
    rw [this]
theorem copy_srcI {W : World} {a : Option Addr} {n c g : Nat} {cs : List Value} (h : SlC W (.slice a n c) cs) : 0 < cs.length → some (⟨g, 0, none⟩ : Addr) = some ⟨g, 0, none⟩ ∧ ∃ ad, a = some ad ∧ ∀ j v, cs[j]? = some v → W.cell? (ad.add j) = some v := by
  intro h0
  refine ⟨rfl, ?_⟩
  cases a with
  | none => obtain ⟨_, _, e, _, _, _, h4⟩ := h; obtain ⟨b, o, e2, _⟩ := h4 (by intro h1; simp [h1] at h0); cases e; cases e2
  | some ad => exact ⟨ad, rfl, h.cells⟩
theorem copy_ownsI {W : World} {base g n m : Nat} {e : TypeId} {Z cs : List Value} (h : W.heap[g]? = some (.cells (splice Z 0 cs).toArray e (0, 0))) (hg : base ≤ g) (hn : n ≤ maxLen) (hm : m = n) (hcs : cs.length = n := by simp) (hZ : Z.length = m := by simp [madeCells, Value.cells]) :
    W.ownsRow base e 1 (.slice (some ⟨g, 0, none⟩) m m) n cs := by
  subst hm
  have e1 : splice Z 0 cs = cs := by simp [splice]; omega
  rw [e1] at h
  exact ⟨by omega, .inr ⟨g, _, cs.toArray, rfl, hg, h, Nat.le_refl _, hn, by simpa using hcs, List.take_of_length_le (by simp; omega)⟩⟩

set_option maxRecDepth 100000 in
set_option maxHeartbeats 2000000 in
/-- Order at an order: a row of the call's own with the same elements. -/
theorem order_copy (S : Shp) (ev sv hv : Value) (o : List Int) (w : World) (h : ShR w ev sv S) (ho : SlI .i64 w hv o) (hok : shpB S = true) (h0 : 0 < o.length) (hyes : ordersB S.many o = true) :
    Calls Tryd.prog 22 #[shpV S.many ev sv, hv] w fun e w' => ∃ v', e = .returned (.tuple #[v', .int .i64 0]) ∧ w'.ownsRow w.heap.size 3 1 v' o.length (o.map (.int .i64)) ∧ Below w.heap.size w w' := by
  obtain ⟨i0, hi, hz0, hz1, hz2⟩ := info_parts info_int
  have hol : o.length ≤ 32 := by
    have := (shpB_yes hok).2.1
    unfold ordersB at hyes
    simp only [Bool.and_eq_true, decide_eq_true_eq] at hyes
    omega
  have hb0 := later_alloc w (.cells #[.int .i64 S.many, ev, sv] 27)
  have hC := Check_any S ev sv _ (h.later hb0)
  rw [if_pos hok] at hC
  have hO := fun W (hb : Below _ _ W) => orders_any S.many ev sv hv o W (by obtain ⟨a, c, e, -⟩ := h.edges.open; exact ⟨_, _, _, e⟩) (by obtain ⟨a, c, e, -⟩ := h.sizes.open; exact ⟨_, _, _, e⟩) ((SlI.later ho hb0).later hb)
  simp only [hyes] at hO
  have HC := Lib.hid hC
  have HO := Lib.hid hO
  have HH := Lib.hid ho
  have H0 := Lib.hid hb0
  have hlen : ((o.length : Int) == 0) = false := by rw [beq_eq_false_iff_ne]; omega
  obtain ⟨ae, ce, rfl, -⟩ := h.edges.open
  obtain ⟨az, cz, rfl, -⟩ := h.sizes.open
  obtain ⟨ao, co, rfl, -⟩ := ho.open
  obtain ⟨no, hno⟩ : ∃ no, o.length = no := ⟨_, rfl⟩
  have HN := Lib.hid hno
  rw [hno] at hlen hol ⊢
  rw [hno] at HO HH
  clear h hok hb0 hC hO ho hyes h0 hno
  go_enter Tryd.func22, Tryd.ntmps22
  go_wp2_with fail
  refine HC.out.mono ?_
  rintro e w1 ⟨rfl, hb1⟩
  have b1 := new_kept hb1
  have c0 := box_cell (i := 0) b1
  have c1 := box_cell (i := 1) b1
  have c2 := box_cell (i := 2) b1
  simp at c0 c1 c2
  have HB1 := Lib.hid hb1
  clear hb1 b1
  go_wp2_with fail
  refine (HO.out _ HB1.out).mono ?_
  rintro e w2 ⟨rfl, hb2⟩
  have hb02 : Below w.heap.size w w2 := later_trans H0.out (later_trans HB1.out hb2)
  have hs2 := hb02.size
  have HB2 := Lib.hid hb02
  clear hb2 hb02 c0 c1 c2
  go_wp2_with (first | (at_make; refine wpList_make_full w2 rfl (.tmp 31) (.tmp 31) 25 rfl w.heap.size 3 i0 (.int .i64 0) 1 Tryd.underlying25 hi hz0 hz1 .i64 .i64 _ _ no rfl rfl rfl rfl (by rw [hz2]; omega) (by unfold maxLen; omega) hs2 ?_; intro w3 hown3 hgrow3; have hblk := owns_blockI hown3; have hb3 : Below w.heap.size w w3 := HB2.out.grown hgrow3 hs2 (fun k e => by cases e); have hcs := (SlI.later HH.out hb3).1) | ((with_reducible show wpList _ _ _ _ _ _); refine wpList_copy_splice rfl (.tmp 33) (.tmp 34) 25 25 rfl 3 Tryd.underlying25 info1_int _ _ _ _ _ _ rfl rfl w2.heap.size 0 _ 3 hblk (o.map (Value.int .i64)) (by rw [List.length_map, HN.out]; simp) (copy_srcI hcs) (by rw [List.length_map, HN.out]; simp [madeCells, Value.cells]) (ints_oneCell _ _) w.heap.size w hb3 hs2 ?_; intro w5 hw5 hb5))
  go_ret2
  have hmax : no ≤ maxLen := by unfold maxLen; omega
  exact ⟨_, rfl, copy_ownsI hw5.out hs2 hmax rfl (by rw [List.length_map, HN.out]), hb5⟩

set_option maxRecDepth 100000 in
set_option maxHeartbeats 2000000 in
/-- Order at a shape that may not be. -/
theorem order_bad (S : Shp) (ev sv hv : Value) (o : List Int) (w : World) (h : ShR w ev sv S) (ho : SlI .i64 w hv o) (hok : shpB S = false) :
    Calls Tryd.prog 22 #[shpV S.many ev sv, hv] w fun e w' => e = .returned (.tuple #[.slice none 0 0, .int .i64 320]) ∧ Below w.heap.size w w' := by
  have hb0 := later_alloc w (.cells #[.int .i64 S.many, ev, sv] 27)
  have hC := Check_any S ev sv _ (h.later hb0)
  rw [if_neg (by rw [hok]; decide)] at hC
  have HC := Lib.hid hC
  have H0 := Lib.hid hb0
  obtain ⟨ae, ce, rfl, -⟩ := h.edges.open
  obtain ⟨az, cz, rfl, -⟩ := h.sizes.open
  obtain ⟨ao, co, rfl, -⟩ := ho.open
  clear h hok hb0 hC ho
  go_enter Tryd.func22, Tryd.ntmps22
  go_wp2_with fail
  refine HC.out.mono ?_
  rintro e w1 ⟨rfl, hb1⟩
  have HB1 := Lib.hid (later_trans H0.out hb1)
  clear hb1
  go_wp2_with fail
  go_ret2
  exact ⟨rfl, HB1.out⟩

set_option maxRecDepth 100000 in
set_option maxHeartbeats 2000000 in
theorem planOrders1_any (S : Shp) (ev sv hv : Value) (o : List Int) (w : World) (h : ShR w ev sv S) (ho : SlI .i64 w hv o) :
    Calls Tryd.prog 26 #[shpV S.many ev sv, hv] w fun e w' => e = .returned (.bool (shpB S && ordersB S.many o)) ∧ Below w.heap.size w w' := by
  have hb0 := later_alloc w (.cells #[.int .i64 S.many, ev, sv] 27)
  have hC := Check_any S ev sv _ (h.later hb0)
  have hO := fun W (hb : Below _ _ W) => orders_any S.many ev sv hv o W (by obtain ⟨a, c, e, -⟩ := h.edges.open; exact ⟨_, _, _, e⟩) (by obtain ⟨a, c, e, -⟩ := h.sizes.open; exact ⟨_, _, _, e⟩) ((SlI.later ho hb0).later hb)
  have HO := Lib.hid hO
  have H0 := Lib.hid hb0
  obtain ⟨ae, ce, rfl, -⟩ := h.edges.open
  obtain ⟨az, cz, rfl, -⟩ := h.sizes.open
  obtain ⟨ao, co, rfl, -⟩ := ho.open
  by_cases hok : shpB S = true
  · rw [if_pos hok] at hC
    rw [hok, Bool.true_and]
    have HC := Lib.hid hC
    clear h hok hb0 hC hO ho
    go_enter Tryd.func26, Tryd.ntmps26
    go_wp2_with fail
    refine HC.out.mono ?_
    rintro e w1 ⟨rfl, hb1⟩
    have b1 := new_kept hb1
    have c0 := box_cell (i := 0) b1
    have c1 := box_cell (i := 1) b1
    have c2 := box_cell (i := 2) b1
    simp at c0 c1 c2
    have HB1 := Lib.hid hb1
    clear hb1 b1
    go_wp2_with fail
    refine (HO.out _ HB1.out).mono ?_
    rintro e w2 ⟨rfl, hb2⟩
    have HB2 := Lib.hid (later_trans H0.out (later_trans HB1.out hb2))
    clear hb2
    go_wp2_with fail
    go_ret
    exact ⟨rfl, HB2.out⟩
  · rw [if_neg hok] at hC
    rw [Bool.eq_false_iff.2 hok, Bool.false_and]
    have HC := Lib.hid hC
    clear h hok hb0 hC hO ho
    go_enter Tryd.func26, Tryd.ntmps26
    go_wp2_with fail
    refine HC.out.mono ?_
    rintro e w1 ⟨rfl, hb1⟩
    have HB1 := Lib.hid (later_trans H0.out hb1)
    clear hb1
    go_wp2_with fail
    go_ret
    exact ⟨rfl, HB1.out⟩

set_option maxRecDepth 100000 in
set_option maxHeartbeats 2000000 in
/-- slices.EqualFunc at rows, by slices.Equal. -/
theorem EqualFuncR_any (v v' : Value) (ls : List (List Int)) (w : World) (h : SlRK .i64 w v ls) (h' : SlRK .i64 w v' ls) :
    Calls Tryd.prog 63 #[v, v', .func (.func 25) #[] #[]] w fun e w' => e = .returned (.bool true) ∧ Below w.heap.size w w' := by
  have hE : Enters 25 := enters_of Tryd.func25 (by kernel_rfl) rfl
  unfold Enters at hE
  have hlen : ((ls.length : Int) != ls.length) = false := by simp
  have hm := h.len
  have H := Lib.hid (And.intro h h')
  obtain ⟨a, c, rfl, -⟩ := h.open
  obtain ⟨a', c', rfl, -⟩ := h'.open
  clear h h'
  go_enter Tryd.func63, Tryd.ntmps63
  go_wp2_with fail
  go_loopw [17] (fun i wr => ∃ k : Nat, k ≤ ls.length ∧ i = .int .i64 k ∧ Below w.heap.size w wr) (fun i _ => ls.length - (intOf i).toNat)
  case atStart => exact ⟨0, Nat.zero_le _, rfl, Below.refl _ _⟩
  case round =>
    obtain ⟨k, hk, rfl, hb⟩ := hrel
    by_cases hlt : k < ls.length
    · obtain ⟨_, _, e1, _, _, _, g4⟩ := (H.out.1.later hb).open
      obtain ⟨be, oe, e2, _, gc⟩ := g4 (by omega)
      obtain ⟨rv, ce1, hrv⟩ := gc k hlt
      injection e1 with e1a e1b e1c
      subst e1a e1c
      subst e2
      obtain ⟨_, _, f1, _, _, _, f4⟩ := (H.out.2.later hb).open
      obtain ⟨bf, of', f2, _, fc⟩ := f4 (by omega)
      obtain ⟨rv', cf1, hrv'⟩ := fc k hlt
      injection f1 with f1a f1b f1c
      subst f1a f1c
      subst f2
      have hq := equalI_any rv rv' _ _ wr hrv hrv'
      rw [decide_eq_true rfl] at hq
      have HQ := Lib.hid hq
      have HB := Lib.hid hb
      obtain ⟨ar, cr, rfl, -⟩ := hrv.open
      obtain ⟨ar', cr', rfl, -⟩ := hrv'.open
      have hkI : (k : Int) < ls.length := by omega
      clear gc g4 fc f4 hrv hrv' e1b f1b hb hq
      go_wp2_with fail
      refine HQ.out.mono ?_
      rintro e w2 ⟨rfl, n2, hw2⟩
      have HB2 := Lib.hid (later_trans HB.out (show Below wr.heap.size wr w2 by rw [hw2]; exact later_drewN _ _))
      clear hw2
      go_wp2_with fail
      go_roundw
      case rel => first | exact ⟨k + 1, by omega, by go_num, HB2.out⟩ | ((repeat apply Exists.intro); refine ⟨?_, rfl⟩; exact ⟨k + 1, by omega, by go_num, HB2.out⟩)
      case measure => simp [intOf]; omega
    · have HB := Lib.hid hb
      clear hb
      go_wp2_with fail
      go_ret
      exact ⟨rfl, HB.out⟩

set_option maxRecDepth 100000 in
set_option maxHeartbeats 2000000 in
/-- same: of a shape read twice. -/
theorem same_any (S : Shp) (ev sv ev' sv' : Value) (w : World) (h : ShR w ev sv S) (h' : ShR w ev' sv' S) :
    Calls Tryd.prog 27 #[shpV S.many ev sv, shpV S.many ev' sv'] w fun e w' => e = .returned (.bool true) ∧ Below w.heap.size w w' := by
  have hl : Below w.heap.size w ((w.alloc (.cells #[.int .i64 S.many, ev, sv] 27)).alloc (.cells #[.int .i64 S.many, ev', sv'] 27)) := later_trans (later_alloc _ _) (later_alloc _ _)
  have hq1 := EqualFuncR_any ev ev' S.edges _ (h.edges.later hl) (h'.edges.later hl)
  have hq2 := fun W (hb : Below w.heap.size w W) => equalI_any sv sv' S.sizes S.sizes W (SlI.later h.sizes hb) (SlI.later h'.sizes hb)
  rw [decide_eq_true rfl] at hq2
  have hb1 : SB ((w.alloc (.cells #[.int .i64 S.many, ev, sv] 27)).alloc (.cells #[.int .i64 S.many, ev', sv'] 27)) w.heap.size S.many ev sv := box_alloc (box_new _ _ _) _
  have hb2 : SB ((w.alloc (.cells #[.int .i64 S.many, ev, sv] 27)).alloc (.cells #[.int .i64 S.many, ev', sv'] 27)) (w.heap.size + 1) S.many ev' sv' := by have h := box_new (w.alloc (.cells #[.int .i64 S.many, ev, sv] 27)) #[.int .i64 S.many, ev', sv'] 27; rw [World.size_alloc] at h; exact h
  have H := Lib.hid (And.intro hl (And.intro hb1 hb2))
  have H1 := Lib.hid hq1
  have H2 := Lib.hid hq2
  obtain ⟨ae, ce, rfl, -⟩ := h.edges.open
  obtain ⟨az, cz, rfl, -⟩ := h.sizes.open
  obtain ⟨ae', ce', rfl, -⟩ := h'.edges.open
  obtain ⟨az', cz', rfl, -⟩ := h'.sizes.open
  obtain ⟨m, ls, zs⟩ := S
  simp only at H H1 H2 ⊢
  have hmm : (m == m) = true := by simp
  clear h h' hl hq1 hq2 hb1 hb2
  go_enter Tryd.func27, Tryd.ntmps27
  go_wp2_with fail
  refine H1.out.mono ?_
  rintro e w1 ⟨rfl, hb1⟩
  obtain ⟨c0, c1, c2, -, -, -, lS⟩ := three_of' (kept hb1 H.out.2.1)
  obtain ⟨d0, d1, d2, -, -, -, lT⟩ := three_of' (kept hb1 H.out.2.2)
  have HB := Lib.hid (later_trans H.out.1 hb1)
  clear hb1
  go_wp2_with fail
  refine (H2.out _ HB.out).mono ?_
  rintro e w2 ⟨rfl, n2, hw2⟩
  have HB2 := Lib.hid (later_trans HB.out (show Below w1.heap.size w1 w2 by rw [hw2]; exact later_drewN _ _))
  clear hw2
  go_wp2_with fail
  go_ret
  exact ⟨rfl, HB2.out⟩
end Go.Proofs.YtdmfhlfhlflakaaDoor
