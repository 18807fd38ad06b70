/-
  The laws' own: a shape that can be gone through, walked.
-/
import Derived.Deep.RegionHeld3
import Derived.Deep.RegionLaw
import Derived.Deep.DeepCutAuto
import Derived.Deep.AppendLies
import Derived.Test.YtdmfhlfhlflakaaDoorPlWakes
namespace Go.Proofs.YtdmfhlfhlflakaaDoor
open Go.RowKit
set_option linter.unusedVariables false
set_option linter.unusedSimpArgs false

theorem info_rowI : (Tryd.prog.info? 25).map (fun i => (i.zero, i.size, i.bytes)) = some (some (.slice none 0 0), 1, 24) := by kernel_rfl
/-- A row of the call's own stays where a row of another type grows. -/
theorem own_grown {w w' : World} {base base' : Nat} {e e' : TypeId} {size size' : Nat} {v v' : Value} {n n' : Nat} {xs xs' : List Value} (h : w.ownsRow base e size v n xs) (hg : w.grownBy w' v.ownBlock) (k : w.ownsRow base' e' size' v' n' xs') (hne : e ≠ e') : w'.ownsRow base' e' size' v' n' xs' := by
  obtain ⟨k1, k2⟩ := k
  refine ⟨k1, ?_⟩
  rcases k2 with k2 | ⟨g, cap, cur, hv, hg', hh, r⟩
  · exact .inl k2
  · exact .inr ⟨g, cap, cur, hv, hg', box_grown h hg hh hne, r⟩
/-- Rows of the call's own, in a row of the call's own. -/
structure OwnR (base : Nat) (W : World) (v : Value) (ps : List (Value × List Int)) : Prop where
  own : W.ownsRow base 25 1 v ps.length (ps.map Prod.fst)
  rows : ∀ p ∈ ps, W.ownsRow base 3 1 p.1 p.2.length (p.2.map (.int .i64)) ∧ ∀ x ∈ p.2, (Lit.int .i64 x).wf = true
theorem OwnR.later {base : Nat} {W W' : World} {v : Value} {ps : List (Value × List Int)} (h : OwnR base W v ps) (hb : Below W.heap.size W W') : OwnR base W' v ps := ⟨owns_later h.own hb, fun p hp => ⟨owns_later (h.rows p hp).1 hb, (h.rows p hp).2⟩⟩
theorem OwnR.slR {base : Nat} {W : World} {v : Value} {ps : List (Value × List Int)} (h : OwnR base W v ps) : SlRK .i64 W v (ps.map Prod.snd) := by
  refine ⟨fun r => (ps.getD r (.slice none 0 0, [])).1, ?_, fun r hr => ?_⟩
  · have e : (List.range (ps.map Prod.snd).length).map (fun r => (ps.getD r (.slice none 0 0, [])).1) = ps.map Prod.fst := by
      refine List.ext_getElem (by simp) fun i h1 h2 => ?_
      simp at h2
      simp [List.getD, List.getElem?_eq_getElem h2]
    rw [e]
    exact SlC.of_owns h.own
  · have hr' : r < ps.length := by simpa using hr
    have := h.rows ps[r] (List.getElem_mem hr')
    have e1 : (ps.getD r (.slice none 0 0, [])).1 = ps[r].1 := by simp [List.getD, List.getElem?_eq_getElem hr']
    have e2 : rowN (ps.map Prod.snd) r = ps[r].2 := by simp [rowN, List.getD, List.getElem?_eq_getElem hr']
    show SlI .i64 W (ps.getD r (.slice none 0 0, [])).1 _
    rw [e1, e2]
    exact SlI.of_owns this.1 this.2
theorem SlRK.cut {k : IntKind} {w : World} {a : Option Addr} {n c : Nat} {ls : List (List Int)} (h : SlRK k w (.slice a n c) ls) {m : Nat} (hm : m ≤ ls.length) : SlRK k w (.slice a m c) (ls.take m) := by
  obtain ⟨rv, ⟨a', c', e, h1, h2, h3, h4⟩, h5⟩ := h
  cases e
  simp only [List.length_map, List.length_range] at h1
  have hl : (ls.take m).length = m := by rw [List.length_take]; omega
  refine ⟨rv, ⟨a, c, by simp [hl], by simp [hl]; omega, h2, h3, fun hne => ?_⟩, fun r hr => ?_⟩
  · obtain ⟨b, o, rfl, hlt, hc⟩ := h4 (by
      intro e
      apply hne
      simp at e
      subst e
      simp)
    refine ⟨b, o, rfl, hlt, fun i u hi => hc i u ?_⟩
    rw [hl] at hi
    have hi' : i < m := by have := (List.getElem?_eq_some_iff.1 hi).1; simpa using this
    simp [hi'] at hi
    simp [show i < ls.length by omega, hi]
  · rw [hl] at hr
    have e : rowN (ls.take m) r = rowN ls r := by
      unfold rowN
      simp [List.getD, List.getElem?_take, hr]
    rw [e]
    exact h5 r (by omega)

theorem three_of {W : World} {X : Nat} {u0 u1 u2 : Value} {t : TypeId} (h : W.heap[X]? = some (.cells #[u0, u1, u2] t (0, 0))) : W.cell? ⟨X, 0, none⟩ = some u0 ∧ W.cell? ⟨X, 1, none⟩ = some u1 ∧ W.cell? ⟨X, 2, none⟩ = some u2 ∧ W.frozen? ⟨X, 0, none⟩ = false ∧ W.frozen? ⟨X, 1, none⟩ = false ∧ W.frozen? ⟨X, 2, none⟩ = false ∧ X < W.heap.size :=
  ⟨box_cell (i := 0) h, box_cell (i := 1) h, box_cell (i := 2) h, box_frozen h, box_frozen h, box_frozen h, lt_of_block h⟩

/-- A shape, cut to what can be gone through. -/
def ownS (S : Shp) : Shp := ⟨S.many, (S.edges.take 41).map fun e => e.take 34, S.sizes.take 41⟩

/-- What own keeps while it copies the edges. -/
structure OwW (w : World) (X : Nat) (m : Int) (ev sv : Value) (zs : List Int) (svc : Value) (ls : List (List Int)) (W : World) : Prop where
  bel : Below w.heap.size w W
  bs : SB W w.heap.size m ev sv
  br : W.heap[w.heap.size + 1]? = some (.cells #[.int .i64 0, .slice none 0 0, .slice none 0 0] 27 (0, 0))
  out : ∃ v ps, SB W X m v svc ∧ OwnR w.heap.size W v ps ∧ ps.map Prod.snd = ls
  siz : W.ownsRow w.heap.size 3 1 svc zs.length (zs.map (.int .i64))
  low : w.heap.size + 1 < X
theorem OwW.later {w W W' : World} {X : Nat} {m : Int} {ev sv svc : Value} {zs : List Int} {ls : List (List Int)} (h : OwW w X m ev sv zs svc ls W) (hb : Below W.heap.size W W') : OwW w X m ev sv zs svc ls W' := by
  obtain ⟨v, ps, h1, h2, h3⟩ := h.out
  exact ⟨later_trans h.bel hb, kept hb h.bs, kept hb h.br, ⟨v, ps, kept hb h1, h2.later hb, h3⟩, owns_later h.siz hb, h.low⟩
theorem OwW.mk0 {w wN : World} {X : Nat} {m : Int} {ev sv svc : Value} {zs : List Int} (bel : Below w.heap.size w wN) (bs : SB wN w.heap.size m ev sv) (br : wN.heap[w.heap.size + 1]? = some (.cells #[.int .i64 0, .slice none 0 0, .slice none 0 0] 27 (0, 0))) (hX : SB wN X m (.slice none 0 0) svc) (siz : wN.ownsRow w.heap.size 3 1 svc zs.length (zs.map (.int .i64))) (low : w.heap.size + 1 < X) : OwW w X m ev sv zs svc [] wN :=
  ⟨bel, bs, br, ⟨_, [], hX, ⟨World.ownsRow_nil _ _ _ _, fun p hp => by cases hp⟩, rfl⟩, siz, low⟩
theorem OwW.mk3 {w wC : World} {X : Nat} {m : Int} {ev sv svc : Value} {zs : List Int} {a0 a1 a2 : Value} (bel : Below w.heap.size w wC) (bs : SB wC w.heap.size m ev sv) (br : wC.heap[w.heap.size + 1]? = some (.cells #[.int .i64 0, .slice none 0 0, .slice none 0 0] 27 (0, 0))) (hX : wC.heap[X]? = some (.cells #[a0, a1, a2] 27 (0, 0))) (siz : wC.ownsRow w.heap.size 3 1 svc zs.length (zs.map (.int .i64))) (low : w.heap.size + 1 < X) : OwW w X m ev sv zs svc [] (((wC.setCell ⟨X, 0, none⟩ (.int .i64 m)).setCell ⟨X, 1, none⟩ (.slice none 0 0)).setCell ⟨X, 2, none⟩ svc) := by
  refine OwW.mk0 (below_set (below_set (below_set bel (by omega)) (by omega)) (by omega)) (box_other (box_other (box_other bs (by omega) _) (by omega) _) (by omega) _) (box_other (box_other (box_other br (by omega) _) (by omega) _) (by omega) _) ?_ ?_ low
  · have h := box_set (i := 2) (box_set (i := 1) (box_set (i := 0) hX (.int .i64 m)) (.slice none 0 0)) svc
    simpa [SB] using h
  · exact own_set (own_set (own_set siz hX (by decide) _) (box_set hX _) (by decide) _) (box_set (box_set hX _) _) (by decide) _
theorem OwnR.set {base : Nat} {W : World} {v : Value} {ps : List (Value × List Int)} (h : OwnR base W v ps) {X i : Nat} {cs : Array Value} (hX : W.heap[X]? = some (.cells cs 27 (0, 0))) (u : Value) : OwnR base (W.setCell ⟨X, i, none⟩ u) v ps :=
  ⟨own_set h.own hX (by decide) _, fun p hp => ⟨own_set (h.rows p hp).1 hX (by decide) _, (h.rows p hp).2⟩⟩
theorem OwW.next {w wr wC w6 : World} {X : Nat} {m : Int} {ev sv svc : Value} {zs : List Int} {L : List (List Int)} {av avc : Option Addr} {cv q cvc g6 cap6 : Nat} {ps : List (Value × List Int)} {xs : List Int} (h : OwW w X m ev sv zs svc L wr)
    (hX : SB wr X m (.slice av ps.length cv) svc) (hown : OwnR w.heap.size wr (.slice av ps.length cv) ps) (hps : ps.map Prod.snd = L) (bC : Below wr.heap.size wr wC) (hoC : wC.ownsRow wr.heap.size 3 1 (.slice avc q cvc) q (xs.map (.int .i64))) (hq : xs.length = q) (hwf : ∀ x ∈ xs, (Lit.int .i64 x).wf = true)
    (hown6 : w6.ownsRow w.heap.size 25 1 (.slice (some ⟨g6, 0, none⟩) (ps.length + 1) cap6) (ps.length + 1) (ps.map Prod.fst ++ [.slice avc q cvc])) (hgrow6 : (wC.alloc (.cells #[.slice avc q cvc] 25)).grownBy w6 (Value.slice av ps.length cv).ownBlock) :
    OwW w X m ev sv zs svc (L ++ [xs]) (w6.setCell ⟨X, 1, none⟩ (.slice (some ⟨g6, 0, none⟩) (ps.length + 1) cap6)) := by
  have hA := later_trans bC (later_alloc wC (.cells #[.slice avc q cvc] 25))
  have hownA := owns_later hown.own hA
  have hX6 := box_grown hownA hgrow6 (kept hA hX) (by decide)
  have hlow := h.low
  have hsz := h.bel.size
  have hszA := hA.size
  refine ⟨below_set ((later_trans h.bel hA).grown hgrow6 (by omega) (fun k e => owns_above hownA k e)) (by omega), box_other (box_grown hownA hgrow6 (kept hA h.bs) (by decide)) (by omega) _, box_other (box_grown hownA hgrow6 (kept hA h.br) (by decide)) (by omega) _, ⟨.slice (some ⟨g6, 0, none⟩) (ps.length + 1) cap6, ps ++ [(.slice avc q cvc, xs)], ?_, ⟨?_, fun p hp => ?_⟩, by rw [List.map_append, hps]; rfl⟩, own_set (own_grown hownA hgrow6 (owns_later h.siz hA) (by decide)) hX6 (by decide) _, h.low⟩
  · have h := box_set (i := 1) hX6 (.slice (some ⟨g6, 0, none⟩) (ps.length + 1) cap6)
    simpa [SB] using h
  · have := own_set hown6 hX6 (by decide) (i := 1) (.slice (some ⟨g6, 0, none⟩) (ps.length + 1) cap6)
    simpa using this
  · rcases List.mem_append.1 hp with hp | hp
    · exact ⟨own_set (own_grown hownA hgrow6 (owns_later (hown.rows p hp).1 hA) (by decide)) hX6 (by decide) _, (hown.rows p hp).2⟩
    · obtain rfl := List.mem_singleton.1 hp
      refine ⟨?_, hwf⟩
      show World.ownsRow _ _ _ _ (.slice avc q cvc) xs.length _
      rw [hq]
      exact own_set (own_grown hownA hgrow6 (owns_later (owns_down hoC hsz) (later_alloc _ _)) (by decide)) hX6 (by decide) _
/-- A shape of the call's own. -/
structure OwnSh (base : Nat) (W : World) (ev sv : Value) (S : Shp) : Prop where
  edges : ∃ ps, OwnR base W ev ps ∧ ps.map Prod.snd = S.edges
  sizes : W.ownsRow base 3 1 sv S.sizes.length (S.sizes.map (.int .i64))
  wf : ∀ x ∈ S.sizes, (Lit.int .i64 x).wf = true
  many : -9223372036854775808 ≤ S.many ∧ S.many ≤ 9223372036854775807
theorem OwnSh.shR {base : Nat} {W : World} {ev sv : Value} {S : Shp} (h : OwnSh base W ev sv S) : ShR W ev sv S := by
  obtain ⟨ps, h1, h2⟩ := h.edges
  exact ⟨h2 ▸ h1.slR, SlI.of_owns h.sizes h.wf, h.many⟩
theorem OwnSh.later {base : Nat} {W W' : World} {ev sv : Value} {S : Shp} (h : OwnSh base W ev sv S) (hb : Below W.heap.size W W') : OwnSh base W' ev sv S := by
  obtain ⟨ps, h1, h2⟩ := h.edges
  exact ⟨⟨ps, h1.later hb, h2⟩, owns_later h.sizes hb, h.wf, h.many⟩
theorem owns_setB {base : Nat} {W : World} {e : TypeId} {v : Value} {n : Nat} {xs : List Value} (h : W.ownsRow base e 1 v n xs) {b i : Nat} (hb : b < base) (u : Value) : (W.setCell ⟨b, i, none⟩ u).ownsRow base e 1 v n xs :=
  ownsRow_setCell_other h (a := ⟨b, i, none⟩) (fun h' => by have := owns_above h _ h'; simp at this; omega) u
theorem OwnSh.setB {base : Nat} {W : World} {ev sv : Value} {S : Shp} (h : OwnSh base W ev sv S) {b i : Nat} (hb : b < base) (u : Value) : OwnSh base (W.setCell ⟨b, i, none⟩ u) ev sv S := by
  obtain ⟨ps, h1, h2⟩ := h.edges
  exact ⟨⟨ps, ⟨owns_setB h1.own hb u, fun p hp => ⟨owns_setB (h1.rows p hp).1 hb u, (h1.rows p hp).2⟩⟩, h2⟩, owns_setB h.sizes hb u, h.wf, h.many⟩
theorem OwW.done {w wr : World} {X : Nat} {m : Int} {ev sv svc v : Value} {zs : List Int} {L : List (List Int)} {ps : List (Value × List Int)} (h : OwW w X m ev sv zs svc L wr) (hown : OwnR w.heap.size wr v ps) (hps : ps.map Prod.snd = L) (hm : -9223372036854775808 ≤ m ∧ m ≤ 9223372036854775807) (hwf : ∀ x ∈ zs, (Lit.int .i64 x).wf = true) (a b c : Value) :
    OwnSh w.heap.size (((wr.setCell ⟨w.heap.size + 1, 0, none⟩ a).setCell ⟨w.heap.size + 1, 1, none⟩ b).setCell ⟨w.heap.size + 1, 2, none⟩ c) v svc ⟨m, L, zs⟩ ∧ Below w.heap.size w (((wr.setCell ⟨w.heap.size + 1, 0, none⟩ a).setCell ⟨w.heap.size + 1, 1, none⟩ b).setCell ⟨w.heap.size + 1, 2, none⟩ c) := by
  have b1 := box_set (i := 0) h.br a
  have b2 := box_set (i := 1) b1 b
  exact ⟨⟨⟨ps, ((hown.set h.br _).set b1 _).set b2 _, hps⟩, own_set (own_set (own_set h.siz h.br (by decide) _) b1 (by decide) _) b2 (by decide) _, hwf, hm⟩, below_set (below_set (below_set h.bel (by omega)) (by omega)) (by omega)⟩

set_option maxRecDepth 100000 in
set_option maxHeartbeats 4000000 in
theorem own_any (S : Shp) (ev sv : Value) (w : World) (h : ShR w ev sv S) :
    Calls Tryd.prog 10 #[shpV S.many ev sv] w fun e w' => ∃ ev' sv', e = .returned (shpV S.many ev' sv') ∧ OwnSh w.heap.size w' ev' sv' (ownS S) ∧ Below w.heap.size w w' := by
  obtain ⟨i0, hi, hz0, hz1, hz2⟩ := info_parts info_rowI
  have H := Lib.hid h
  obtain ⟨ae, ce, rfl, e1, e2, -⟩ := h.edges.open
  obtain ⟨az, cz, rfl, z1, z2, -⟩ := h.sizes.open
  obtain ⟨m, ls, zs⟩ := S
  simp only at e1 z1 H ⊢
  obtain ⟨mz, hmz⟩ : ∃ x, min zs.length 41 = x := ⟨_, rfl⟩
  obtain ⟨me, hme⟩ : ∃ x, min ls.length 41 = x := ⟨_, rfl⟩
  have hmin1 : Value.int .i64 (if (41 : Int) < zs.length then (41 : Int) else (zs.length : Int)) = .int .i64 (mz : Int) := by rw [show (if (41 : Int) < zs.length then (41 : Int) else (zs.length : Int)) = (mz : Int) from by split <;> omega]
  have hmin2 : Value.int .i64 (if (41 : Int) < ls.length then (41 : Int) else (ls.length : Int)) = .int .i64 (me : Int) := by rw [show (if (41 : Int) < ls.length then (41 : Int) else (ls.length : Int)) = (me : Int) from by split <;> omega]
  have hmzc : mz ≤ cz := by omega
  have hmec : me ≤ ce := by omega
  have hml : me ≤ ls.length := by omega
  have hlsm : ls.length ≤ 9223372036854775807 := by omega
  have hzsm : zs.length ≤ 9223372036854775807 := by omega
  have hzt : zs.take mz = zs.take 41 := by rw [← hmz, Nat.min_comm, ← List.take_take, List.take_of_length_le (l := zs) (Nat.le_refl _)]
  have hlt : ls.take me = ls.take 41 := by rw [← hme, Nat.min_comm, ← List.take_take, List.take_of_length_le (l := ls) (Nat.le_refl _)]
  have hC1 : ∀ W, Below w.heap.size w W → Calls Tryd.prog 11 #[.slice az mz cz] W fun e w' => ∃ v', e = .returned v' ∧ w'.ownsRow w.heap.size 3 1 v' (zs.take mz).length ((zs.take mz).map (Value.int .i64)) ∧ Below W.heap.size W w' := fun W hb =>
    (cloneI_any _ (zs.take mz) W ((SlI.cut2 (k := .i64) h.sizes (show mz ≤ zs.length by omega)).later hb) (by simp; omega)).mono (by rintro e w' ⟨v', rfl, ho, hb'⟩; exact ⟨v', rfl, owns_down ho hb.size, hb'⟩)
  have HC1 := Lib.hid hC1
  have HT := Lib.hid (And.intro hzt hlt)
  have HLm := Lib.hid (show (zs.take mz).length = mz by rw [List.length_take]; omega)
  have hme41 : me ≤ 41 := by omega
  clear h hC1 hzt hlt hmz hme
  go_enter Tryd.func10, Tryd.ntmps10
  go_upto_region 1 with fail
  go_cut [3] (fun s3 wx => ∃ X svc, s3 = .pointer (some ⟨X, 0, none⟩) ∧ OwW w X m (.slice ae ls.length ce) (.slice az zs.length cz) (zs.take mz) svc [] wx)
  case first =>
    obtain ⟨W0, hW0⟩ : ∃ W, W = (w.alloc (.cells #[.int .i64 m, .slice ae ls.length ce, .slice az zs.length cz] 27)).alloc (.cells #[.int .i64 0, .slice none 0 0, .slice none 0 0] 27) := ⟨_, rfl⟩
    have s0 : W0.heap.size = w.heap.size + 1 + 1 := by rw [hW0, World.size_alloc, World.size_alloc]
    have bS : SB W0 w.heap.size m (.slice ae ls.length ce) (.slice az zs.length cz) := by rw [hW0]; exact box_alloc (box_new _ _ _) _
    have bR : W0.heap[w.heap.size + 1]? = some (.cells #[.int .i64 0, .slice none 0 0, .slice none 0 0] 27 (0, 0)) := by rw [hW0]; have h := box_new (w.alloc (.cells #[.int .i64 m, .slice ae ls.length ce, .slice az zs.length cz] 27)) #[.int .i64 0, .slice none 0 0, .slice none 0 0] 27; rw [World.size_alloc] at h; exact h
    have l0 : Below w.heap.size w W0 := by rw [hW0]; exact later_trans (later_alloc _ _) (later_alloc _ _)
    rw [← hW0]
    have c0 := box_cell (i := 0) bS
    have c2 := box_cell (i := 2) bS
    simp only [List.getElem?_toArray, List.getElem?_cons_zero, List.getElem?_cons_succ] at c0 c2
    have HW := Lib.hid (And.intro bS (And.intro bR (And.intro l0 s0)))
    clear hW0 s0 bS bR
    have HKeep : Hid (∀ W, Below W0.heap.size W0 W → W.cell? ⟨w.heap.size, 0, none⟩ = some (.int .i64 m) ∧ W.cell? ⟨w.heap.size, 2, none⟩ = some (.slice az zs.length cz)) := Lib.hid (fun W hb => ⟨cell_next hb c0, cell_next hb c2⟩)
    go_region_held3 (fun W => W.cell? ⟨w.heap.size, 0, none⟩ = some (.int .i64 m) ∧ W.cell? ⟨w.heap.size, 2, none⟩ = some (.slice az zs.length cz))
      (first | exact HKeep.out _ (later_refl _) | exact HKeep.out _ (later_drew _) | exact HKeep.out _ (later_trans (later_alloc _ _) (later_drew _)) | exact HKeep.out _ (later_alloc _ _) | exact HKeep.out _ hbC | exact HKeep.out _ (later_trans hbC (later_alloc _ _)) | exact HKeep.out _ (below_set (below_set (below_set hbC (Nat.le_refl _)) (Nat.le_refl _)) (Nat.le_refl _)) | exact HKeep.out _ (below_set (below_set (below_set (later_trans hbC (later_alloc _ _)) hbC.size) hbC.size) hbC.size) | assumption)
      (first
        | (go_at_call 11; (try simp only [hmin1]); refine (HC1.out _ (later_trans l0 (later_drew _))).mono ?_; rintro e wC ⟨vc, rfl, hoC, hbC1⟩; rw [HLm.out] at hoC; obtain ⟨avc, cvc, rfl⟩ := owns_shape2 hoC; have hbC : Below W0.heap.size W0 wC := later_trans (later_drew _) hbC1)
        | (go_at_call 11; (try simp only [hmin1]); refine (HC1.out _ (later_trans l0 (later_trans (later_alloc _ _) (later_drew _)))).mono ?_; rintro e wC ⟨vc, rfl, hoC, hbC1⟩; rw [HLm.out] at hoC; obtain ⟨avc, cvc, rfl⟩ := owns_shape2 hoC; have hbC : Below W0.heap.size W0 wC := later_trans (later_trans (later_alloc _ _) (later_drew _)) hbC1; have mC := new_keptD hbC1; obtain ⟨n0, n1, n2, f0, f1, f2, ln⟩ := three_of mC))
    all_goals (go_wp2_with fail)
    all_goals go_meet
    all_goals first
      | (refine ⟨wC.heap.size, _, rfl, OwW.mk0 (later_trans (later_trans HW.out.2.2.1 hbC) (later_alloc _ _)) (kept (later_alloc _ _) (kept hbC HW.out.1)) (kept (later_alloc _ _) (kept hbC HW.out.2.1)) (box_new _ _ _) (by rw [HLm.out]; exact owns_later hoC (later_alloc _ _)) ?_⟩; have h1 := HW.out.2.2.2; have h2 := hbC.size; omega)
      | (refine ⟨W0.heap.size, _, rfl, OwW.mk3 (later_trans HW.out.2.2.1 hbC) (kept hbC HW.out.1) (kept hbC HW.out.2.1) mC (by rw [HLm.out]; exact hoC) ?_⟩; have h1 := HW.out.2.2.2; omega)
  case rest =>
    obtain ⟨X, svc, rfl, hO⟩ := hcut
    obtain ⟨asv, csv, hsv⟩ := owns_shape2 hO.siz
    rw [HLm.out] at hsv
    subst hsv
    have c1 := box_cell (i := 1) hO.bs
    simp only [List.getElem?_toArray, List.getElem?_cons_zero, List.getElem?_cons_succ] at c1
    have HO := Lib.hid hO
    clear hO
    go_wp2_with fail
    rename_i w2
    go_loopw [29] (fun k wr => ∃ i : Nat, i ≤ me ∧ k = .int .i64 i ∧ OwW w X m (.slice ae ls.length ce) (.slice az zs.length cz) (zs.take mz) (.slice asv mz csv) ((ls.take i).map fun e => e.take 34) wr) (fun k _ => me - (intOf k).toNat)
    case atStart => exact ⟨0, Nat.zero_le _, rfl, by simpa using HO.out⟩
    case round =>
      obtain ⟨i, hi', rfl, hO⟩ := hrel
      obtain ⟨v, ps, hX, hown, hps⟩ := hO.out
      obtain ⟨av, cv, rfl⟩ := owns_shape2 hown.own
      have hpl : ps.length ≤ 41 := by
        have := congrArg List.length hps
        rw [List.length_map, List.length_map, List.length_take] at this
        omega
      obtain ⟨x0, x1, x2, -, fX, -, lX⟩ := three_of hX
      by_cases hlt : i < me
      · obtain ⟨_, _, e1, _, _, _, f4⟩ := (H.out.edges.later hO.bel).open
        obtain ⟨b, o, e2, hb, fc⟩ := f4 (by show 0 < ls.length; omega)
        injection e1 with e1a e1b e1c
        subst e1a
        subst e2
        obtain ⟨rv, cr, hrv⟩ := fc i (by show i < ls.length; omega)
        change SlI .i64 wr rv (rowN ls i) at hrv
        obtain ⟨a2, c2, rfl, s1, s2, s3, s4⟩ := hrv.open
        obtain ⟨q, hq⟩ : ∃ q, min (rowN ls i).length 34 = q := ⟨_, rfl⟩
        have hmin3 : Value.int .i64 (if (34 : Int) < (rowN ls i).length then (34 : Int) else ((rowN ls i).length : Int)) = .int .i64 (q : Int) := by rw [show (if (34 : Int) < (rowN ls i).length then (34 : Int) else ((rowN ls i).length : Int)) = (q : Int) from by split <;> omega]
        have hqc : q ≤ c2 := by omega
        have hql : q ≤ (rowN ls i).length := by omega
        have hrl : (rowN ls i).length ≤ 9223372036854775807 := by omega
        have hqt : (rowN ls i).take q = (rowN ls i).take 34 := by
          rw [← hq, Nat.min_comm, ← List.take_take, List.take_of_length_le (l := rowN ls i) (Nat.le_refl _)]
        have hq34 : q ≤ 34 := by omega
        have hlm : ((rowN ls i).take q).length = q := by rw [List.length_take]; omega
        have HT2 := Lib.hid (And.intro hqt hlm)
        have hC2 : ∀ W, Below wr.heap.size wr W → Calls Tryd.prog 11 #[.slice a2 q c2] W fun e w' => ∃ v', e = .returned v' ∧ w'.ownsRow wr.heap.size 3 1 v' q (((rowN ls i).take q).map (Value.int .i64)) ∧ Below W.heap.size W w' := fun W hb =>
          (cloneI_any _ ((rowN ls i).take q) W ((hrv.cut2 hql).later hb) (by omega)).mono (by rintro e w' ⟨v', rfl, ho, hb'⟩; rw [hlm] at ho; exact ⟨v', rfl, owns_down ho hb.size, hb'⟩)
        have HC2 := Lib.hid hC2
        have hz := hO.low
        have hzz := hO.bel.size
        have HO2 := Lib.hid (And.intro hO (And.intro hX (And.intro hown hps)))
        have HRW := Lib.hid (show ∀ x ∈ (rowN ls i).take q, (Lit.int .i64 x).wf = true from fun x hx => hrv.2 x (List.mem_of_mem_take hx))
        clear hO hown hps fc f4 hrv s3 s4 hC2 hqt hlm hq e1b e1c
        go_wp2_with fail
        go_region_law (first
          | (refine step_append_lies _ rfl (.tmp 35) (.tmp 42) 22 rfl w.heap.size 25 i0 _ 1 24 Tryd.underlying22 hi hz0 hz1 hz2 rfl (by decide) (.slice av ps.length cv) ps.length _ rfl HR3.out ⟨wC.heap.size, 0, none⟩ 1 1 [.slice avc q cvc] rfl rfl (cells_new _ _ _) (by simp [Value.oneCell']) (by omega) (by unfold maxLen; omega) (by omega) (by simp; omega) _ rfl ?_; intro g6 cap6 w6 hown6 hgrow6 hat6 hlt6; obtain ⟨y0, y1, y2, -, fY, -, lY⟩ := three_of (box_grown HR3.out hgrow6 (kept (later_trans hbC (later_alloc wC (.cells #[.slice avc q cvc] 25))) HO2.out.2.1) (by decide)))
          | (go_simp; (try simp only [hmin3]); refine (HC2.out _ (later_drew _)).mono ?_; rintro e wC ⟨vc, rfl, hoC, hbC1⟩; obtain ⟨avc, cvc, rfl⟩ := owns_shape2 hoC; have hbC : Below wr.heap.size wr wC := later_trans (later_drew _) hbC1; obtain ⟨x0, x1, x2, -, fX, -, lX⟩ := three_of (kept hbC HO2.out.2.1); have HR3 := Lib.hid (owns_later HO2.out.2.2.1.own (later_trans hbC (later_alloc wC (.cells #[.slice avc q cvc] 25)))); have hzw := hbC.size))
        all_goals go_wp2
        all_goals go_roundw
        all_goals first
          | (simp [intOf]; omega)
          | (refine ⟨i + 1, by omega, by go_num, ?_⟩
             have hl := HT2.out.2
             have hn := OwW.next HO2.out.1 HO2.out.2.1 HO2.out.2.2.1 HO2.out.2.2.2 hbC hoC hl HRW.out hown6 hgrow6
             rw [HT2.out.1, rowN_at (show i < ls.length by omega)] at hn
             rw [List.take_add_one, List.getElem?_eq_getElem (show i < ls.length by omega), List.map_append]
             exact hn)
      · obtain rfl : i = me := by omega
        obtain ⟨r0, r1, r2, g0, g1, g2, -⟩ := three_of hO.br
        have hz := hO.low
        have hd := hO.done hown hps H.out.many (fun x hx => H.out.sizes.2 x (List.mem_of_mem_take hx)) (.int .i64 m) (.slice av ps.length cv) (.slice asv mz csv)
        have hb3 := box_set (i := 2) (box_set (i := 1) (box_set (i := 0) hO.br (.int .i64 m)) (.slice av ps.length cv)) (.slice asv mz csv)
        have HD := Lib.hid (And.intro hd hb3)
        clear hd hb3 hO hown hps
        go_wp2_with fail
        obtain ⟨hd, hb3⟩ := HD.out
        have d0 := box_cell (i := 0) hb3
        have d1 := box_cell (i := 1) hb3
        have d2 := box_cell (i := 2) hb3
        simp at d0 d1 d2
        refine bodyPost_ret (v := shpV m (.slice av ps.length cv) (.slice asv mz csv)) (by simp [results, Tryd.results10, go_sem, d0, d1, d2]) rfl ?_
        refine ⟨_, _, rfl, ?_, hd.2⟩
        have e : ownS ⟨m, ls, zs⟩ = ⟨m, (ls.take i).map (fun e => e.take 34), zs.take mz⟩ := by
          unfold ownS
          rw [HT.out.1, HT.out.2]
        rw [e]
        exact hd.1
end Go.Proofs.YtdmfhlfhlflakaaDoor
