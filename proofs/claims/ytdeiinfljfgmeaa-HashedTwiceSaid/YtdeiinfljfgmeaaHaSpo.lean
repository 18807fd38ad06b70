/-
  The law's spoil: it writes over what is handed to it, and over nothing else.
-/
import Derived.Test.YtdeiinfljfgmeaaHaRfs
namespace Go.Proofs.Ytdeiinfljfgmeaa
open Go.RowKit
set_option linter.unusedVariables false
set_option linter.unusedSimpArgs false

/-- A row of the call's own, of whatever numbers. -/
def IntRow (k : IntKind) (e : TypeId) (base : Nat) (W : World) (u : Value) (n : Nat) : Prop := ∃ xs : List Int, W.ownsRow base e 1 u n (xs.map (.int k))
theorem IntRow.set {k : IntKind} {e : TypeId} {base : Nat} {W : World} {u : Value} {n : Nat} (h : IntRow k e base W u n) {g j : Nat} {cs : Array Value} {e' : TypeId} (hg : W.heap[g]? = some (.cells cs e' (0, 0))) (y : Int) : IntRow k e base (W.setCell ⟨g, j, none⟩ (.int k y)) u n := by
  obtain ⟨xs, h1, h2⟩ := h
  rcases h2 with h2 | ⟨g', cap, cur, rfl, hb, hh, k1, k2, k3, k4⟩
  · exact ⟨xs, h1, .inl h2⟩
  · by_cases q : g' = g
    · subst q
      have hs := heap_setCell_same W g' j cur e (.int k y) hh
      refine ⟨xs.set j y, by simpa using h1, .inr ⟨g', cap, _, rfl, hb, hs, k1, k2, by simpa using k3, ?_⟩⟩
      rw [Array.toList_setIfInBounds, List.take_set, k4, List.map_set]
    · exact ⟨xs, h1, .inr ⟨g', cap, cur, rfl, hb, (heap_setCell_other W ⟨g, j, none⟩ g' _ q).trans hh, k1, k2, k3, k4⟩⟩
theorem IntRow.at_ {k : IntKind} {e : TypeId} {base : Nat} {W : World} {a : Option Addr} {n c : Nat} (h : IntRow k e base W (.slice a n c) n) {j : Nat} (hj : j < n) : ∃ g x cs, a = some ⟨g, 0, none⟩ ∧ base ≤ g ∧ W.heap[g]? = some (.cells cs e (0, 0)) ∧ W.cell? ⟨g, j, none⟩ = some (.int k x) ∧ W.frozen? ⟨g, j, none⟩ = false := by
  obtain ⟨xs, h⟩ := h
  have hl : xs.length = n := by have := h.1; simpa using this
  obtain ⟨g, rfl, hc⟩ := owns_at h (j := j) (by simpa [hl] using hj)
  rcases id h.2 with ⟨e1, e2⟩ | ⟨g', cap, cur, e1, hb, hh, -⟩
  · cases e1
  · simp only [Value.slice.injEq, Option.some.injEq, Addr.mk.injEq] at e1
    obtain ⟨⟨rfl, -, -⟩, -, -⟩ := e1
    exact ⟨g, _, cur, rfl, hb, hh, by rw [hc, List.getElem_map], (owns_cell h (j := j) (u := .int k (xs[j]'(by omega))) (by simp [hl, hj])).2⟩
theorem box_far {W : World} {X g j : Nat} {cs cs' : Array Value} {t e : TypeId} (hX : W.heap[X]? = some (.cells cs t (0, 0))) (hg : W.heap[g]? = some (.cells cs' e (0, 0))) (hne : t ≠ e) (u : Value) : (W.setCell ⟨g, j, none⟩ u).heap[X]? = some (.cells cs t (0, 0)) := by
  refine (heap_setCell_other W ⟨g, j, none⟩ X u (fun q => ?_)).trans hX
  have q : X = g := q
  subst q
  rw [hX] at hg
  cases hg
  exact hne rfl
/-- What stands while a relation is spoilt. -/
structure SpW (w : World) (N base X : Nat) (vv rv : Value) (nv : Nat) (ps : List (Value × Nat)) (W : World) : Prop where
  bel : Below base w W
  box : RB W X vv rv
  vars : IntRow .i64 3 base W vv nv
  own : W.ownsRow base 26 1 rv ps.length (ps.map Prod.fst)
  rows : ∀ p ∈ ps, IntRow .u64 38 base W p.1 p.2
  far : ∀ b, N ≤ b → b < w.heap.size → W.heap[b]? = w.heap[b]?
  tv : ∀ g, vv.ownBlock = some g → g < N
  tr : ∀ p ∈ ps, ∀ g, p.1.ownBlock = some g → g < N
theorem SpW.setI {w : World} {N base X : Nat} {vv rv : Value} {nv : Nat} {ps : List (Value × Nat)} {W : World} (h : SpW w N base X vv rv nv ps W) {g j : Nat} {cs : Array Value} (hb : base ≤ g) (hN : g < N) (hg : W.heap[g]? = some (.cells cs 3 (0, 0))) (y : Int) : SpW w N base X vv rv nv ps (W.setCell ⟨g, j, none⟩ (.int .i64 y)) :=
  ⟨below_set h.bel hb, box_far h.box hg (by decide) _, h.vars.set hg y, own_set h.own hg (by decide) _, fun p hp => by
    obtain ⟨xs, ho⟩ := h.rows p hp
    exact ⟨xs, own_set ho hg (by decide) _⟩, fun b h1 h2 => (heap_setCell_other W ⟨g, j, none⟩ b _ (fun q => by have q : b = g := q; omega)).trans (h.far b h1 h2), h.tv, h.tr⟩
theorem SpW.setU {w : World} {N base X : Nat} {vv rv : Value} {nv : Nat} {ps : List (Value × Nat)} {W : World} (h : SpW w N base X vv rv nv ps W) {g j : Nat} {cs : Array Value} (hb : base ≤ g) (hN : g < N) (hg : W.heap[g]? = some (.cells cs 38 (0, 0))) (y : Int) : SpW w N base X vv rv nv ps (W.setCell ⟨g, j, none⟩ (.int .u64 y)) :=
  ⟨below_set h.bel hb, box_far h.box hg (by decide) _, by
    obtain ⟨xs, ho⟩ := h.vars
    exact ⟨xs, own_set ho hg (by decide) _⟩, own_set h.own hg (by decide) _, fun p hp => (h.rows p hp).set hg y, fun b h1 h2 => (heap_setCell_other W ⟨g, j, none⟩ b _ (fun q => by have q : b = g := q; omega)).trans (h.far b h1 h2), h.tv, h.tr⟩
set_option maxRecDepth 100000 in
set_option maxHeartbeats 4000000 in
theorem spoil2_any {wj w : World} {base : Nat} {vv rv : Value} {R : Rl} (hj : OwnRl base wj vv rv R) (hjw : Below wj.heap.size wj w) (hbw : base ≤ w.heap.size) :
    Calls Try.prog 18 #[relV vv rv] w fun e w' => e = .returned (.tuple #[]) ∧ Below base w w' ∧ ∀ b, wj.heap.size ≤ b → b < w.heap.size → w'.heap[b]? = w.heap[b]? := by
  obtain ⟨ps0, hq1, hp2⟩ := hj.rows
  have hp1 := hq1.later hjw
  have h := hj.later hjw
  have htv : ∀ g, vv.ownBlock = some g → g < wj.heap.size := fun g hg => (hj.vars.lt g hg).2
  have htr : ∀ p ∈ ps0, ∀ g, p.1.ownBlock = some g → g < wj.heap.size := fun p hp g hg => ((hq1.rows p hp).1.lt g hg).2
  obtain ⟨N, hN⟩ : ∃ N, wj.heap.size = N := ⟨_, rfl⟩
  rw [hN] at htv htr ⊢
  clear hq1 hj hjw hN
  have hst : SpW w N base w.heap.size vv rv R.vars.length (ps0.map fun p => (p.1, p.2.length)) (w.alloc (.cells #[vv, rv] 25)) := by
    refine ⟨(later_alloc w _).mono hbw, box_new _ _ _, ⟨R.vars, h.vars.alloc _⟩, ?_, fun p hp => ?_, fun b _ hb => (later_alloc w _).block b hb, htv, fun p hp => ?_⟩
    · have := hp1.own.alloc (.cells #[vv, rv] 25)
      rw [List.length_map, List.map_map]
      exact this
    · obtain ⟨q, hq, rfl⟩ := List.mem_map.1 hp
      exact ⟨q.2, (hp1.rows q hq).1.alloc _⟩
    · obtain ⟨q, hq, rfl⟩ := List.mem_map.1 hp
      exact htr q hq
  obtain ⟨ps, hps⟩ : ∃ ps, ps0.map (fun p => (p.1, p.2.length)) = ps := ⟨_, rfl⟩
  rw [hps] at hst
  have hrl : rv = rv := rfl
  obtain ⟨a1, c1, rfl⟩ := owns_shape2 h.vars
  obtain ⟨a2, c2, rfl⟩ := owns_shape2 hp1.own
  have hpl : ps0.length = ps.length := by rw [← hps, List.length_map]
  rw [hpl] at hst ⊢
  obtain ⟨nv, hnv⟩ : ∃ n, R.vars.length = n := ⟨_, rfl⟩
  rw [hnv] at hst ⊢
  have hshape : ∀ p ∈ ps, ∃ a c, p.1 = .slice a p.2 c := fun p hp => by
    obtain ⟨xs, ho⟩ := hst.rows p hp
    exact owns_shape2 ho
  have hnm : nv ≤ 9223372036854775807 := by
    obtain ⟨xs, ho⟩ := hst.vars
    rcases ho.2 with ⟨e, q⟩ | ⟨g, cap, cur, e, -, -, k1, k2, -⟩
    · omega
    · unfold maxLen at k2; omega
  have hpm : ps.length ≤ 9223372036854775807 := by
    rcases hst.own.2 with ⟨e, q⟩ | ⟨g, cap, cur, e, -, -, k1, k2, -⟩
    · omega
    · unfold maxLen at k2; omega
  have hrm : ∀ p ∈ ps, p.2 ≤ 9223372036854775807 := fun p hp => by
    obtain ⟨xs, ho⟩ := hst.rows p hp
    rcases ho.2 with ⟨e, q⟩ | ⟨g, cap, cur, e, -, -, k1, k2, -⟩
    · omega
    · unfold maxLen at k2; omega
  have HS := Lib.hid (And.intro hst (And.intro hshape hrm))
  clear h hp1 hp2 hst hps hpl hnv hshape hrm htv htr
  go_enter Try.func18, Try.ntmps18
  go_wp2_with fail
  go_loopw [9] (fun i wr => ∃ k : Nat, k ≤ nv ∧ i = .int .i64 k ∧ SpW w N base w.heap.size (.slice a1 nv c1) (.slice a2 ps.length c2) nv ps wr) (fun i _ => nv - (intOf i).toNat)
  case atStart => exact ⟨0, Nat.zero_le _, rfl, HS.out.1⟩
  case round =>
    obtain ⟨k, hk, rfl, hW⟩ := hrel
    obtain ⟨x0, x1, lX⟩ := two_of2 hW.box
    by_cases hlt : k < nv
    · obtain ⟨g, x, cs, rfl, hbg, hg, hc, hf⟩ := hW.vars.at_ hlt
      have hlg := lt_of_block hg
      have HN := Lib.hid (fun y => hW.setI (j := k) hbg (hW.tv g rfl) hg y)
      clear hW hg
      go_wp2_with fail
      go_roundw
      case rel => exact ⟨k + 1, hlt, by go_num, HN.out _⟩
      case measure => simp [intOf]; omega
    · have HN := Lib.hid hW
      clear hW
      go_wp2_with fail
      go_loopw [23] (fun i wr => ∃ k : Nat, k ≤ ps.length ∧ i = .int .i64 k ∧ SpW w N base w.heap.size (.slice a1 nv c1) (.slice a2 ps.length c2) nv ps wr) (fun i _ => ps.length - (intOf i).toNat)
      case atStart => exact ⟨0, Nat.zero_le _, rfl, HN.out⟩
      case round =>
        obtain ⟨m, hm, rfl, hW⟩ := hrel
        by_cases hlt : m < ps.length
        · obtain ⟨g, rfl, hc⟩ := owns_at hW.own (j := m) (by rw [List.length_map]; exact hlt)
          rw [List.getElem_map] at hc
          obtain ⟨p, hp⟩ : ∃ p, ps[m] = p := ⟨_, rfl⟩
          have hmem : p ∈ ps := by rw [← hp]; exact List.getElem_mem hlt
          rw [hp] at hc
          obtain ⟨u, q⟩ := p
          obtain ⟨au, cu, hu⟩ := HS.out.2.1 _ hmem
          simp only at hu hc
          subst hu
          have hqm := HS.out.2.2 _ hmem
          simp only at hqm
          have HW := Lib.hid hW
          have HM := Lib.hid hmem
          clear hW hmem hp
          go_wp2_with fail
          go_loopw [29] (fun i wr => ∃ j : Nat, j ≤ q ∧ i = .int .i64 j ∧ SpW w N base w.heap.size (.slice a1 nv c1) (.slice (some ⟨g, 0, none⟩) ps.length c2) nv ps wr) (fun i _ => q - (intOf i).toNat)
          case atStart => exact ⟨0, Nat.zero_le _, rfl, HW.out⟩
          case round =>
            obtain ⟨j, hj, rfl, hW⟩ := hrel
            by_cases hltj : j < q
            · obtain ⟨g2, x, cs, rfl, hbg, hg, hcx, hf⟩ := (hW.rows _ HM.out).at_ hltj
              have hlg := lt_of_block hg
              have HN2 := Lib.hid (fun y => hW.setU (j := j) hbg (hW.tr _ HM.out g2 rfl) hg y)
              clear hW hg
              go_wp2_with fail
              go_roundw
              case rel => exact ⟨j + 1, hltj, by go_num, HN2.out _⟩
              case measure => simp [intOf]; omega
            · have HN2 := Lib.hid hW
              clear hW
              go_wp2_with fail
              go_roundw
              case rel => exact ⟨m + 1, hlt, by go_num, HN2.out⟩
              case measure => simp [intOf]; omega
        · have HN2 := Lib.hid hW
          clear hW
          go_wp2_with fail
          go_end0
          exact ⟨rfl, HN2.out.bel, HN2.out.far⟩
theorem spoil_any {w : World} {base : Nat} {vv rv : Value} {R : Rl} (h : OwnRl base w vv rv R) (hbw : base ≤ w.heap.size) :
    Calls Try.prog 18 #[relV vv rv] w fun e w' => e = .returned (.tuple #[]) ∧ Below base w w' :=
  (spoil2_any h (Below.refl _ _) hbw).mono (by
    rintro e w' ⟨h1, h2, -⟩
    exact ⟨h1, h2⟩)
/-- What lies above is not spoilt. -/
theorem owns_above2 {W W' : World} {base size n : Nat} {e : TypeId} {v : Value} {xs : List Value} (h : W.ownsRow base e size v n xs) (hk : ∀ b, base ≤ b → b < W.heap.size → W'.heap[b]? = W.heap[b]?) : W'.ownsRow base e size v n xs := by
  obtain ⟨h1, h2⟩ := h
  refine ⟨h1, ?_⟩
  rcases h2 with h2 | ⟨g, cap, cur, hv, hb, hh, r⟩
  · exact .inl h2
  · exact .inr ⟨g, cap, cur, hv, hb, (hk g hb (lt_of_block hh)).trans hh, r⟩
theorem OwnRl.above {base : Nat} {W W' : World} {vv rv : Value} {R : Rl} (h : OwnRl base W vv rv R) (hk : ∀ b, base ≤ b → b < W.heap.size → W'.heap[b]? = W.heap[b]?) : OwnRl base W' vv rv R := by
  obtain ⟨ps, h1, h2⟩ := h.rows
  exact ⟨owns_above2 h.vars hk, h.wf, ps, ⟨owns_above2 h1.own hk, fun p hp => ⟨owns_above2 (h1.rows p hp).1 hk, (h1.rows p hp).2⟩⟩, h2⟩
end Go.Proofs.Ytdeiinfljfgmeaa
