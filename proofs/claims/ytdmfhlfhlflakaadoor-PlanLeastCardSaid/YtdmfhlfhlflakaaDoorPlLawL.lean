/-
  The law PlanLeast, walked.
-/
import Derived.Test.YtdmfhlfhlflakaaDoorPlOwn
namespace Go.Proofs.YtdmfhlfhlflakaaDoor
open Go.RowKit
set_option linter.unusedVariables false
set_option linter.unusedSimpArgs false

/-- What stands while a law goes on: a cover cut, a shape of the call's own. -/
structure LstW (w : World) (m : Int) (ev sv wv' : Value) (S : Shp) (c : Cov) (Y : Nat) (W : World) : Prop where
  bel : Below w.heap.size w W
  bc : CB W (w.heap.size + 1) wv' c.of
  b5 : SB W Y m ev sv
  own : ShR W ev sv S
  ws : SlI .i64 W wv' c.ws
  low : w.heap.size + 1 < Y
theorem LstW.later {w W W' : World} {m : Int} {ev sv wv' : Value} {S : Shp} {c : Cov} {Y : Nat} (h : LstW w m ev sv wv' S c Y W) (hb : Below W.heap.size W W') : LstW w m ev sv wv' S c Y W' :=
  ⟨later_trans h.bel hb, kept hb h.bc, kept hb h.b5, h.own.later hb, SlI.later h.ws hb, h.low⟩
theorem LstW.of {w W : World} {m o : Int} {ev sv wv' : Value} {S : Shp} {ws : List Int} {Y base : Nat} {a0 : Value} (bel : Below w.heap.size w W) (bc : CB W (w.heap.size + 1) a0 o) (b5 : SB W Y m ev sv) (own : OwnSh base W ev sv S) (hws : W.ownsRow base 3 1 wv' ws.length (ws.map (.int .i64))) (hwf : ∀ x ∈ ws, (Lit.int .i64 x).wf = true) (low : w.heap.size + 1 < Y) (hbase : w.heap.size + 1 < base) :
    LstW w m ev sv wv' S ⟨ws, o⟩ Y (W.setCell ⟨w.heap.size + 1, 0, none⟩ wv') := by
  refine ⟨below_set bel (by omega), ?_, box_other b5 (by omega) _, (own.setB hbase _).shR, SlI.of_owns (owns_setB hws hbase _) hwf, low⟩
  have := box_set (i := 0) bc wv'
  simpa [CB] using this
theorem WB.two {W : World} {x a : Nat} {h l : Nat} (hW : WB W x a) (e : wv a = .agg #[.int .u64 (h : Int), .int .u64 (l : Int)]) : W.heap[x]? = some (.cells #[.int .u64 (h : Int), .int .u64 (l : Int)] 35 (0, 0)) := by
  unfold wv at e
  simp only [Value.agg.injEq, Array.mk.injEq, List.cons.injEq, Value.int.injEq, true_and, and_true] at e
  unfold WB at hW
  rw [← e.1, ← e.2]; exact hW
theorem WB.mk {W : World} {x a : Nat} {h l : Nat} (e : wv a = .agg #[.int .u64 (h : Int), .int .u64 (l : Int)]) (hW : W.heap[x]? = some (.cells #[.int .u64 (h : Int), .int .u64 (l : Int)] 35 (0, 0))) : WB W x a := by
  unfold wv at e
  simp only [Value.agg.injEq, Array.mk.injEq, List.cons.injEq, Value.int.injEq, true_and, and_true] at e
  unfold WB
  rw [e.1, e.2]; exact hW
/-- The product so far. -/
def prodSo (S : Shp) (c : Cov) (k : Nat) : Nat := prodTo (powL S.sizes c.ws S.sizes.length) k
theorem prodSo_all (S : Shp) (c : Cov) : prodSo S c S.sizes.length = needN S c := rfl
theorem prodSo_zero (S : Shp) (c : Cov) : prodSo S c 0 = 1 := prodTo_zero _
theorem prodSo_succ (S : Shp) (c : Cov) {k : Nat} (hk : k < S.sizes.length) : prodSo S c (k + 1) = prodSo S c k * ((max (S.sizes.getD k 0) 1).toNat ^ (c.ws.getD k 0).toNat) := by
  have hl := powL_len S.sizes c.ws S.sizes.length
  unfold prodSo
  rw [prodTo_succ (by omega)]
  congr 1
  simp [powL]
theorem prodSo_le (S : Shp) (c : Cov) {k : Nat} (hk : k ≤ S.sizes.length) : prodSo S c k ≤ needN S c := by
  have hl := powL_len S.sizes c.ws S.sizes.length
  have h1 := prodTo_mono (powL_pos S.sizes c.ws S.sizes.length) (k := k) (S.sizes.length - k) (by omega)
  rw [show k + (S.sizes.length - k) = S.sizes.length from by omega] at h1
  exact h1
theorem least_facts {S : Shp} {c : Cov} (h : boundE S c = 0) : S.sizes.length = c.ws.length ∧ S.sizes.length ≤ 40 ∧ needN S c < 340282366920938463463374607431768211456 ∧ (1 ≤ c.of ∧ c.of ≤ 16) ∧ ∀ k, k < S.sizes.length → (0 ≤ S.sizes.getD k 0 ∧ S.sizes.getD k 0 ≤ 1048576) ∧ 0 ≤ c.ws.getD k 0 ∧ c.ws.getD k 0 ≤ 16 ∧ (max (S.sizes.getD k 0) 1).toNat ^ (c.ws.getD k 0).toNat < 340282366920938463463374607431768211456 := by
  obtain ⟨h1, h2, h3⟩ := boundE_zero h
  obtain ⟨q1, q2, q3, q4, -⟩ := shpB_yes h1
  obtain ⟨p1, p2, p3, p4⟩ := coversB_of h2
  refine ⟨by omega, by omega, h3, ⟨p2, p3⟩, fun k hk => ⟨?_, (p4 k (by omega)).1, (p4 k (by omega)).2, Nat.lt_of_le_of_lt (needN_ge S c hk) h3⟩⟩
  rw [getD_at hk]
  exact sizes_le h1 _ (List.getElem_mem hk)
theorem least_lim {S : Shp} {c : Cov} (h : boundE S c = 0) : boundN S c < prodTo (limL S c) 5 := by
  have h0 := (boundN_lt h).1
  have hl := (limL_ok h).1
  obtain ⟨b, hb⟩ : ∃ b, boundN S c = b := ⟨_, rfl⟩
  obtain ⟨a1, e1⟩ : ∃ a, (max S.many 1).toNat = a := ⟨_, rfl⟩
  obtain ⟨a2, e2⟩ : ∃ a, (max (S.edges.length : Int) 1).toNat = a := ⟨_, rfl⟩
  obtain ⟨a3, e3⟩ : ∃ a, 1 + lg (maxTo (1 :: S.sizes) (S.sizes.length + 1)) = a := ⟨_, rfl⟩
  unfold limL at hl ⊢
  rw [hb, e1, e2, e3] at hl ⊢
  rw [hb] at h0
  have p1 := hl a1 (by simp)
  have p2 := hl a2 (by simp)
  have p3 := hl a3 (by simp)
  show b < 1 * 16 * a1 * a2 * a3 * b
  have h1 : 16 ≤ 1 * 16 * a1 * a2 * a3 := by
    have := Nat.mul_le_mul (Nat.mul_le_mul (Nat.mul_le_mul (Nat.le_refl (1 * 16)) p1) p2) p3
    omega
  have h2 := Nat.mul_le_mul_right b h1
  omega

set_option maxRecDepth 100000 in
set_option maxHeartbeats 8000000 in
theorem planLeast_any (S : Shp) (c : Cov) (ev sv wv' : Value) (w : World) (h : ShR w ev sv S) (hw : SlI .i64 w wv' c.ws) (hO : One w) :
    Calls Tryd.prog 6 #[shpV S.many ev sv, covV wv' c.of] w fun e w' => e = .returned (.bool true) ∧ Below w.heap.size w w' := by
  obtain ⟨S2, hS2⟩ : ∃ S2, S2 = ownS S := ⟨_, rfl⟩
  have hm2 : S2.many = S.many := by rw [hS2]; rfl
  obtain ⟨m, ls, zs⟩ := S
  obtain ⟨ws, o⟩ := c
  simp only at hm2 hw ⊢
  have H := Lib.hid (And.intro h (And.intro hw hO))
  have HM := Lib.hid (And.intro hm2 hS2)
  obtain ⟨ae, ce, rfl, -⟩ := h.edges.open
  obtain ⟨az, cz, rfl, -⟩ := h.sizes.open
  obtain ⟨aw, cw, rfl, e1, e2, -⟩ := hw.open
  simp only at H ⊢
  obtain ⟨mw, hmw⟩ : ∃ x, min ws.length 42 = x := ⟨_, rfl⟩
  have hmin : Value.int .i64 (if (42 : Int) < ws.length then (42 : Int) else (ws.length : Int)) = .int .i64 (mw : Int) := by rw [show (if (42 : Int) < ws.length then (42 : Int) else (ws.length : Int)) = (mw : Int) from by split <;> omega]
  have hmc : mw ≤ cw := by omega
  have hml : mw ≤ ws.length := by omega
  have hwsm : ws.length ≤ 9223372036854775807 := by omega
  have hmw42 : mw ≤ 42 := by omega
  have HLm := Lib.hid (show (ws.take mw).length = mw by rw [List.length_take]; omega)
  have hi0 := Tryd.prog
  clear h hw hO hm2 hS2 hmw hi0
  go_enter Tryd.func6, Tryd.ntmps6
  have bS0 : SB ((w.alloc (.cells #[.int .i64 m, .slice ae ls.length ce, .slice az zs.length cz] 27)).alloc (.cells #[.slice aw ws.length cw, .int .i64 o] 29)) w.heap.size m (.slice ae ls.length ce) (.slice az zs.length cz) := box_alloc (box_new _ _ _) _
  have bC0 : CB ((w.alloc (.cells #[.int .i64 m, .slice ae ls.length ce, .slice az zs.length cz] 27)).alloc (.cells #[.slice aw ws.length cw, .int .i64 o] 29)) (w.heap.size + 1) (.slice aw ws.length cw) o := by have h := box_new (w.alloc (.cells #[.int .i64 m, .slice ae ls.length ce, .slice az zs.length cz] 27)) #[.slice aw ws.length cw, .int .i64 o] 29; rw [World.size_alloc] at h; exact h
  have l0 : Below w.heap.size w ((w.alloc (.cells #[.int .i64 m, .slice ae ls.length ce, .slice az zs.length cz] 27)).alloc (.cells #[.slice aw ws.length cw, .int .i64 o] 29)) := later_trans (later_alloc _ _) (later_alloc _ _)
  have H0 := Lib.hid (And.intro bS0 (And.intro bC0 l0))
  clear bS0 bC0 l0
  go_wp2_with fail
  refine (wakes_any _ (H.out.2.2.later H0.out.2.2)).mono ?_
  rintro e w1 ⟨rfl, hb1⟩
  have H1 := Lib.hid (And.intro (kept hb1 H0.out.1) (And.intro (kept hb1 H0.out.2.1) (later_trans H0.out.2.2 hb1)))
  obtain ⟨c0, c1, c2, f0, f1, f2, lN⟩ := three_of H1.out.1
  clear hb1
  go_wp2_with fail
  refine (own_any ⟨m, ls, zs⟩ _ _ _ (H.out.1.later H1.out.2.2)).mono ?_
  rintro e w2 ⟨ev2, sv2, rfl, hS2, hb2⟩
  rw [← HM.out.2] at hS2
  have hb2' := later_trans hb2 (later_alloc w2 (.cells #[.int .i64 m, ev2, sv2] 27))
  have H2 := Lib.hid (And.intro (hS2.later (later_alloc w2 (.cells #[.int .i64 m, ev2, sv2] 27))) (And.intro (kept hb2' H1.out.2.1) (And.intro (later_trans H1.out.2.2 hb2') (box_new w2 #[.int .i64 m, ev2, sv2] 27))))
  obtain ⟨p1, q1, rfl, -⟩ := hS2.shR.edges.open
  obtain ⟨p2, q2, rfl, -⟩ := hS2.shR.sizes.open
  obtain ⟨d0, d1, g0, g1, lC⟩ := two_of H2.out.2.1
  have hs2 := lt_of_block H1.out.2.1
  have hs22 := hb2.size
  clear hb2 hb2' hS2 c0 c1 c2 f0 f1 f2
  go_upto_region 4 with fail
  go_cut [] (fun wx => ∃ wv' : Value, LstW w m (.slice p1 S2.edges.length q1) (.slice p2 S2.sizes.length q2) wv' S2 ⟨ws.take mw, o⟩ w2.heap.size wx)
  case first =>
    go_wp2_with fail
    refine (cloneI_any _ (ws.take mw) _ (SlI.cut2 (k := .i64) (SlI.later H.out.2.1 H2.out.2.2.1) hml) (by simp; omega)).mono ?_
    rintro e w3 ⟨v3, rfl, ho3, hb3⟩
    obtain ⟨a3, q3, hv3⟩ := owns_shape2 ho3
    have hn3 : (ws.take mw).length = mw := HLm.out
    rw [hn3] at hv3
    subst hv3
    have hsz3 := lt_of_block H2.out.2.2.2
    have hx3 : w1.heap.size ≤ (w2.alloc (.cells #[.int .i64 m, .slice p1 S2.edges.length q1, .slice p2 S2.sizes.length q2] 27)).heap.size := by omega
    have hL := LstW.of (ws := ws.take mw) (later_trans H2.out.2.2.1 hb3) (kept hb3 H2.out.2.1) (kept hb3 H2.out.2.2.2) (H2.out.1.later hb3) (owns_down ho3 hx3) (fun x hx => H.out.2.1.2 x (List.mem_of_mem_take hx)) (by omega) hs2
    obtain ⟨d0, d1, g0, g1, lC⟩ := two_of (kept hb3 H2.out.2.1)
    have HL := Lib.hid hL
    clear hb3 ho3 hn3 hL hx3
    go_wp2_with fail
    go_meet
    exact ⟨_, HL.out⟩
  case rest =>
    obtain ⟨wv3, hL⟩ := hcut
    clear d0 d1 g0 g1 lC
    obtain ⟨Y, hY⟩ : ∃ Y, w2.heap.size = Y := ⟨_, rfl⟩
    rw [hY] at hL ⊢
    obtain ⟨a3, q3, rfl, -⟩ := hL.ws.open
    have hn3 : (ws.take mw).length = mw := HLm.out
    simp only [hn3] at hL
    obtain ⟨c2, hc2⟩ : ∃ c2 : Cov, (⟨ws.take mw, o⟩ : Cov) = c2 := ⟨_, rfl⟩
    have ho : c2.of = o := by rw [← hc2]
    rw [hc2] at hL
    have hB := Bound_any S2 c2 _ _ _ wc hL.own hL.ws (H.out.2.2.later hL.bel)
    rw [HM.out.1, ho] at hB
    obtain ⟨c0, c1, c2', f0, f1, f2, lY⟩ := three_of hL.b5
    obtain ⟨d0, d1, g0, g1, lC⟩ := two_of hL.bc
    rw [ho] at d1
    have HL := Lib.hid hL
    have HB := Lib.hid hB
    clear hL hB hn3 hc2 hY hs2 hs22 hmin hmc hml hwsm hmw42
    obtain ⟨q, hq⟩ : ∃ q, boundE S2 c2 = q := ⟨_, rfl⟩
    obtain ⟨bN, hbN⟩ : ∃ bN, boundN S2 c2 = bN := ⟨_, rfl⟩
    have hbl : bN < 340282366920938463463374607431768211456 := by
      rw [← hbN]
      by_cases hE : boundE S2 c2 = 0
      · exact (boundN_lt hE).2.1
      · unfold boundN; rw [if_neg hE]; decide
    obtain ⟨bh, bl, hbw, -⟩ := wv_open bN hbl
    have hV : boundV S2 c2 = .tuple #[.agg #[.int .u64 bh, .int .u64 bl], .int .i64 q] := by
      unfold boundV
      rw [hbN, hq, hbw]
    rw [hV] at HB
    have HN := Lib.hid (And.intro hq (And.intro hbN (And.intro hbl (And.intro hbw ho))))
    clear hV hq hbN hbl hbw ho
    by_cases hq0 : q = 0
    · subst hq0
      go_wp2_with fail
      refine HB.out.mono ?_
      rintro e w4 ⟨rfl, hb4⟩
      have hb4' := later_trans hb4 (later_alloc w4 (.cells #[.int .u64 bh, .int .u64 bl] 35))
      have H4 := Lib.hid (And.intro (HL.out.later hb4') (box_new w4 #[.int .u64 bh, .int .u64 bl] 35))
      clear hb4 hb4'
      go_wp2_with fail
      refine (Of_any 1 (by decide) _).mono ?_
      rintro e w5 ⟨rfl, hb5⟩
      have H5 := Lib.hid (And.intro (H4.out.1.later hb5) (kept hb5 H4.out.2))
      clear hb5
      rw [show wv 1 = .agg #[.int .u64 0, .int .u64 1] from rfl]
      obtain ⟨c0, c1, c2', f0, f1, f2, lY⟩ := three_of H5.out.1.b5
      go_wp2_with fail
      have HF := Lib.hid (least_facts HN.out.1)
      have hz40 : S2.sizes.length ≤ 40 := HF.out.2.1
      go_loopw [45] (fun i wr => ∃ k : Nat, k ≤ S2.sizes.length ∧ i = .int .i64 k ∧ Below w5.heap.size w5 wr ∧ WB wr w5.heap.size (prodSo S2 c2 k)) (fun i _ => S2.sizes.length - (intOf i).toNat)
      case atStart =>
        refine ⟨0, Nat.zero_le _, rfl, later_alloc _ _, ?_⟩
        rw [prodSo_zero]
        exact box_new w5 _ _
      case round =>
        obtain ⟨k, hk, rfl, hb, hp⟩ := hrel
        have hL := H5.out.1.later hb
        by_cases hlt : k < S2.sizes.length
        · obtain ⟨_, _, e1, _, _, _, f4⟩ := hL.own.sizes.open
          obtain ⟨bz, oz, e2, hbz, fc⟩ := f4 (by omega)
          injection e1 with e1a e1b e1c
          subst e1a
          subst e2
          have cz1 : wr.cell? ⟨bz, oz + k, none⟩ = some (.int .i64 S2.sizes[k]) := fc k hlt
          rw [← getD_at hlt] at cz1
          have hkw : k < c2.ws.length := by have := HF.out.1; omega
          obtain ⟨_, _, g1, _, _, _, g4⟩ := hL.ws.open
          obtain ⟨bw, ow, g2, hbw, gc⟩ := g4 (by omega)
          injection g1 with g1a g1b g1c
          subst g1a
          subst g2
          have cw1 : wr.cell? ⟨bw, ow + k, none⟩ = some (.int .i64 c2.ws[k]) := gc k hkw
          rw [← getD_at hkw] at cw1
          have hkmw : k < mw := by omega
          obtain ⟨hzk, hwk0, hwk, hpw⟩ := HF.out.2.2.2.2 k hlt
          have hps := prodSo_succ S2 c2 hlt
          have hple := Nat.lt_of_le_of_lt (prodSo_le S2 c2 (k := k) (by omega)) HF.out.2.2.1
          have hple2 := Nat.lt_of_le_of_lt (prodSo_le S2 c2 (k := k + 1) (by omega)) HF.out.2.2.1
          obtain ⟨pk, hpk⟩ : ∃ pk, prodSo S2 c2 k = pk := ⟨_, rfl⟩
          obtain ⟨pk2, hpk2⟩ : ∃ pk, prodSo S2 c2 (k + 1) = pk := ⟨_, rfl⟩
          obtain ⟨z, hz⟩ : ∃ z, S2.sizes.getD k 0 = z := ⟨_, rfl⟩
          obtain ⟨y, hy⟩ : ∃ y, c2.ws.getD k 0 = y := ⟨_, rfl⟩
          rw [hz, hy, hpk, hpk2] at hps
          rw [hz] at cz1 hzk
          rw [hy] at cw1 hwk hwk0
          rw [hz, hy] at hpw
          rw [hpk] at hple hp
          rw [hpk2] at hple2
          obtain ⟨a1, ha1⟩ : ∃ a1 : Nat, (max z 1).toNat = a1 := ⟨_, rfl⟩
          obtain ⟨y1, rfl⟩ : ∃ y1 : Nat, y = y1 := ⟨y.toNat, by omega⟩
          rw [ha1, Int.toNat_natCast] at hpw hps
          have hmx : Value.int .i64 (if z < 1 then 1 else z) = .int .i64 a1 := by rw [← ha1]; congr 1; split <;> omega
          have ha2 : a1 ≤ 1048576 := by omega
          have ha3 : 1 ≤ a1 := by omega
          have hltI : (k : Int) < S2.sizes.length := by omega
          have hkwI : (k : Int) < mw := by omega
          obtain ⟨rh, rl, hrw, -⟩ := wv_open (a1 ^ y1) hpw
          have hre : wres (a1 ^ y1) = .tuple #[.agg #[.int .u64 rh, .int .u64 rl], .int .i64 0] := by unfold wres; rw [if_pos hpw, hrw]
          obtain ⟨ph, pl, hpw1, -⟩ := wv_open pk hple
          obtain ⟨nh, nl, hnw, -⟩ := wv_open pk2 hple2
          have hMul := fun W => Mul_any pk (a1 ^ y1) hple hpw W
          rw [hpw1, hrw, ← hps] at hMul
          have hMv : wres pk2 = .tuple #[.agg #[.int .u64 nh, .int .u64 nl], .int .i64 0] := by unfold wres; rw [if_pos hple2, hnw]
          rw [hMv] at hMul
          have HMul := Lib.hid hMul
          have hp2 := hp.two hpw1
          have HP0 := Lib.hid (And.intro hp2 (And.intro hb (And.intro hpk2 (And.intro hnw hlt))))
          obtain ⟨dc0, dc1, -, -, -⟩ := two_of hL.bc
          have HKeep : Hid (∀ W, Below wr.heap.size wr W → W.cell? ⟨w.heap.size + 1, 0, none⟩ = some (.slice (some ⟨bw, ow, none⟩) mw q3) ∧ W.cell? ⟨bw, ow + k, none⟩ = some (.int .i64 (y1 : Int))) := Lib.hid (fun W hb => ⟨cell_next hb dc0, cell_next hb cw1⟩)
          have hPow := fun W hb => Power_any a1 y1 (by omega) (by omega) W ((H.out.2.2.later hL.bel).later hb)
          rw [hre] at hPow
          have hOf := fun W => Of_any a1 (by omega) W
          obtain ⟨oh, ol, hwv, -⟩ := wv_open a1 (by omega)
          rw [hwv] at hOf hPow
          have HPw := Lib.hid hPow
          have hwr : IntKind.u64.wrap (a1 : Int) = a1 := wrap_u64 (by omega) (by omega)
          clear hL f4 fc g4 gc hz hy ha1 hpw hlt hkw hPow hre hwv hps hple hple2 hpk hpk2 hrw hpw1 hnw hMul hMv hp hp2 hb hk dc0 cw1 e1b e1c g1b g1c
          go_upto_region 12 with fail
          go_cut [11, 12] (fun s9 s10 wx => ∃ X : Nat, s9 = .pointer (some ⟨X, 0, none⟩) ∧ s10 = .int .i64 0 ∧ wx.heap[X]? = some (.cells #[.int .u64 (rh : Int), .int .u64 (rl : Int)] 35 (0, 0)) ∧ Below wr.heap.size wr wx)
          case first =>
            go_region_held3 (fun W => W.cell? ⟨w.heap.size + 1, 0, none⟩ = some (.slice (some ⟨bw, ow, none⟩) mw q3) ∧ W.cell? ⟨bw, ow + k, none⟩ = some (.int .i64 (y1 : Int)))
              (first | exact HKeep.out _ (later_refl _) | exact HKeep.out _ (later_drew _) | exact HKeep.out _ (later_trans (later_alloc _ _) (later_drew _)) | exact HKeep.out _ (later_alloc _ _) | exact HKeep.out _ hbO | exact HKeep.out _ hbP | exact HKeep.out _ (later_trans hbO (later_alloc _ _)) | exact HKeep.out _ (later_trans hbP (later_alloc _ _)) | exact HKeep.out _ (below_set (below_set hbP (Nat.le_refl _)) (Nat.le_refl _)) | exact HKeep.out _ (below_set (below_set hbP hbO.size) hbO.size) | assumption)
              (first
                | (go_at_call 33; have hq := mO; refine (HPw.out _ (by first | exact hbO | exact later_trans hbO (later_alloc _ _))).mono ?_; rintro e wP ⟨rfl, hP1⟩; have hbP : Below wr.heap.size wr wP := (by first | exact later_trans hbO hP1 | exact later_trans (later_trans hbO (later_alloc _ _)) hP1); have nP := kept hP1 mO; obtain ⟨n0, n1, f0, f1, ln⟩ := two_of nP)
                | (go_at_call 33; refine (HPw.out _ (by first | exact hbO | exact later_trans hbO (later_alloc _ _))).mono ?_; rintro e wP ⟨rfl, hP1⟩; have hbP : Below wr.heap.size wr wP := (by first | exact later_trans hbO hP1 | exact later_trans (later_trans hbO (later_alloc _ _)) hP1); have nP := new_kept hP1; obtain ⟨n0, n1, f0, f1, ln⟩ := two_of nP)
                | (go_at_call 33; refine (HPw.out _ (by first | exact hbO | exact later_trans hbO (later_alloc _ _))).mono ?_; rintro e wP ⟨rfl, hP1⟩; have hbP : Below wr.heap.size wr wP := (by first | exact later_trans hbO hP1 | exact later_trans (later_trans hbO (later_alloc _ _)) hP1))
                | (go_at_call 32; refine (hOf _).mono ?_; rintro e wO ⟨rfl, hO1⟩; have hbO : Below wr.heap.size wr wO := (by first | exact later_trans (later_drew _) hO1 | exact later_trans (later_trans (later_drew _) (later_alloc _ _)) hO1); have mO := new_keptD hO1)
                | (go_at_call 32; refine (hOf _).mono ?_; rintro e wO ⟨rfl, hO1⟩; have hbO : Below wr.heap.size wr wO := (by first | exact later_trans (later_drew _) hO1 | exact later_trans (later_trans (later_drew _) (later_alloc _ _)) hO1); have mO := new_kept hO1)
                | (go_at_call 32; refine (hOf _).mono ?_; rintro e wO ⟨rfl, hO1⟩; have hbO : Below wr.heap.size wr wO := (by first | exact later_trans (later_drew _) hO1 | exact later_trans (later_trans (later_drew _) (later_alloc _ _)) hO1)))
            all_goals (go_wp2_with fail)
            all_goals go_meet
            all_goals first
              | exact ⟨wP.heap.size, rfl, rfl, box_new _ _ _, later_trans hbP (later_alloc _ _)⟩
              | (refine ⟨_, rfl, rfl, ?_, below_set (below_set hbP hbO.size) hbO.size⟩; have hn := box_set (i := 1) (box_set (i := 0) nP (.int .u64 (rh : Int))) (.int .u64 (rl : Int)); simpa using hn)
              | (refine ⟨_, rfl, rfl, ?_, below_set (below_set hbP (Nat.le_refl _)) (Nat.le_refl _)⟩; have hn := box_set (i := 1) (box_set (i := 0) nP (.int .u64 (rh : Int))) (.int .u64 (rl : Int)); simpa using hn)
          case rest =>
            obtain ⟨X, rfl, rfl, hX, hbx⟩ := hcut
            obtain ⟨n0, n1, -, -, ln⟩ := two_of hX
            obtain ⟨m0, m1, f0, f1, lm⟩ := two_of (kept hbx HP0.out.1)
            have HX := Lib.hid (And.intro (later_trans HP0.out.2.1 hbx) (kept hbx HP0.out.1))
            clear hbx hX dc1 cz1
            go_wp2_with fail
            refine (HMul.out _).mono ?_
            rintro e wM ⟨rfl, hbM⟩
            have hm := kept hbM HX.out.2
            obtain ⟨m0, m1, f0, f1, lm⟩ := two_of hm
            have HM2 := Lib.hid (And.intro hm (later_trans HX.out.1 hbM))
            clear hbM hm n0 n1 ln
            go_wp2_with fail
            go_roundw
            case rel =>
              refine ⟨k + 1, HP0.out.2.2.2.2, by go_num, below_set (below_set HM2.out.2 (Nat.le_refl _)) (Nat.le_refl _), ?_⟩
              rw [HP0.out.2.2.1]
              refine WB.mk HP0.out.2.2.2.1 ?_
              have hn := box_set (i := 1) (box_set (i := 0) HM2.out.1 (.int .u64 (nh : Int))) (.int .u64 (nl : Int))
              simpa using hn
            case measure => simp [intOf]; omega
        · obtain rfl : k = S2.sizes.length := by omega
          have hbl := HN.out.2.2.1
          have hbw := HN.out.2.2.2.1
          obtain ⟨r1, r2, r3⟩ := boundN_lt HN.out.1
          rw [HN.out.2.1] at r1 r2 r3
          obtain ⟨on, rfl⟩ : ∃ on : Nat, o = on := ⟨o.toNat, by have := HF.out.2.2.2.1; have := HN.out.2.2.2.2; omega⟩
          have hon : 1 ≤ on ∧ on ≤ 16 := by have := HF.out.2.2.2.1; have := HN.out.2.2.2.2; omega
          have ront : c2.of.toNat = on := by have := HN.out.2.2.2.2; omega
          rw [ront] at r3
          obtain ⟨need, hneed⟩ : ∃ need, needN S2 c2 = need := ⟨_, rfl⟩
          obtain ⟨t1, t2, -, -⟩ := rootN_spec (n := needN S2 c2) (o := on) hon.1 (needN_pos S2 c2)
          rw [← r3] at t1 t2
          have hnl : needN S2 c2 < 340282366920938463463374607431768211456 := HF.out.2.2.1
          rw [prodSo_all] at hp
          rw [hneed] at t1 t2 hnl hp
          have t3 := t2 (bN - 1) (by omega)
          obtain ⟨eh, el, hew, -⟩ := wv_open need hnl
          have hp2 := hp.two hew
          have hl1 : bN - 1 < 340282366920938463463374607431768211456 := by omega
          obtain ⟨lh, ll, hlw, -⟩ := wv_open (bN - 1) hl1
          have hml : (bN - 1) ^ on < 340282366920938463463374607431768211456 := by omega
          obtain ⟨mh, ml, hmw2, -⟩ := wv_open ((bN - 1) ^ on) hml
          obtain ⟨fh, fl, fe, hfv⟩ := wres_open (bN ^ on)
          have hP1 := fun W hb => Power_any bN on hbl (by omega) W ((H.out.2.2.later hL.bel).later hb)
          rw [hbw, hfv] at hP1
          have hSub := fun W => Sub_any bN 1 hbl (by decide) W
          have hsb : wres (subN bN 1) = .tuple #[.agg #[.int .u64 lh, .int .u64 ll], .int .i64 0] := by unfold subN; rw [if_pos r1]; unfold wres; rw [if_pos hl1, hlw]
          rw [hbw, hsb] at hSub
          have hOf := fun W => Of_any 1 (by decide) W
          have hw1 : wv 1 = .agg #[.int .u64 0, .int .u64 1] := rfl
          rw [hw1] at hOf hSub
          have hP2 := fun W hb => Power_any (bN - 1) on hl1 (by omega) W ((H.out.2.2.later hL.bel).later hb)
          have hmv : wres ((bN - 1) ^ on) = .tuple #[.agg #[.int .u64 mh, .int .u64 ml], .int .i64 0] := by unfold wres; rw [if_pos hml, hmw2]
          rw [hlw, hmv] at hP2
          have hC2 := fun W => Compare_any ((bN - 1) ^ on) need hml hnl W
          rw [hmw2, hew, cmpI_lt (by omega)] at hC2
          have hF3 : bN ^ on < 340282366920938463463374607431768211456 ∧ wv (bN ^ on) = .agg #[.int .u64 fh, .int .u64 fl] ∧ fe = 0 ∨ fe = 110 := by
            unfold wres at hfv
            by_cases hv : bN ^ on < 340282366920938463463374607431768211456
            · rw [if_pos hv] at hfv
              simp only [Value.tuple.injEq, Array.mk.injEq, List.cons.injEq, Value.int.injEq, true_and, and_true] at hfv
              exact .inl ⟨hv, hfv.1, hfv.2.symm⟩
            · rw [if_neg hv] at hfv
              simp only [Value.tuple.injEq, Array.mk.injEq, List.cons.injEq, Value.int.injEq, true_and, and_true] at hfv
              exact .inr hfv.2.symm
          have HR := Lib.hid (And.intro hF3 (And.intro t1 (And.intro hnl hew)))
          have HP1 := Lib.hid hP1
          have HP2 := Lib.hid hP2
          have HSub := Lib.hid hSub
          have HC2 := Lib.hid hC2
          have h6 := kept hb H5.out.2
          have HWr := Lib.hid (And.intro hL (And.intro h6 hp2))
          obtain ⟨x0, x1, -, -, -⟩ := two_of h6
          obtain ⟨-, cc1, -, -, -⟩ := two_of hL.bc
          rw [HN.out.2.2.2.2] at cc1
          clear hbl hbw r1 r2 r3 ront t1 t2 t3 hp hp2 hew hl1 hlw hml hmw2 hfv hP1 hSub hsb hw1 hP2 hmv hC2 hF3 hneed hnl hb hL h6 hk hlt c0 c1 c2' f0 f1 f2 lY d0 d1 g0 g1 lC
          go_wp2_with fail
          refine (HP1.out _ (later_refl _)).mono ?_
          rintro e w6 ⟨rfl, hb6⟩
          have hb6' := later_trans hb6 (later_alloc w6 (.cells #[.int .u64 fh, .int .u64 fl] 35))
          have H6 := Lib.hid (And.intro hb6' (box_new w6 #[.int .u64 fh, .int .u64 fl] 35))
          clear hb6 hb6'
          go_upto_region 20 with fail
          obtain ⟨W6, hW6⟩ : ∃ W, w6.alloc (.cells #[.int .u64 fh, .int .u64 fl] 35) = W := ⟨_, rfl⟩
          rw [hW6] at H6
          try rw [hW6]
          clear hW6
          have y0 := cell_next H6.out.1 x0
          have y1 := cell_next H6.out.1 x1
          have HKeep : Hid (∀ W, Below W6.heap.size W6 W → W.cell? ⟨w4.heap.size, 0, none⟩ = some (.int .u64 bh) ∧ W.cell? ⟨w4.heap.size, 1, none⟩ = some (.int .u64 bl)) := Lib.hid (fun W hb => ⟨cell_next hb y0, cell_next hb y1⟩)
          clear x0 x1 cc1
          go_cut [15, 16] (fun s9 s10 wx => ∃ X : Nat, s9 = .pointer (some ⟨X, 0, none⟩) ∧ s10 = .int .i64 0 ∧ wx.heap[X]? = some (.cells #[.int .u64 (lh : Int), .int .u64 (ll : Int)] 35 (0, 0)) ∧ Below W6.heap.size W6 wx)
          case first =>
            go_region_held3 (fun W => W.cell? ⟨w4.heap.size, 0, none⟩ = some (.int .u64 bh) ∧ W.cell? ⟨w4.heap.size, 1, none⟩ = some (.int .u64 bl))
              (first | exact HKeep.out _ (later_refl _) | exact HKeep.out _ (later_drew _) | exact HKeep.out _ (later_trans (later_alloc _ _) (later_drew _)) | exact HKeep.out _ (later_alloc _ _) | exact HKeep.out _ hbO | exact HKeep.out _ hbP | exact HKeep.out _ (later_trans hbO (later_alloc _ _)) | exact HKeep.out _ (later_trans hbP (later_alloc _ _)) | exact HKeep.out _ (below_set (below_set hbP (Nat.le_refl _)) (Nat.le_refl _)) | exact HKeep.out _ (below_set (below_set hbP hbO.size) hbO.size) | assumption)
              (first
                | (go_at_call 35; have hq := mO; refine (HSub.out _).mono ?_; rintro e wP ⟨rfl, hP1⟩; have hbP : Below W6.heap.size W6 wP := (by first | exact later_trans hbO hP1 | exact later_trans (later_trans hbO (later_alloc _ _)) hP1); have nP := kept hP1 mO; obtain ⟨n0, n1, f0, f1, ln⟩ := two_of nP)
                | (go_at_call 35; refine (HSub.out _).mono ?_; rintro e wP ⟨rfl, hP1⟩; have hbP : Below W6.heap.size W6 wP := (by first | exact later_trans hbO hP1 | exact later_trans (later_trans hbO (later_alloc _ _)) hP1); have nP := new_kept hP1; obtain ⟨n0, n1, f0, f1, ln⟩ := two_of nP)
                | (go_at_call 35; refine (HSub.out _).mono ?_; rintro e wP ⟨rfl, hP1⟩; have hbP : Below W6.heap.size W6 wP := (by first | exact later_trans hbO hP1 | exact later_trans (later_trans hbO (later_alloc _ _)) hP1))
                | (go_at_call 32; refine (hOf _).mono ?_; rintro e wO ⟨rfl, hO1⟩; have hbO : Below W6.heap.size W6 wO := (by first | exact later_trans (later_drew _) hO1 | exact later_trans (later_trans (later_drew _) (later_alloc _ _)) hO1); have mO := new_keptD hO1)
                | (go_at_call 32; refine (hOf _).mono ?_; rintro e wO ⟨rfl, hO1⟩; have hbO : Below W6.heap.size W6 wO := (by first | exact later_trans (later_drew _) hO1 | exact later_trans (later_trans (later_drew _) (later_alloc _ _)) hO1); have mO := new_kept hO1)
                | (go_at_call 32; refine (hOf _).mono ?_; rintro e wO ⟨rfl, hO1⟩; have hbO : Below W6.heap.size W6 wO := (by first | exact later_trans (later_drew _) hO1 | exact later_trans (later_trans (later_drew _) (later_alloc _ _)) hO1)))
            all_goals (go_wp2_with fail)
            all_goals go_meet
            all_goals first
              | exact ⟨wP.heap.size, rfl, rfl, box_new _ _ _, later_trans hbP (later_alloc _ _)⟩
              | (refine ⟨_, rfl, rfl, ?_, below_set (below_set hbP hbO.size) hbO.size⟩; have hn := box_set (i := 1) (box_set (i := 0) nP (.int .u64 (lh : Int))) (.int .u64 (ll : Int)); simpa using hn)
              | (refine ⟨_, rfl, rfl, ?_, below_set (below_set hbP (Nat.le_refl _)) (Nat.le_refl _)⟩; have hn := box_set (i := 1) (box_set (i := 0) nP (.int .u64 (lh : Int))) (.int .u64 (ll : Int)); simpa using hn)
          case rest =>
            obtain ⟨X7, rfl, rfl, hX, hbx⟩ := hcut
            have h13 := kept hbx H6.out.2
            have h8 := kept (later_trans H6.out.1 hbx) HWr.out.2.2
            obtain ⟨n0, n1, -, -, ln⟩ := two_of h13
            obtain ⟨m0, m1, -, -, lm⟩ := two_of h8
            have H7 := Lib.hid (And.intro (later_trans H6.out.1 hbx) hX)
            clear hbx hX h13 h8 y0 y1 HKeep
            go_upto_region 21 with fail
            go_cut [98] (fun s98 wx => s98 = .bool false ∧ Below wc.heap.size wc wx)
            case first =>
              rcases HR.out.1 with ⟨hv, hfw, rfl⟩ | rfl
              · obtain ⟨z, hz⟩ : ∃ z, cmpI ((bN ^ on : Nat) : Int) (need : Int) = z := ⟨_, rfl⟩
                have hC := fun W => Compare_any (bN ^ on) need hv HR.out.2.2.1 W
                rw [hfw, HR.out.2.2.2, hz] at hC
                have hz0 : z = 0 ∨ z = 1 := by
                  rw [← hz]
                  have := HR.out.2.1
                  rcases Nat.lt_or_ge need (bN ^ on) with h1 | h1
                  · exact .inr (cmpI_gt (by omega))
                  · exact .inl (cmpI_eq (by omega))
                have HC := Lib.hid hC
                clear hC hz hv hfw
                rcases hz0 with rfl | rfl
                · go_wp2_with fail
                  refine (HC.out _).mono ?_
                  rintro e w8 ⟨rfl, hb8⟩
                  have H8 := Lib.hid hb8
                  clear hb8
                  go_wp2_with fail
                  go_meet
                  exact ⟨rfl, H8.out⟩
                · go_wp2_with fail
                  refine (HC.out _).mono ?_
                  rintro e w8 ⟨rfl, hb8⟩
                  have H8 := Lib.hid hb8
                  clear hb8
                  go_wp2_with fail
                  go_meet
                  exact ⟨rfl, H8.out⟩
              · go_wp2_with fail
                go_meet
                exact ⟨rfl, later_refl _⟩
            case rest =>
              obtain ⟨rfl, hbx⟩ := hcut
              have h15 := kept hbx H7.out.2
              have h1x := later_trans H7.out.1 hbx
              have hL := HWr.out.1.later h1x
              obtain ⟨x0, x1, -, -, -⟩ := two_of h15
              obtain ⟨-, cc1, -, -, -⟩ := two_of hL.bc
              rw [HN.out.2.2.2.2] at cc1
              have HX := Lib.hid h1x
              clear hbx h15 h1x hL n0 n1 ln m0 m1 lm
              go_wp2_with fail
              refine (HP2.out _ HX.out).mono ?_
              rintro e w9 ⟨rfl, hb9⟩
              have hb9' := later_trans hb9 (later_alloc w9 (.cells #[.int .u64 mh, .int .u64 ml] 35))
              have H9 := Lib.hid (And.intro (later_trans HX.out hb9') (box_new w9 #[.int .u64 mh, .int .u64 ml] 35))
              have hL9 := HWr.out.1.later (later_trans HX.out hb9)
              obtain ⟨c0, c1, c2', f0, f1, f2, lY⟩ := three_of hL9.b5
              obtain ⟨d0, d1, g0, g1, lC⟩ := two_of hL9.bc
              rw [HN.out.2.2.2.2] at d1
              clear hb9 hb9' hL9 x0 x1 cc1
              have hlm := least_lim HN.out.1
              obtain ⟨lim, hlim⟩ : ∃ lim, prodTo (limL S2 c2) 5 = lim := ⟨_, rfl⟩
              rw [HN.out.2.1, hlim] at hlm
              have hlv : limitV S2 c2 = wres lim := by unfold limitV; rw [if_pos HN.out.1, hlim]
              obtain ⟨gh, gl, ge, hgv⟩ := wres_open lim
              have hF4 : lim < 340282366920938463463374607431768211456 ∧ wv lim = .agg #[.int .u64 gh, .int .u64 gl] ∧ ge = 0 ∨ ge = 110 := by
                unfold wres at hgv
                by_cases hv : lim < 340282366920938463463374607431768211456
                · rw [if_pos hv] at hgv
                  simp only [Value.tuple.injEq, Array.mk.injEq, List.cons.injEq, Value.int.injEq, true_and, and_true] at hgv
                  exact .inl ⟨hv, hgv.1, hgv.2.symm⟩
                · rw [if_neg hv] at hgv
                  simp only [Value.tuple.injEq, Array.mk.injEq, List.cons.injEq, Value.int.injEq, true_and, and_true] at hgv
                  exact .inr hgv.2.symm
              have hLi := fun W hb => Limit_any S2 c2 _ _ _ W (HWr.out.1.later hb).own (HWr.out.1.later hb).ws (H.out.2.2.later (HWr.out.1.later hb).bel)
              rw [HM.out.1, HN.out.2.2.2.2, hlv, hgv] at hLi
              have HLi := Lib.hid hLi
              have HF4 := Lib.hid (And.intro hF4 hlm)
              clear hLi hlv hgv hF4 hlm hlim
              go_wp2_with fail
              refine (HLi.out _ H9.out.1).mono ?_
              rintro e w10 ⟨rfl, hb10⟩
              have h17 := kept hb10 H9.out.2
              have h10 := later_trans H9.out.1 hb10
              obtain ⟨u0, u1, -, -, lu⟩ := two_of h17
              obtain ⟨v0, v1, -, -, lv⟩ := two_of (kept h10 HWr.out.2.2)
              have H10 := Lib.hid (And.intro h10 (later_trans h10 (later_alloc w10 (.cells #[.int .u64 gh, .int .u64 gl] 35))))
              have H18 := Lib.hid (box_new w10 #[.int .u64 gh, .int .u64 gl] 35)
              clear hb10 h17 h10 c0 c1 c2' f0 f1 f2 lY d0 d1 g0 g1 lC
              go_wp2_with fail
              refine (HC2.out _).mono ?_
              rintro e w11 ⟨rfl, hb11⟩
              have h18 := kept hb11 H18.out
              have h11 := later_trans H10.out.2 hb11
              obtain ⟨a0, a1, -, -, la⟩ := two_of h18
              obtain ⟨b0, b1, -, -, lb⟩ := two_of (kept h11 HWr.out.2.1)
              have H11 := Lib.hid h11
              clear hb11 h18 h11 u0 u1 lu v0 v1 lv
              rcases HF4.out.1 with ⟨hv, hgw, rfl⟩ | rfl
              · have hC := fun W => Compare_any lim bN hv HN.out.2.2.1 W
                rw [hgw, HN.out.2.2.2.1, cmpI_gt (by have := HF4.out.2; omega)] at hC
                have HC := Lib.hid hC
                clear hC hv hgw
                go_wp2_with fail
                refine (HC.out _).mono ?_
                rintro e w12 ⟨rfl, hb12⟩
                have H12 := Lib.hid (later_trans H11.out hb12)
                clear hb12
                go_wp2_with fail
                go_ret
                exact ⟨rfl, later_trans HWr.out.1.bel H12.out⟩
              · go_wp2_with fail
                go_ret
                exact ⟨rfl, later_trans HWr.out.1.bel H11.out⟩
    · have hq1 : (q != 0) = true := by simpa using hq0
      go_wp2_with fail
      refine HB.out.mono ?_
      rintro e w4 ⟨rfl, hb4⟩
      have H4 := Lib.hid (later_trans HL.out.bel hb4)
      clear hb4
      go_wp2_with fail
      go_ret
      exact ⟨rfl, later_trans H4.out (later_alloc _ _)⟩
end Go.Proofs.YtdmfhlfhlflakaaDoor
