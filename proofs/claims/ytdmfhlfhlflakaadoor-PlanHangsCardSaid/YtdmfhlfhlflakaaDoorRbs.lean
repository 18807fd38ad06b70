/-
  The document's product, bound, limit and covers, walked.
-/
import Derived.Test.YtdmfhlfhlflakaaDoorDigs
import Derived.Test.YtdmfhlfhlflakaaDoorPlLim
import Derived.Test.YtdmfhlfhlflakaaDoorPlLst
import Derived.Deep.LoopGhost
import Derived.Test.YtdmfhlfhlflakaaDoorPlRef20
namespace Go.Proofs.YtdmfhlfhlflakaaDoor
/-! ## XRb1 -/
section
open Go.RowKit Go.Shelf
set_option linter.unusedVariables false
set_option linter.unusedSimpArgs false

/-- The product of the first ones. -/
def prodR (zs ws : List Int) : Nat → Nat
  | 0 => 1
  | k + 1 => prodR zs ws k * (max (zs.getD k 0) 1).toNat ^ (ws.getD k 0).toNat
theorem prodR_need (S : Shp) (c : Cov) : prodR S.sizes c.ws S.sizes.length = needN S c := by
  have key : ∀ k, prodTo (powL S.sizes c.ws k) k = prodR S.sizes c.ws k := by
    intro k
    induction k with
    | zero => rfl
    | succ k ih =>
      have h := prodTo_app (powL S.sizes c.ws k) ((max (S.sizes.getD k 0) 1).toNat ^ (c.ws.getD k 0).toNat)
      rw [powL_len] at h
      rw [powL_succ, h, ih]; rfl
  exact (key _).symm
theorem numV_open (N : Nat) : ∃ (h l : Int) (q : Bool), numV N = .tuple #[.agg #[.int .u64 h, .int .u64 l], .bool q] := by
  unfold numV
  split
  · exact ⟨_, _, true, rfl⟩
  · exact ⟨0, 0, false, rfl⟩

set_option maxRecDepth 100000 in
set_option maxHeartbeats 4000000 in
theorem product22_any (S : Shp) (c : Cov) (ev sv wv' : Value) (w : World) (h : ShR w ev sv S) (hw : SlI .i64 w wv' c.ws) (hok : shpB S = true) (hcv : coversB S c = true) :
    Calls Tryd.prog 66 #[shpV S.many ev sv, covV wv' c.of] w fun e w' => e = .returned (numV (needN S c)) ∧ Below w.heap.size w w' := by
  rw [← prodR_need]
  obtain ⟨q1, q2, q3, q4, q5⟩ := shpB_yes hok
  obtain ⟨p1, p2, p3, p4⟩ := coversB_of hcv
  obtain ⟨m, ls, zs⟩ := S
  obtain ⟨ws, o⟩ := c
  have hzb : ∀ k, k < zs.length → 0 ≤ zs.getD k 0 ∧ zs.getD k 0 ≤ 1048576 := fun k hk => by
    rw [getD_at hk]
    exact sizes_le hok _ (List.getElem_mem hk)
  simp only at p1 p2 p3 p4 q3 q4 hzb ⊢
  have hI0 : BndW w m ev sv wv' o _ := BndW.start
  have hSm := fun n W (h0 : (0 : Int) ≤ n) (h1 : n ≤ 1048576) => Small_any n W h0 (by omega)
  have H := Lib.hid (And.intro h.sizes (And.intro hw (And.intro p4 hzb)))
  have HSm := Lib.hid hSm
  have HI0 := Lib.hid hI0
  have hzw : zs.length = ws.length := by omega
  have hz40 : zs.length ≤ 40 := by omega
  obtain ⟨ae, ce, rfl, -⟩ := h.edges.open
  obtain ⟨az, cz, rfl, -⟩ := h.sizes.open
  obtain ⟨aw, cw, rfl, -⟩ := hw.open
  have hS1 := Small_any 1 (((w.alloc (.cells #[.int .i64 m, .slice ae ls.length ce, .slice az zs.length cz] 27)).alloc (.cells #[.slice aw ws.length cw, .int .i64 o] 29)).alloc (.cells #[.int .u64 0, .int .u64 0] 35)) (by decide) (by decide)
  rw [show smallL 1 = digs 1 from smallL_digs (n := 1) (by decide)] at hS1
  have HS1 := Lib.hid hS1
  have HZw := Lib.hid hzw
  simp only at H HI0 HS1 ⊢
  clear h hw hok hcv q1 q2 q3 q4 q5 p1 p2 p3 p4 hI0 hSm hS1 hzb hzw
  go_enter Tryd.func66, Tryd.ntmps66
  go_wp2_with fail
  refine HS1.out.mono ?_
  rintro e w1 ⟨v1, rfl, hv1, hb1⟩
  obtain ⟨a1, c1, rfl, -⟩ := hv1.open
  have hI1 := HI0.out.later hb1
  obtain ⟨c0, c1', c2, c3, c4⟩ := hI1.cells
  obtain ⟨r0, r1, f0, f1, lr⟩ := hI1.res
  have H1 := Lib.hid (And.intro hI1 hv1)
  clear hb1 hI1 hv1
  go_wp2_with fail
  go_loopw [6, 13] (fun s i wr => ∃ k : Nat, k ≤ zs.length ∧ i = .int .i64 k ∧ SlI .u64 wr s (digs (prodR zs ws k)) ∧ (digs (prodR zs ws k)).length ≤ 3 * (16 * k) + 1 ∧ BndW w m (.slice ae ls.length ce) (.slice az zs.length cz) (.slice aw ws.length cw) o wr) (fun _ i _ => zs.length - (intOf i).toNat)
  case atStart => exact ⟨0, Nat.zero_le _, rfl, H1.out.2, (by show (digs 1).length ≤ 1; exact (digs_len 1 1).2 (by decide)), H1.out.1⟩
  case round =>
    clear c0 c1' c2 c3 c4 r0 r1 f0 f1 lr
    obtain ⟨k, hk, rfl, ho, hln, hI⟩ := hrel
    obtain ⟨ao, co, rfl, -⟩ := ho.open
    obtain ⟨c0, c1', c2, c3, c4⟩ := hI.cells
    obtain ⟨r0, r1, f0, f1, lr⟩ := hI.res
    by_cases hlt : k < zs.length
    · obtain ⟨_, _, e1, _, _, _, f4⟩ := (SlI.later H.out.1 hI.bel).open
      obtain ⟨bz, oz, e2, _, fc⟩ := f4 (by omega)
      injection e1 with e1a e1b e1c
      subst e1a e1c
      subst e2
      have hkw : k < ws.length := by have := HZw.out; omega
      obtain ⟨_, _, g1, _, _, _, g4⟩ := (SlI.later H.out.2.1 hI.bel).open
      obtain ⟨bw, ow, g2, _, gc⟩ := g4 (by omega)
      injection g1 with g1a g1b g1c
      subst g1a g1c
      subst g2
      have cz1 := fc k hlt
      have cw1 := gc k hkw
      rw [← getD_at hlt] at cz1
      rw [← getD_at hkw] at cw1
      have hzk := H.out.2.2.2 k hlt
      have hwk := H.out.2.2.1 k hkw
      have hps : prodR zs ws (k + 1) = prodR zs ws k * (max (zs.getD k 0) 1).toNat ^ (ws.getD k 0).toNat := rfl
      obtain ⟨z, hz⟩ : ∃ z, zs.getD k 0 = z := ⟨_, rfl⟩
      obtain ⟨y, hy⟩ : ∃ y, ws.getD k 0 = y := ⟨_, rfl⟩
      rw [hz] at cz1 hzk hps
      rw [hy] at cw1 hwk hps
      obtain ⟨P, hP⟩ : ∃ P, prodR zs ws k = P := ⟨_, rfl⟩
      rw [hP] at hps ho hln ⊢
      obtain ⟨yn, rfl⟩ : ∃ yn : Nat, y = yn := ⟨y.toNat, by omega⟩
      rw [Int.toNat_natCast] at hps
      have hkwI : (k : Int) < ws.length := by omega
      have HK := Lib.hid (And.intro hI (And.intro hps (And.intro ho (And.intro hln hlt))))
      clear hI hps ho hln fc f4 gc g4 e1b g1b hz hy hP hkw
      go_wp2_with fail
      go_loopw [6, 23] (fun s i W => ∃ j : Nat, j ≤ yn ∧ i = .int .i64 j ∧ SlI .u64 W s (digs (P * (max z 1).toNat ^ j)) ∧ (digs (P * (max z 1).toNat ^ j)).length ≤ 3 * (16 * k + j) + 1 ∧ BndW w m (.slice ae ls.length ce) (.slice (some ⟨bz, oz, none⟩) zs.length cz) (.slice (some ⟨bw, ow, none⟩) ws.length cw) o W) (fun _ i _ => yn - (intOf i).toNat)
      case atStart => exact ⟨0, Nat.zero_le _, rfl, by rw [Nat.pow_zero, Nat.mul_one]; exact HK.out.2.2.1, by rw [Nat.pow_zero, Nat.mul_one]; exact HK.out.2.2.2.1, HK.out.1⟩
      case round =>
        obtain ⟨j, hj, rfl, ho, hln, hI⟩ := hrel
        obtain ⟨a2, c2', rfl, -⟩ := ho.open
        by_cases hjl : j < yn
        · have hjI : (j : Int) < yn := by omega
          by_cases hz1 : 1 < z
          · have hT := fun W v (hb : Below wr.heap.size wr W) hv => Times_any (.slice a2 (digs (P * (max z 1).toNat ^ j)).length c2') v (digs (P * (max z 1).toNat ^ j)) (smallL z) W (SlI.later ho hb) hv (digs_dg _) (smallL_lw (by omega) (by omega)) (by omega) (by have := smallL_len z; omega)
            have hdz : dv (digs (P * (max z 1).toNat ^ j)) * dv (smallL z) = P * (max z 1).toNat ^ (j + 1) := by
              rw [dv_digs, smallL_dv (by omega), Nat.pow_succ, ← Nat.mul_assoc, show (max z 1).toNat = z.toNat from by omega]
            have hl2 := times_len (digs_dg (P * (max z 1).toNat ^ j)) (smallL_lw (n := z) (by omega) (by omega))
            rw [hdz] at hl2
            simp only [hdz] at hT
            have hl3 := smallL_len z
            have hwz : IntKind.u64.wrap z = z := wrap_u64 (by omega) (by omega)
            obtain ⟨ln, hlnn⟩ : ∃ ln, (digs (P * (max z 1).toNat ^ j)).length = ln := ⟨_, rfl⟩
            rw [hlnn] at hT hl2 hln ⊢
            have HT := Lib.hid hT
            have HL := Lib.hid (show (digs (P * (max z 1).toNat ^ (j + 1))).length ≤ 3 * (16 * k + (j + 1)) + 1 by omega)
            have HII := Lib.hid hI
            have HS2 := Lib.hid (HSm.out z wr (by omega) (by omega))
            clear hT hdz hl2 hl3 hlnn ho hln hI
            go_wp2_with fail
            refine HS2.out.mono ?_
            rintro e w5 ⟨v5, rfl, hv5, hb5⟩
            have HT5 := Lib.hid (And.intro (HT.out w5 v5 hb5 hv5) hb5)
            clear hv5 hb5
            go_wp2_with fail
            refine HT5.out.1.mono ?_
            rintro e w6 ⟨v6, rfl, hv6, hb6⟩
            obtain ⟨a6, c6, rfl, -⟩ := hv6.open
            have H6 := Lib.hid (And.intro hv6 (HII.out.later (later_trans HT5.out.2 hb6)))
            clear hv6 hb6
            go_wp2_with fail
            go_roundw
            case rel => first | exact ⟨j + 1, by omega, by go_num, H6.out.1, HL.out, H6.out.2⟩ | ((repeat apply Exists.intro); refine ⟨?_, rfl⟩; exact ⟨j + 1, by omega, by go_num, H6.out.1, HL.out, H6.out.2⟩)
            case measure => simp [intOf]; omega
          · have hm1 : (max z 1).toNat = 1 := by omega
            have HE : Hid (P * (max z 1).toNat ^ (j + 1) = P * (max z 1).toNat ^ j) := Lib.hid (by rw [hm1, Nat.one_pow, Nat.one_pow])
            obtain ⟨ln, hlnn⟩ : ∃ ln, (digs (P * (max z 1).toNat ^ j)).length = ln := ⟨_, rfl⟩
            have ho2 := ho
            rw [hlnn] at ho2 ⊢
            have H6 := Lib.hid (And.intro ho2 (And.intro hI (show (digs (P * (max z 1).toNat ^ (j + 1))).length ≤ 3 * (16 * k + (j + 1)) + 1 by rw [HE.out]; omega)))
            clear ho ho2 hI hln hlnn hm1
            go_wp2_with fail
            go_roundw
            case rel => first | exact ⟨j + 1, by omega, by go_num, by rw [HE.out]; exact H6.out.1, H6.out.2.2, H6.out.2.1⟩ | ((repeat apply Exists.intro); refine ⟨?_, rfl⟩; exact ⟨j + 1, by omega, by go_num, by rw [HE.out]; exact H6.out.1, H6.out.2.2, H6.out.2.1⟩)
            case measure => simp [intOf]; omega
        · obtain rfl : j = yn := by omega
          rw [← HK.out.2.1] at ho hln ⊢
          obtain ⟨ln, hlnn⟩ : ∃ ln, (digs (prodR zs ws (k + 1))).length = ln := ⟨_, rfl⟩
          have ho2 := ho
          rw [hlnn] at ho2 ⊢
          have H6 := Lib.hid (And.intro ho2 (And.intro hI (show (digs (prodR zs ws (k + 1))).length ≤ 3 * (16 * (k + 1)) + 1 by omega)))
          have HLt := Lib.hid HK.out.2.2.2.2
          clear ho ho2 hI hln hlnn
          go_wp2_with fail
          go_roundw
          case rel => first | exact ⟨k + 1, by omega, by go_num, H6.out.1, H6.out.2.2, H6.out.2.1⟩ | ((repeat apply Exists.intro); refine ⟨?_, rfl⟩; exact ⟨k + 1, by omega, by go_num, H6.out.1, H6.out.2.2, H6.out.2.1⟩)
          case measure => simp [intOf]; omega
    · obtain rfl : k = zs.length := by omega
      have hN := Number_any _ _ wr ho (digs_dg _)
      rw [dv_digs] at hN
      obtain ⟨nh, nl, nq, hnv⟩ := numV_open (prodR zs ws zs.length)
      rw [hnv] at hN
      have HNv := Lib.hid hnv
      have HN := Lib.hid hN
      have HI := Lib.hid hI
      obtain ⟨ln, hlnn⟩ : ∃ ln, (digs (prodR zs ws zs.length)).length = ln := ⟨_, rfl⟩
      rw [hlnn] at HN ⊢
      clear ho hI hN hnv hln hlnn c0 c1' c2 c3 c4 r0 r1 f0 f1 lr
      obtain ⟨c0, c1', c2, c3, c4⟩ := HI.out.cells
      go_wp2_with fail
      refine HN.out.mono ?_
      rintro e w8 ⟨rfl, hb8⟩
      have H8 := Lib.hid (HI.out.later hb8)
      obtain ⟨r0, r1, f0, f1, lr⟩ := H8.out.res
      clear hb8
      go_wp2_with fail
      refine bodyPost_ret (v := .tuple #[.agg #[.int .u64 nh, .int .u64 nl], .bool nq]) (by simp [results, Tryd.results66, go_sem, r0, r1]) rfl ?_
      exact ⟨by rw [HNv.out], H8.out.done _ _⟩
end
/-! ## XRb2 -/
section
open Go.RowKit Go.Shelf
set_option linter.unusedVariables false
set_option linter.unusedSimpArgs false

/-- What stands while the root is sought. -/
structure RbW (w : World) (m : Int) (ev sv wv : Value) (o : Int) (X6 X8 X9 p lo hi : Nat) (W : World) : Prop where
  bnd : BndW w m ev sv wv o W
  b6 : WB W X6 p
  b8 : WB W X8 lo
  b9 : WB W X9 hi
  far : w.heap.size + 1 + 1 < X6 ∧ X6 < X8 ∧ X6 < X9 ∧ X8 ≠ X9
theorem RbW.later {w W W' : World} {m o : Int} {ev sv wv : Value} {X6 X8 X9 p lo hi : Nat} (h : RbW w m ev sv wv o X6 X8 X9 p lo hi W) (hb : Below W.heap.size W W') : RbW w m ev sv wv o X6 X8 X9 p lo hi W' :=
  ⟨h.bnd.later hb, kept hb h.b6, kept hb h.b8, kept hb h.b9, h.far⟩
theorem BndW.set {w W : World} {m o : Int} {ev sv wv : Value} (h : BndW w m ev sv wv o W) {X i : Nat} (hX : w.heap.size + 1 + 1 < X) (u : Value) : BndW w m ev sv wv o (W.setCell ⟨X, i, none⟩ u) :=
  ⟨below_set h.bel (by omega), box_other h.bs (by omega) _, box_other h.bc (by omega) _, box_other h.br (by omega) _⟩
theorem WB.other {W : World} {x a X i : Nat} (h : WB W x a) (hX : x ≠ X) (u : Value) : WB (W.setCell ⟨X, i, none⟩ u) x a := box_other h hX u
theorem RbW.high {w W : World} {m o : Int} {ev sv wv' : Value} {X6 X8 X9 p lo hi n : Nat} {h l : Nat} (H : RbW w m ev sv wv' o X6 X8 X9 p lo hi W) (e : wv n = .agg #[.int .u64 (h : Int), .int .u64 (l : Int)]) :
    RbW w m ev sv wv' o X6 X8 X9 p lo n ((W.setCell ⟨X9, 0, none⟩ (.int .u64 (h : Int))).setCell ⟨X9, 1, none⟩ (.int .u64 (l : Int))) := by
  have hf := H.far
  refine ⟨(H.bnd.set (by omega) _).set (by omega) _, (H.b6.other (by omega) _).other (by omega) _, (H.b8.other (by omega) _).other (by omega) _, ?_, hf⟩
  refine WB.mk e ?_
  have := box_set (i := 1) (box_set (i := 0) H.b9 (.int .u64 (h : Int))) (.int .u64 (l : Int))
  simpa using this
theorem RbW.low {w W : World} {m o : Int} {ev sv wv' : Value} {X6 X8 X9 p lo hi n : Nat} {h l : Nat} (H : RbW w m ev sv wv' o X6 X8 X9 p lo hi W) (e : wv n = .agg #[.int .u64 (h : Int), .int .u64 (l : Int)]) :
    RbW w m ev sv wv' o X6 X8 X9 p n hi ((W.setCell ⟨X8, 0, none⟩ (.int .u64 (h : Int))).setCell ⟨X8, 1, none⟩ (.int .u64 (l : Int))) := by
  have hf := H.far
  refine ⟨(H.bnd.set (by omega) _).set (by omega) _, (H.b6.other (by omega) _).other (by omega) _, ?_, (H.b9.other (by omega) _).other (by omega) _, hf⟩
  refine WB.mk e ?_
  have := box_set (i := 1) (box_set (i := 0) H.b8 (.int .u64 (h : Int))) (.int .u64 (l : Int))
  simpa using this

/-- What the document's bound is. -/
noncomputable def refBV (S : Shp) (c : Cov) : Value := if needN S c < 340282366920938463463374607431768211456 then .tuple #[wv (rootN (needN S c) c.of.toNat), .bool true] else .tuple #[.agg #[.int .u64 0, .int .u64 0], .bool false]

set_option maxRecDepth 100000 in
set_option maxHeartbeats 4000000 in
theorem Bound22_any (S : Shp) (c : Cov) (ev sv wv' : Value) (w : World) (h : ShR w ev sv S) (hw : SlI .i64 w wv' c.ws) (hok : shpB S = true) (hcv : coversB S c = true) :
    Calls Tryd.prog 30 #[shpV S.many ev sv, covV wv' c.of] w fun e w' => e = .returned (refBV S c) ∧ Below w.heap.size w w' := by
  have hI0 : BndW w S.many ev sv wv' c.of _ := BndW.start
  have hP := product22_any S c ev sv wv' _ (h.later hI0.bel) (SlI.later hw hI0.bel) hok hcv
  obtain ⟨p1, p2, p3, p4⟩ := coversB_of hcv
  obtain ⟨on, hon⟩ : ∃ on : Nat, c.of = on := ⟨c.of.toNat, by omega⟩
  have hnp := needN_pos S c
  have hrv : refBV S c = if needN S c < 340282366920938463463374607431768211456 then .tuple #[wv (rootN (needN S c) on), .bool true] else .tuple #[.agg #[.int .u64 0, .int .u64 0], .bool false] := by
    unfold refBV; rw [show c.of.toNat = on from by omega]
  rw [hrv]
  obtain ⟨N, hN⟩ : ∃ N, needN S c = N := ⟨_, rfl⟩
  rw [hN] at hP hnp ⊢
  have ho1 : 1 ≤ on := by omega
  have ho16 : on ≤ 16 := by omega
  obtain ⟨m, ls, zs⟩ := S
  obtain ⟨ws, o⟩ := c
  simp only at hon hP hI0
  subst hon
  obtain ⟨ae, ce, rfl, -⟩ := h.edges.open
  obtain ⟨az, cz, rfl, -⟩ := h.sizes.open
  obtain ⟨aw, cw, rfl, -⟩ := hw.open
  have HI0 := Lib.hid hI0
  simp only at HI0 hP ⊢
  clear h hw hok hcv p1 p2 p3 p4 hrv hN hI0
  unfold numV at hP
  by_cases hlt : N < 340282366920938463463374607431768211456
  · rw [if_pos hlt] at hP ⊢
    obtain ⟨ph, pl, hpw, hp1, hp2, hp3⟩ := wv_open N hlt
    rw [hpw] at hP
    have HP := Lib.hid hP
    have HPw := Lib.hid (And.intro hpw (And.intro hp1 (And.intro hp2 hp3)))
    clear hP hpw hp1 hp2 hp3
    go_enter Tryd.func30, Tryd.ntmps30
    go_wp2_with fail
    refine HP.out.mono ?_
    rintro e w1 ⟨rfl, hb1⟩
    have hI1 := HI0.out.later (later_trans hb1 (later_alloc w1 (.cells #[.int .u64 (ph : Int), .int .u64 (pl : Int)] 35)))
    have hx := box_new w1 #[.int .u64 (ph : Int), .int .u64 (pl : Int)] 35
    have hs1 := (HI0.out.later hb1).res.2.2.2.2
    obtain ⟨X6, hX6⟩ : ∃ X6, w1.heap.size = X6 := ⟨_, rfl⟩
    go_upto_region 4 with fail
    obtain ⟨W2, hW2⟩ : ∃ W, w1.alloc (.cells #[.int .u64 (ph : Int), .int .u64 (pl : Int)] 35) = W := ⟨_, rfl⟩
    rw [hW2] at hI1 hx
    try rw [hW2]
    rw [hX6] at hx hs1
    try rw [hX6]
    obtain ⟨x0, x1, -, -, lx⟩ := two_of hx
    have H2 := Lib.hid (And.intro hI1 (And.intro hx hs1))
    clear hb1 hI1 hx hW2 hX6
    go_cut [8, 9] (fun s8 s9 wx => ∃ X8 X9 : Nat, s8 = .pointer (some ⟨X8, 0, none⟩) ∧ s9 = .pointer (some ⟨X9, 0, none⟩) ∧ RbW w m (.slice ae ls.length ce) (.slice az zs.length cz) (.slice aw ws.length cw) on X6 X8 X9 N 0 N wx)
    case first =>
      go_region
      all_goals (go_wp2_with fail)
      all_goals go_meet
      · have hl : Below W2.heap.size W2 ((W2.alloc (.cells #[.int .u64 0, .int .u64 0] 35)).alloc (.cells #[.int .u64 (ph : Int), .int .u64 (pl : Int)] 35)).drew := later_trans (later_alloc _ _) (later_trans (later_alloc _ _) (later_drew _))
        refine ⟨W2.heap.size, W2.heap.size + 1, rfl, rfl, H2.out.1.later hl, WB.mk HPw.out.1 (kept hl H2.out.2.1), WB.mk (h := 0) (l := 0) rfl (kept (later_drew _) (box_alloc (box_new W2 _ _) _)), WB.mk HPw.out.1 (kept (later_drew _) ?_), by have := H2.out.2.2; omega⟩
        have h := box_new (W2.alloc (.cells #[.int .u64 0, .int .u64 0] 35)) #[.int .u64 (ph : Int), .int .u64 (pl : Int)] 35
        rw [World.size_alloc] at h; exact h
      · have hl : Below W2.heap.size W2 ((W2.alloc (.cells #[.int .u64 (ph : Int), .int .u64 (pl : Int)] 35)).alloc (.cells #[.int .u64 0, .int .u64 0] 35)).drew := later_trans (later_alloc _ _) (later_trans (later_alloc _ _) (later_drew _))
        refine ⟨W2.heap.size + 1, W2.heap.size, rfl, rfl, H2.out.1.later hl, WB.mk HPw.out.1 (kept hl H2.out.2.1), WB.mk (h := 0) (l := 0) rfl (kept (later_drew _) ?_), WB.mk HPw.out.1 (kept (later_drew _) (box_alloc (box_new W2 _ _) _)), by have := H2.out.2.2; omega⟩
        have h := box_new (W2.alloc (.cells #[.int .u64 (ph : Int), .int .u64 (pl : Int)] 35)) #[.int .u64 0, .int .u64 0] 35
        rw [World.size_alloc] at h; exact h
    case rest =>
      obtain ⟨X8, X9, rfl, rfl, hR⟩ := hcut
      have HR := Lib.hid hR
      have hN1 : N ≤ N ^ on := by
        have := Nat.pow_le_pow_right (show 0 < N by omega) ho1
        rw [Nat.pow_one] at this; exact this
      have h0N : 0 ^ on < N := by rw [Nat.zero_pow (by omega)]; omega
      have HN := Lib.hid (And.intro hN1 h0N)
      clear hR x0 x1 lx hN1 h0N
      go_wp2_with fail
      go_loopg [] N (fun g wr => ∃ lo hi : Nat, g = hi - lo ∧ lo < hi ∧ lo ^ on < N ∧ N ≤ hi ^ on ∧ hi < 340282366920938463463374607431768211456 ∧ RbW w m (.slice ae ls.length ce) (.slice az zs.length cz) (.slice aw ws.length cw) on X6 X8 X9 N lo hi wr)
      case atStart => exact ⟨0, N, by omega, by omega, HN.out.2, HN.out.1, hlt, HR.out⟩
      case round =>
        obtain ⟨lo, hi, hg, hlh, hlo, hhi, hhb, hR⟩ := hrel
        obtain ⟨lh, ll, hlw, hl1, hl2, hl3⟩ := wv_open lo (by omega)
        obtain ⟨gh, gl, hgw, hg1, hg2, hg3⟩ := wv_open hi hhb
        have hmid : (lo + hi) / 2 < 340282366920938463463374607431768211456 := by omega
        obtain ⟨mid, hmd⟩ : ∃ mid, (lo + hi) / 2 = mid := ⟨_, rfl⟩
        rw [hmd] at hmid
        obtain ⟨mh, ml, hmw, hm1, hm2, hm3⟩ := wv_open mid hmid
        have hH := half_any lo hi lh ll gh gl wr hl3.symm hg3.symm hl1 hl2 hg1 hg2
        rw [hmd, hmw] at hH
        have hEn := fun W => enough_any mid N on mh ml ph pl W hm3.symm HPw.out.2.2.2.symm hm1 hm2 HPw.out.2.1 HPw.out.2.2.1 ho16
        have b6 := hR.b6.two HPw.out.1
        have b8 := hR.b8.two hlw
        have b9 := hR.b9.two hgw
        obtain ⟨l0, l1, lf0, lf1, lL⟩ := two_of b8
        obtain ⟨u0, u1, uf0, uf1, lU⟩ := two_of b9
        have HH := Lib.hid (And.intro hH hEn)
        have HS := Lib.hid (And.intro hR (And.intro b6 (And.intro b8 b9)))
        have HF := Lib.hid (And.intro hlh (And.intro hlo (And.intro hhi (And.intro hhb (And.intro hmd (And.intro hmw hgw))))))
        clear hR b6 b8 b9 hH hEn hlo hhi hmid
        go_wp2_with fail
        refine HH.out.1.mono ?_
        rintro e w5 ⟨rfl, hb5⟩
        have hb5' := later_trans hb5 (later_alloc w5 (.cells #[.int .u64 (mh : Int), .int .u64 (ml : Int)] 35))
        have H5 := Lib.hid (And.intro (HS.out.1.later hb5') (And.intro (box_new w5 #[.int .u64 (mh : Int), .int .u64 (ml : Int)] 35) hb5'))
        clear l0 l1 lf0 lf1 lL u0 u1 uf0 uf1 lU
        obtain ⟨l0, l1, lf0, lf1, lL⟩ := two_of (kept hb5' HS.out.2.2.1)
        obtain ⟨u0, u1, uf0, uf1, lU⟩ := two_of (kept hb5' HS.out.2.2.2)
        obtain ⟨x0, x1, -, -, lX⟩ := two_of H5.out.2.1
        have hgd := guard_wide
        by_cases hml : mid = lo
        · have hh1 : (mh : Int) = lh := by omega
          have hh2 : (ml : Int) = ll := by omega
          have heq := fun W => eql_wide (mh : Int) (ml : Int) (lh : Int) (ll : Int) W
          rw [decide_eq_true hh1, decide_eq_true hh2] at heq
          have HRoot : Hid (rootN N on = hi) := Lib.hid (rootN_eq ho1 HF.out.2.2.1 (fun q hq => Nat.lt_of_le_of_lt (Nat.pow_le_pow_left (show q ≤ lo by omega) on) HF.out.2.1))
          obtain ⟨r0, r1, f0, f1, lr⟩ := H5.out.1.bnd.res
          clear hb5 hb5' hh1 hh2 hml hmd hm3 hl3 hg3
          go_wp2_with fail
          refine bodyPost_ret (v := .tuple #[.agg #[.int .u64 (gh : Int), .int .u64 (gl : Int)], .bool true]) (by simp [results, Tryd.results30, go_sem, r0, r1]) rfl ?_
          exact ⟨by rw [HRoot.out, HF.out.2.2.2.2.2.2], H5.out.1.bnd.done _ _⟩
        · have heq := fun W => eql_wide (mh : Int) (ml : Int) (lh : Int) (ll : Int) W
          have hff : (decide ((mh : Int) = lh) && decide ((ml : Int) = ll)) = false := by
            rw [Bool.and_eq_false_iff]
            by_cases e1 : (mh : Int) = lh
            · exact .inr (decide_eq_false (by omega))
            · exact .inl (decide_eq_false e1)
          simp only [hff] at heq
          obtain ⟨y0, y1, -, -, ly⟩ := two_of (kept hb5' HS.out.2.1)
          obtain ⟨-, -, -, -, d1⟩ := H5.out.1.bnd.cells
          have hlm : lo < mid := by omega
          have hmh : mid < hi := by omega
          by_cases hen : N ≤ mid ^ on
          · have hE := HH.out.2
            simp only [decide_eq_true hen] at hE
            have HE := Lib.hid (And.intro hE hen)
            clear hb5 hb5' hff hml hmd hm3 hl3 hg3 hE hen
            go_wp2_with fail
            refine (HE.out.1 _).mono ?_
            rintro e w6 ⟨rfl, hb6⟩
            have hR6 := H5.out.1.later hb6
            obtain ⟨x0, x1, -, -, lX⟩ := two_of (kept hb6 H5.out.2.1)
            obtain ⟨u0, u1, uf0, uf1, lU⟩ := two_of (hR6.b9.two HF.out.2.2.2.2.2.2)
            have H6 := Lib.hid (hR6.high HF.out.2.2.2.2.2.1)
            clear hb6 hR6 l0 l1 lf0 lf1 lL y0 y1 d1
            go_wp2_with fail
            go_roundg (mid - lo)
            case rel => exact ⟨lo, mid, rfl, hlm, HF.out.2.1, HE.out.2, by omega, H6.out⟩
            case measure => omega
          · have hE := HH.out.2
            simp only [decide_eq_false hen] at hE
            have HE := Lib.hid (And.intro hE hen)
            clear hb5 hb5' hff hml hmd hm3 hl3 hg3 hE hen
            go_wp2_with fail
            refine (HE.out.1 _).mono ?_
            rintro e w6 ⟨rfl, hb6⟩
            have hR6 := H5.out.1.later hb6
            obtain ⟨x0, x1, -, -, lX⟩ := two_of (kept hb6 H5.out.2.1)
            clear l0 l1 lf0 lf1 lL
            obtain ⟨l0, l1, lf0, lf1, lL⟩ := two_of (hR6.b8.two hlw)
            have H6 := Lib.hid (hR6.low HF.out.2.2.2.2.2.1)
            clear hb6 hR6 u0 u1 uf0 uf1 lU y0 y1 d1
            go_wp2_with fail
            go_roundg (hi - mid)
            case rel => exact ⟨mid, hi, rfl, hmh, Nat.lt_of_not_le HE.out.2, HF.out.2.2.1, HF.out.2.2.2.1, H6.out⟩
            case measure => omega
  · rw [if_neg hlt] at hP ⊢
    have HP := Lib.hid hP
    clear hP hlt
    go_enter Tryd.func30, Tryd.ntmps30
    go_wp2_with fail
    refine HP.out.mono ?_
    rintro e w1 ⟨rfl, hb1⟩
    have H1 := Lib.hid (HI0.out.later (later_trans hb1 (later_alloc w1 (.cells #[.int .u64 0, .int .u64 0] 35))))
    obtain ⟨r0, r1, f0, f1, lr⟩ := H1.out.res
    clear hb1
    go_wp2_with fail
    refine bodyPost_ret (v := .tuple #[.agg #[.int .u64 0, .int .u64 0], .bool false]) (by simp [results, Tryd.results30, go_sem, r0, r1]) rfl ?_
    exact ⟨rfl, H1.out.done _ _⟩
end
/-! ## XRb3 -/
section
open Go.RowKit Go.Shelf
set_option linter.unusedVariables false
set_option linter.unusedSimpArgs false

/-- The factors of a limit but the bound. -/
noncomputable def fourL (S : Shp) : List Nat := [16, (max S.many 1).toNat, (max (S.edges.length : Int) 1).toNat, 1 + lg (maxTo (1 :: S.sizes) (S.sizes.length + 1))]
noncomputable def refLN (S : Shp) (c : Cov) : Nat := rootN (needN S c) c.of.toNat * prodTo (fourL S) 4
noncomputable def refLV (S : Shp) (c : Cov) : Value := if needN S c < 340282366920938463463374607431768211456 then numV (refLN S c) else .tuple #[.agg #[.int .u64 0, .int .u64 0], .bool false]
/-- What stands while the limit is reckoned. -/
structure RlW (w : World) (m : Int) (ev sv wv : Value) (o : Int) (A : Nat) (l : List Nat) (W : World) : Prop where
  bnd : BndW w m ev sv wv o W
  row : ∀ k, k < l.length → W.cell? ⟨A, k, none⟩ = some (.int .u64 ((l.getD k 0 : Nat) : Int))
theorem RlW.later {w W W' : World} {m o : Int} {ev sv wv : Value} {A : Nat} {l : List Nat} (h : RlW w m ev sv wv o A l W) (hb : Below W.heap.size W W') : RlW w m ev sv wv o A l W' :=
  ⟨h.bnd.later hb, fun k hk => cell_next hb (h.row k hk)⟩

set_option maxRecDepth 100000 in
set_option maxHeartbeats 4000000 in
theorem Limit22_any (S : Shp) (c : Cov) (ev sv wv' : Value) (w : World) (h : ShR w ev sv S) (hw : SlI .i64 w wv' c.ws) (hok : shpB S = true) (hcv : coversB S c = true) :
    Calls Tryd.prog 31 #[shpV S.many ev sv, covV wv' c.of] w fun e w' => e = .returned (refLV S c) ∧ Below w.heap.size w w' := by
  have hI0 : BndW w S.many ev sv wv' c.of _ := BndW.start
  have hB := Bound22_any S c ev sv wv' _ (h.later hI0.bel) (SlI.later hw hI0.bel) hok hcv
  obtain ⟨q1, q2, q3, q4, q5⟩ := shpB_yes hok
  obtain ⟨p1, p2, p3, p4⟩ := coversB_of hcv
  have hzs : ∀ x ∈ S.sizes, 0 ≤ x ∧ x ≤ 1048576 := sizes_le hok
  have hrs := rootN_spec (n := needN S c) (o := c.of.toNat) (by omega) (needN_pos S c)
  unfold refLV refLN
  unfold refBV at hB
  obtain ⟨R, hR⟩ : ∃ R, rootN (needN S c) c.of.toNat = R := ⟨_, rfl⟩
  rw [hR] at hB hrs ⊢
  obtain ⟨N, hN⟩ : ∃ N, needN S c = N := ⟨_, rfl⟩
  rw [hN] at hB hrs ⊢
  have hmx : ∀ k, k ≤ S.sizes.length → 1 ≤ maxTo (1 :: S.sizes) (k + 1) ∧ maxTo (1 :: S.sizes) (k + 1) ≤ 1048576 := by
    intro k
    induction k with
    | zero => intro _; rw [maxTo_one (by simp)]; show (1 : Int) ≤ 1 ∧ (1 : Int) ≤ 1048576; decide
    | succ k ih =>
      intro hk
      rw [maxTo_succ (by simp; omega)]
      have h1 := ih (by omega)
      have h2 := hzs S.sizes[k] (List.getElem_mem (by omega))
      have h3 : (1 :: S.sizes).getD (k + 1) 0 = S.sizes[k] := by simp [List.getD, List.getElem?_eq_getElem (show k < S.sizes.length by omega)]
      rw [h3]; omega
  have hms : ∀ k, k < S.sizes.length → maxTo (1 :: S.sizes) (k + 2) = max (maxTo (1 :: S.sizes) (k + 1)) (S.sizes.getD k 0) := by
    intro k hk
    rw [maxTo_succ (by simp; omega)]
    rw [show (1 :: S.sizes).getD (k + 1) 0 = S.sizes.getD k 0 from by simp [List.getD]]
  obtain ⟨m, ls, zs⟩ := S
  obtain ⟨ws, o⟩ := c
  simp only at hB hI0 hmx hms q1 q2 q3 q4
  have H := Lib.hid (And.intro h.sizes (And.intro hmx hms))
  obtain ⟨ae, ce, rfl, -⟩ := h.edges.open
  obtain ⟨az, cz, rfl, -⟩ := h.sizes.open
  obtain ⟨aw, cw, rfl, -⟩ := hw.open
  have HI0 := Lib.hid hI0
  simp only at HI0 hB H ⊢
  have hz40 : zs.length ≤ 40 := by omega
  clear h hw hok hcv p1 p2 p3 p4 q4 q5 hzs hR hN hmx hms hI0
  by_cases hlt : N < 340282366920938463463374607431768211456
  · rw [if_pos hlt] at hB ⊢
    have hRb : R < 340282366920938463463374607431768211456 := by omega
    obtain ⟨rh, rl, hrw, hr1, hr2, hr3⟩ := wv_open R hRb
    rw [hrw] at hB
    have hRl : (digs R).length ≤ 8 := (digs_len 8 R).2 (by rw [show (65536 : Nat) ^ 8 = 340282366920938463463374607431768211456 from rfl]; exact hRb)
    have HB := Lib.hid hB
    have hD := fun W => Digits_any rl rh W hr2 hr1
    rw [← hr3] at hD
    have HD := Lib.hid (And.intro hD hRl)
    obtain ⟨mx, hmxe⟩ : ∃ mx, maxTo (1 :: zs) (zs.length + 1) = mx := ⟨_, rfl⟩
    have hmxb := H.out.2.1 zs.length (Nat.le_refl _)
    rw [hmxe] at hmxb
    have hlg := lg_le mx (by omega)
    obtain ⟨lm, hlm⟩ : ∃ lm : Nat, lg mx = lm := ⟨_, rfl⟩
    have hLog := fun W => reflog_any mx (by omega) (by omega) W
    rw [hlm] at hLog hlg
    have hfour : fourL ⟨m, ls, zs⟩ = [16, (max m 1).toNat, (max (ls.length : Int) 1).toNat, 1 + lm] := by unfold fourL; simp only; rw [hmxe, hlm]
    rw [hfour]
    have ho1 := fun W => one01_any m W q1 (by omega)
    have ho2 := fun W => one01_any (ls.length : Int) W (by omega) (by omega)
    obtain ⟨b1, hb1⟩ : ∃ b1 : Nat, (max m 1).toNat = b1 := ⟨_, rfl⟩
    obtain ⟨b2, hb2⟩ : ∃ b1 : Nat, (max (ls.length : Int) 1).toNat = b1 := ⟨_, rfl⟩
    rw [show max m 1 = (b1 : Int) from by omega] at ho1
    rw [show max (ls.length : Int) 1 = (b2 : Int) from by omega] at ho2
    rw [hb1, hb2]
    have hb1b : b1 ≤ 32 := by omega
    have hb2b : b2 ≤ 40 := by omega
    have HG := Lib.hid (And.intro ho1 (And.intro ho2 hLog))
    have HM := Lib.hid hmxe
    have hwlm : IntKind.i64.wrap (1 + (lm : Int)) = 1 + lm := wrap_i64 (by omega) (by omega)
    have hwlu : IntKind.u64.wrap (1 + (lm : Int)) = 1 + lm := wrap_u64 (by omega) (by omega)
    obtain ⟨l4, hl4⟩ : ∃ l4, [16, b1, b2, 1 + lm] = l4 := ⟨_, rfl⟩
    rw [hl4]
    have HL4 := Lib.hid hl4
    clear hB hD hrw hr1 hr2 hr3 hRl hmxe hmxb hlm hLog hfour ho1 ho2 hb1 hb2 hrs hlt hl4
    go_enter Tryd.func31, Tryd.ntmps31
    go_wp2_with fail
    refine HB.out.mono ?_
    rintro e w1 ⟨rfl, hb1⟩
    have hb1' := later_trans hb1 (later_alloc w1 (.cells #[.int .u64 (rh : Int), .int .u64 (rl : Int)] 35))
    have hI1 := HI0.out.later hb1'
    obtain ⟨c0, c1, c2, c3, c4⟩ := hI1.cells
    have hx := box_new w1 #[.int .u64 (rh : Int), .int .u64 (rl : Int)] 35
    obtain ⟨x0, x1, -, -, lx⟩ := two_of hx
    have H1 := Lib.hid (And.intro hI1 hx)
    clear hb1 hb1' hI1 hx
    go_wp2_with fail
    go_loop [8, 26] (fun s i => ∃ k : Nat, k ≤ zs.length ∧ i = .int .i64 k ∧ s = .int .i64 (maxTo (1 :: zs) (k + 1))) (fun _ i => zs.length - (intOf i).toNat)
    case atStart => exact ⟨0, Nat.zero_le _, rfl, by rw [maxTo_one (by simp)]; rfl⟩
    case round =>
      obtain ⟨k, hk, rfl, rfl⟩ := hrel
      by_cases hlt : k < zs.length
      · obtain ⟨_, _, e1, _, _, _, f4⟩ := (SlI.later H.out.1 H1.out.1.bel).open
        obtain ⟨bz, oz, e2, _, fc⟩ := f4 (by omega)
        injection e1 with e1a e1b e1c
        subst e1a e1c
        subst e2
        have cz1 := fc k hlt
        rw [← getD_at hlt] at cz1
        have hst := H.out.2.2 k hlt
        obtain ⟨z, hz⟩ : ∃ z, zs.getD k 0 = z := ⟨_, rfl⟩
        obtain ⟨t, ht⟩ : ∃ t, maxTo (1 :: zs) (k + 1) = t := ⟨_, rfl⟩
        rw [hz] at cz1 hst
        rw [ht] at hst ⊢
        by_cases hg : t < z
        · have HS : Hid (maxTo (1 :: zs) (k + 2) = z) := Lib.hid (by rw [hst]; omega)
          clear fc f4 e1b hst hz ht
          go_wp2_with fail
          go_round
          case rel => first | exact ⟨k + 1, by omega, by go_num, by rw [HS.out]⟩ | ((repeat apply Exists.intro); refine ⟨?_, rfl⟩; exact ⟨k + 1, by omega, by go_num, by rw [HS.out]⟩)
          case measure => simp [intOf]; omega
        · have HS : Hid (maxTo (1 :: zs) (k + 2) = t) := Lib.hid (by rw [hst]; omega)
          clear fc f4 e1b hst hz ht
          go_wp2_with fail
          go_round
          case rel => first | exact ⟨k + 1, by omega, by go_num, by rw [HS.out]⟩ | ((repeat apply Exists.intro); refine ⟨?_, rfl⟩; exact ⟨k + 1, by omega, by go_num, by rw [HS.out]⟩)
          case measure => simp [intOf]; omega
      · obtain rfl : k = zs.length := by omega
        rw [HM.out]
        go_wp2_with fail
        refine (HD.out.1 _).mono ?_
        rintro e w2 ⟨v2, rfl, hv2, hb2⟩
        obtain ⟨a2, c2', rfl, -⟩ := hv2.open
        obtain ⟨ln, hln⟩ : ∃ ln, (digs R).length = ln := ⟨_, rfl⟩
        have hv3 := hv2
        rw [hln] at hv3 ⊢
        have hI2 := H1.out.1.later hb2
        clear c0 c1 c2 c3 c4 x0 x1 lx
        obtain ⟨c0, c1, c2, c3, c4⟩ := hI2.cells
        have H2 := Lib.hid (And.intro hI2 hv3)
        have HLn := Lib.hid hln
        have HKeep : Hid (∀ W, Below w2.heap.size w2 W → W.cell? ⟨w.heap.size, 0, none⟩ = some (.int .i64 m) ∧ W.cell? ⟨w.heap.size, 1, none⟩ = some (.slice ae ls.length ce)) := Lib.hid (fun W hb => ⟨cell_next hb c0, cell_next hb c1⟩)
        clear hb2 hv2 hv3 hI2 hln
        go_upto_region 12 with fail
        go_cut [50, 51, 52] (fun s50 s51 s52 wx => ∃ A : Nat, s50 = .slice (some ⟨A, 0, none⟩) 4 4 ∧ s51 = .int .i64 4 ∧ s52 = .int .i64 0 ∧ RlW w m (.slice ae ls.length ce) (.slice az zs.length cz) (.slice aw ws.length cw) o A l4 wx ∧ Below w2.heap.size w2 wx)
        case first =>
          have g1 := HG.out.1
          have g2 := HG.out.2.1
          have g3 := HG.out.2.2
          go_region_held3 (fun W => W.cell? ⟨w.heap.size, 0, none⟩ = some (.int .i64 m) ∧ W.cell? ⟨w.heap.size, 1, none⟩ = some (.slice ae ls.length ce))
            (first | exact HKeep.out _ (later_refl _) | exact HKeep.out _ (later_drew _) | exact HKeep.out _ (later_trans (later_drew _) (later_alloc _ _)) | assumption)
            (first
              | ((with_reducible refine (g1 _).mono ?_); rintro e wA ⟨rfl, rfl⟩)
              | ((with_reducible refine (g2 _).mono ?_); rintro e wB ⟨rfl, rfl⟩)
              | ((with_reducible refine (g3 _).mono ?_); rintro e wL ⟨rfl, rfl⟩))
          all_goals (go_wp2_with fail)
          all_goals go_meet
          have hl := later_trans (later_alloc w2 (.cells #[.int .u64 16, .int .u64 (b1 : Int), .int .u64 (b2 : Int), .int .u64 (1 + (lm : Int))] 33)) (later_drew _)
          have hn := kept (later_drew _) (box_new w2 #[.int .u64 16, .int .u64 (b1 : Int), .int .u64 (b2 : Int), .int .u64 (1 + (lm : Int))] 33)
          refine ⟨w2.heap.size, rfl, rfl, rfl, ⟨H2.out.1.later hl, fun k hk => ?_⟩, hl⟩
          rw [← HL4.out] at hk ⊢
          have hc := box_cell (i := k) hn
          match k, hk with
          | 0, _ => exact hc
          | 1, _ => exact hc
          | 2, _ => exact hc
          | 3, _ => exact hc
        case rest =>
          obtain ⟨A, rfl, rfl, rfl, hR, hbx⟩ := hcut
          have h0 : SlI .u64 wc (.slice a2 ln c2') (digs R) := SlI.later H2.out.2 hbx
          have H3 := Lib.hid (And.intro hR h0)
          have hll : l4.length = 4 := by rw [← HL4.out]; rfl
          have hlb : ∀ k, k < 4 → l4.getD k 0 ≤ 63 := fun k hk => by
            rw [← HL4.out]
            match k, hk with
            | 0, _ => show 16 ≤ 63; omega
            | 1, _ => show b1 ≤ 63; omega
            | 2, _ => show b2 ≤ 63; omega
            | 3, _ => show 1 + lm ≤ 63; omega
          have HLl := Lib.hid (And.intro hll hlb)
          clear hR hbx h0 hll hlb c0 c1 c2 c3 c4
          go_wp2_with fail
          go_loopw [11, 52] (fun s i wr => ∃ k : Nat, k ≤ 4 ∧ i = .int .i64 k ∧ SlI .u64 wr s (digs (R * prodTo l4 k)) ∧ (digs (R * prodTo l4 k)).length ≤ 8 + 3 * k ∧ RlW w m (.slice ae ls.length ce) (.slice az zs.length cz) (.slice aw ws.length cw) o A l4 wr) (fun _ i _ => 4 - (intOf i).toNat)
          case atStart => exact ⟨0, by omega, rfl, by rw [prodTo_zero, Nat.mul_one]; exact H3.out.2, by rw [prodTo_zero, Nat.mul_one]; exact HD.out.2, H3.out.1⟩
          case round =>
            obtain ⟨k, hk, rfl, ho, hln, hR⟩ := hrel
            obtain ⟨ao, co, rfl, -⟩ := ho.open
            by_cases hlt : k < 4
            · have hkl : k < l4.length := by rw [HLl.out.1]; exact hlt
              have ck := hR.row k hkl
              have hnb := HLl.out.2 k hlt
              have hps : prodTo l4 (k + 1) = prodTo l4 k * l4.getD k 0 := by rw [prodTo_succ hkl]; simp [List.getD, hkl]
              obtain ⟨q, hq⟩ : ∃ q, l4.getD k 0 = q := ⟨_, rfl⟩
              rw [hq] at ck hnb hps
              obtain ⟨P, hP⟩ : ∃ P, R * prodTo l4 k = P := ⟨_, rfl⟩
              have hPs : R * prodTo l4 (k + 1) = P * q := by rw [hps, ← hP, Nat.mul_assoc]
              rw [hP] at ho hln ⊢
              have hT := fun W v (hb : Below wr.heap.size wr W) hv => Times_any (.slice ao (digs P).length co) v (digs P) (smallL (q : Int)) W (SlI.later ho hb) hv (digs_dg _) (smallL_lw (by omega) (by omega)) (by omega) (by have := smallL_len (q : Int); omega)
              have hdz : dv (digs P) * dv (smallL (q : Int)) = R * prodTo l4 (k + 1) := by
                rw [dv_digs, smallL_dv (by omega), hPs, Int.toNat_natCast]
              have hl2 := times_len (digs_dg P) (smallL_lw (n := (q : Int)) (by omega) (by omega))
              rw [hdz] at hl2
              simp only [hdz] at hT
              have hl3 := smallL_len (q : Int)
              obtain ⟨l1, hl1⟩ : ∃ l1, (digs P).length = l1 := ⟨_, rfl⟩
              rw [hl1] at hT hl2 hln ⊢
              have HT := Lib.hid hT
              have HL := Lib.hid (show (digs (R * prodTo l4 (k + 1))).length ≤ 8 + 3 * (k + 1) by omega)
              have HII := Lib.hid hR
              have HS2 := Lib.hid (Small_any (q : Int) wr (by omega) (by omega))
              clear hT hdz hl2 hl3 hl1 ho hln hR hps hPs hP hq hkl
              go_wp2_with fail
              refine HS2.out.mono ?_
              rintro e w5 ⟨v5, rfl, hv5, hb5⟩
              have HT5 := Lib.hid (And.intro (HT.out w5 v5 hb5 hv5) hb5)
              clear hv5 hb5
              go_wp2_with fail
              refine HT5.out.1.mono ?_
              rintro e w6 ⟨v6, rfl, hv6, hb6⟩
              obtain ⟨a6, c6, rfl, -⟩ := hv6.open
              have H6 := Lib.hid (And.intro hv6 (HII.out.later (later_trans HT5.out.2 hb6)))
              clear hv6 hb6
              go_wp2_with fail
              go_roundw
              case rel => first | exact ⟨k + 1, by omega, by go_num, H6.out.1, HL.out, H6.out.2⟩ | ((repeat apply Exists.intro); refine ⟨?_, rfl⟩; exact ⟨k + 1, by omega, by go_num, H6.out.1, HL.out, H6.out.2⟩)
              case measure => simp [intOf]; omega
            · obtain rfl : k = 4 := by omega
              have hN := Number_any _ _ wr ho (digs_dg _)
              rw [dv_digs] at hN
              obtain ⟨nh, nl, nq, hnv⟩ := numV_open (R * prodTo l4 4)
              rw [hnv] at hN
              have HNv := Lib.hid hnv
              have HN := Lib.hid hN
              have HI := Lib.hid hR
              obtain ⟨l1, hl1⟩ : ∃ l1, (digs (R * prodTo l4 4)).length = l1 := ⟨_, rfl⟩
              rw [hl1] at HN ⊢
              clear ho hR hN hnv hln hl1
              go_wp2_with fail
              refine HN.out.mono ?_
              rintro e w8 ⟨rfl, hb8⟩
              have H8 := Lib.hid (HI.out.bnd.later hb8)
              obtain ⟨r0, r1, f0, f1, lr⟩ := H8.out.res
              clear hb8
              go_wp2_with fail
              refine bodyPost_ret (v := .tuple #[.agg #[.int .u64 nh, .int .u64 nl], .bool nq]) (by simp [results, Tryd.results31, go_sem, r0, r1]) rfl ?_
              exact ⟨by rw [HNv.out], H8.out.done _ _⟩
  · rw [if_neg hlt] at hB ⊢
    have HB := Lib.hid hB
    clear hB hlt hrs
    go_enter Tryd.func31, Tryd.ntmps31
    go_wp2_with fail
    refine HB.out.mono ?_
    rintro e w1 ⟨rfl, hb1⟩
    have H1 := Lib.hid (HI0.out.later (later_trans hb1 (later_alloc w1 (.cells #[.int .u64 0, .int .u64 0] 35))))
    obtain ⟨r0, r1, f0, f1, lr⟩ := H1.out.res
    clear hb1
    go_wp2_with fail
    refine bodyPost_ret (v := .tuple #[.agg #[.int .u64 0, .int .u64 0], .bool false]) (by simp [results, Tryd.results31, go_sem, r0, r1]) rfl ?_
    exact ⟨rfl, H1.out.done _ _⟩
end
/-! ## XRb4 -/
section
open Go.RowKit Go.Shelf
set_option linter.unusedVariables false
set_option linter.unusedSimpArgs false

set_option maxRecDepth 100000 in
set_option maxHeartbeats 4000000 in
theorem Covers22_any (S : Shp) (c : Cov) (ev sv wv' : Value) (w : World) (h : ShR w ev sv S) (hw : SlI .i64 w wv' c.ws) (hok : shpB S = true) :
    Calls Tryd.prog 28 #[shpV S.many ev sv, covV wv' c.of] w fun e w' => e = .returned (.bool (coversB S c)) ∧ Below w.heap.size w w' := by
  obtain ⟨q1, q2, q3, -, -⟩ := shpB_yes hok
  have hl : Below w.heap.size w ((w.alloc (.cells #[.int .i64 S.many, ev, sv] 27)).alloc (.cells #[wv', .int .i64 c.of] 29)) := later_trans (later_alloc _ _) (later_alloc _ _)
  have he := h.edges
  have hs := h.sizes
  have hcA : ¬ c.ws.length = S.edges.length → coversB S c = false := fun g => by unfold coversB; rw [decide_eq_false g]; simp
  have hcB : c.of < 1 → coversB S c = false := fun g => by unfold coversB; rw [decide_eq_false (show ¬ 1 ≤ c.of by omega)]; simp
  have hcC : 16 < c.of → coversB S c = false := fun g => by
    unfold coversB badB; rw [decide_eq_true g]; simp
  have hcD : c.ws.any (badB 16) = true → coversB S c = false := fun g => by unfold coversB; rw [g]; simp
  have hcE : c.ws.length = S.edges.length → 1 ≤ c.of → c.of ≤ 16 → c.ws.any (badB 16) = false → coversB S c = (List.range S.many.toNat).all (coverAt S.edges c) := fun g1 g2 g3 g4 => by
    unfold coversB
    rw [decide_eq_true g1, decide_eq_true g2, g4]
    unfold badB
    rw [decide_eq_false (show ¬ c.of < 0 by omega), decide_eq_false (show ¬ 16 < c.of by omega)]
    simp
  obtain ⟨r, hr⟩ : ∃ r, coversB S c = r := ⟨_, rfl⟩
  rw [hr] at hcA hcB hcC hcD hcE ⊢
  obtain ⟨m, ls, zs⟩ := S
  obtain ⟨ws, o⟩ := c
  simp only at he hs hw hcA hcB hcC hcD hcE q1 q2 q3 hl ⊢
  obtain ⟨mn, rfl⟩ : ∃ mn : Nat, m = mn := ⟨m.toNat, by omega⟩
  rw [Int.toNat_natCast] at hcE
  have HH := Lib.hid (And.intro he (And.intro hw hl))
  have hmn : mn ≤ 32 := by omega
  have hwl := hw.len
  unfold maxLen at hwl
  obtain ⟨ae, ce, rfl, -⟩ := he.open
  obtain ⟨az, cz, rfl, -⟩ := hs.open
  obtain ⟨aw, cw, rfl, -⟩ := hw.open
  clear h he hs hw hok hl hr q1 q2
  by_cases h1 : ws.length = ls.length
  · by_cases h2 : o < 1
    · have hq := Lib.hid (hcB h2)
      have hlen : ((ws.length : Int) != ls.length) = false := by rw [h1]; simp
      clear hcA hcB hcC hcD hcE h1
      go_enter Tryd.func28, Tryd.ntmps28
      go_wp2_with fail
      go_ret
      exact ⟨ret_bool hq.out.symm, HH.out.2.2⟩
    by_cases h3 : 16 < o
    · have hq := Lib.hid (hcC h3)
      have hlen : ((ws.length : Int) != ls.length) = false := by rw [h1]; simp
      clear hcA hcB hcC hcD hcE h1
      go_enter Tryd.func28, Tryd.ntmps28
      go_wp2_with fail
      go_ret
      exact ⟨ret_bool hq.out.symm, HH.out.2.2⟩
    have hlen : ((ws.length : Int) != ls.length) = false := by rw [h1]; simp
    have hlw : ws.length ≤ 40 := by omega
    have HC := Lib.hid (And.intro hcD (And.intro (hcE h1 (by omega) (by omega)) h1))
    clear hcA hcB hcC hcD hcE h1
    go_enter Tryd.func28, Tryd.ntmps28
    go_wp2_with fail
    go_loop [32] (fun i => ∃ k : Nat, k ≤ ws.length ∧ i = .int .i64 k ∧ ∀ j, j < k → badB 16 (ws.getD j 0) = false) (fun i => ws.length - (intOf i).toNat)
    case atStart => exact ⟨0, Nat.zero_le _, rfl, fun j hj => by omega⟩
    case round =>
      obtain ⟨k, hk, rfl, hs⟩ := hrel
      have HS := Lib.hid hs
      clear hs
      by_cases hlt : k < ws.length
      · obtain ⟨_, _, f1, _, _, _, f4⟩ := (SlI.later HH.out.2.1 HH.out.2.2).open
        obtain ⟨bw, ow, f2, _, fc⟩ := f4 (by omega)
        have cw1 := fc k hlt
        have hmem : ws[k] ∈ ws := List.getElem_mem hlt
        rw [← getD_at hlt] at cw1 hmem
        injection f1 with f1a f1b f1c
        subst f1a f1c
        subst f2
        have hE : badB 16 (ws.getD k 0) = (decide (ws.getD k 0 < 0) || decide (16 < ws.getD k 0)) := rfl
        have hbad : badB 16 (ws.getD k 0) = true → r = false := fun g => HC.out.1 (List.any_eq_true.2 ⟨_, hmem, g⟩)
        obtain ⟨z, hz⟩ : ∃ z, ws.getD k 0 = z := ⟨_, rfl⟩
        rw [hz] at cw1 hE hbad
        have HZ := Lib.hid hz
        clear fc f4 f1b hz hmem
        by_cases z1 : z < 0
        · have hq := Lib.hid (hbad (by rw [hE, decide_eq_true z1]; rfl))
          clear hbad hE
          go_wp2_with fail
          go_ret
          exact ⟨ret_bool hq.out.symm, HH.out.2.2⟩
        by_cases z2 : 16 < z
        · have hq := Lib.hid (hbad (by rw [hE, decide_eq_true z2, Bool.or_true]))
          clear hbad hE
          go_wp2_with fail
          go_ret
          exact ⟨ret_bool hq.out.symm, HH.out.2.2⟩
        have HY : Hid (badB 16 (ws.getD k 0) = false) := Lib.hid (by rw [HZ.out, hE, decide_eq_false z1, decide_eq_false z2]; rfl)
        clear hbad hE
        go_wp2_with fail
        go_round
        case rel => first | exact ⟨k + 1, by omega, by go_num, fun j hj => by
          by_cases e : j = k
          · subst e; exact HY.out
          · exact HS.out j (by omega)⟩ | ((repeat apply Exists.intro); refine ⟨?_, rfl⟩; exact ⟨k + 1, by omega, by go_num, fun j hj => by
          by_cases e : j = k
          · subst e; exact HY.out
          · exact HS.out j (by omega)⟩)
        case measure => simp [intOf]; omega
      · have hall : ws.any (badB 16) = false := List.any_eq_false.2 fun x hx => by
          obtain ⟨j, hj, rfl⟩ := List.getElem_of_mem hx
          have := HS.out j (by omega)
          rw [getD_at hj] at this
          rw [this]; decide
        have hwb := okWs hall
        have HR : Hid (r = (List.range mn).all (coverAt ls ⟨ws, o⟩)) := Lib.hid (HC.out.2.1 hall)
        have HW := Lib.hid (And.intro hwb HC.out.2.2)
        clear hall hwb
        go_wp2_with fail
        go_loop [46] (fun i => ∃ k : Nat, k ≤ mn ∧ i = .int .i64 k ∧ ∀ j, j < k → coverAt ls ⟨ws, o⟩ j = true) (fun i => mn - (intOf i).toNat)
        case atStart => exact ⟨0, Nat.zero_le _, rfl, fun j hj => by omega⟩
        case round =>
          obtain ⟨k, hk, rfl, hs⟩ := hrel
          have HS := Lib.hid hs
          clear hs
          by_cases hlt : k < mn
          · go_wp2_with fail
            go_loop [8, 53] (fun s i => ∃ j : Nat, j ≤ ls.length ∧ i = .int .i64 j ∧ s = .int .i64 (sumTo ls ws k j)) (fun _ i => ls.length - (intOf i).toNat)
            case atStart => exact ⟨0, Nat.zero_le _, rfl, rfl⟩
            case round =>
              obtain ⟨j, hj, rfl, rfl⟩ := hrel
              have hsb := sumTo_bound (es := ls) (v := k) HW.out.1 j (by have := HW.out.2; omega)
              by_cases hjl : j < ls.length
              · obtain ⟨_, _, e1, _, _, _, g4⟩ := (HH.out.1.later HH.out.2.2).open
                obtain ⟨be, oe, e2, _, gc⟩ := g4 (by omega)
                obtain ⟨rv, ce1, hrv⟩ := gc j hjl
                injection e1 with e1a e1b e1c
                subst e1a e1c
                subst e2
                obtain ⟨_, _, f1, _, _, _, f4⟩ := (SlI.later HH.out.2.1 HH.out.2.2).open
                have hjw : j < ws.length := by have := HW.out.2; omega
                obtain ⟨bw, ow, f2, _, fc⟩ := f4 (by omega)
                have cw1 := fc j hjw
                rw [← getD_at hjw] at cw1
                injection f1 with f1a f1b f1c
                subst f1a f1c
                subst f2
                have HCn := Lib.hid (Has_any rv _ (k : Int) _ hrv)
                obtain ⟨ar, cr, rfl, -⟩ := hrv.open
                have hwj := HW.out.1 j hjw
                have hjwI : (j : Int) < ws.length := by omega
                clear gc g4 fc f4 hrv e1b f1b
                by_cases hin : (k : Int) ∈ rowN ls j
                · have HR2 : Hid (sumTo ls ws k (j + 1) = sumTo ls ws k j + ws.getD j 0) := Lib.hid (by
                    show (if (k : Int) ∈ rowN ls j then _ else _) = _
                    rw [if_pos hin])
                  rw [decide_eq_true hin] at HCn
                  clear hin
                  generalize sumTo ls ws k j = s at *
                  generalize ws.getD j 0 = y at *
                  go_wp2_with fail
                  refine HCn.out.mono ?_
                  rintro e w2 ⟨rfl, rfl⟩
                  go_wp2_with fail
                  go_round
                  case rel => first | exact ⟨j + 1, by omega, by go_num, by rw [HR2.out]⟩ | ((repeat apply Exists.intro); refine ⟨?_, rfl⟩; exact ⟨j + 1, by omega, by go_num, by rw [HR2.out]⟩)
                  case measure => simp [intOf]; omega
                · have HR2 : Hid (sumTo ls ws k (j + 1) = sumTo ls ws k j) := Lib.hid (by
                    show (if (k : Int) ∈ rowN ls j then _ else _) = _
                    rw [if_neg hin])
                  rw [decide_eq_false hin] at HCn
                  clear hin
                  generalize sumTo ls ws k j = s at *
                  go_wp2_with fail
                  refine HCn.out.mono ?_
                  rintro e w2 ⟨rfl, rfl⟩
                  go_wp2_with fail
                  go_round
                  case rel => first | exact ⟨j + 1, by omega, by go_num, by rw [HR2.out]⟩ | ((repeat apply Exists.intro); refine ⟨?_, rfl⟩; exact ⟨j + 1, by omega, by go_num, by rw [HR2.out]⟩)
                  case measure => simp [intOf]; omega
              · obtain rfl : j = ls.length := by omega
                obtain ⟨s, hs⟩ : ∃ s, sumTo ls ws k ls.length = s := ⟨_, rfl⟩
                rw [hs] at hsb ⊢
                have HSum := Lib.hid hs
                clear hs
                by_cases hso : s < o
                · have HN : Hid (r = false) := Lib.hid (by
                    rw [HR.out]
                    exact cover_no hlt (by
                      unfold coverAt
                      simp only
                      rw [HSum.out]
                      exact decide_eq_false (by omega)))
                  go_wp2_with fail
                  go_ret
                  exact ⟨ret_bool HN.out.symm, HH.out.2.2⟩
                · have HY : Hid (coverAt ls ⟨ws, o⟩ k = true) := Lib.hid (by
                    unfold coverAt
                    simp only
                    rw [HSum.out]
                    exact decide_eq_true (by omega))
                  go_wp2_with fail
                  go_round
                  case rel => first | exact ⟨k + 1, by omega, by go_num, fun j hj => by
                    by_cases e : j = k
                    · subst e; exact HY.out
                    · exact HS.out j (by omega)⟩ | ((repeat apply Exists.intro); refine ⟨?_, rfl⟩; exact ⟨k + 1, by omega, by go_num, fun j hj => by
                    by_cases e : j = k
                    · subst e; exact HY.out
                    · exact HS.out j (by omega)⟩)
                  case measure => simp [intOf]; omega
          · have HY : Hid (r = true) := Lib.hid (by rw [HR.out]; exact cover_yes fun j hj => HS.out j (by omega))
            go_wp2_with fail
            go_ret
            exact ⟨ret_bool HY.out.symm, HH.out.2.2⟩
  · have hq := Lib.hid (hcA h1)
    have hlen : ((ws.length : Int) != ls.length) = true := by rw [bne_iff_ne]; omega
    clear hcA hcB hcC hcD hcE h1
    go_enter Tryd.func28, Tryd.ntmps28
    go_wp2_with fail
    go_ret
    exact ⟨ret_bool hq.out.symm, HH.out.2.2⟩
end
end Go.Proofs.YtdmfhlfhlflakaaDoor
