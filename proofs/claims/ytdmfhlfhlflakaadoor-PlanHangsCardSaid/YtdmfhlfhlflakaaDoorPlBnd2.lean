/-
  plan.Bound, walked. (Printed by mkbnd.py.)
-/
import Derived.Test.YtdmfhlfhlflakaaDoorPlBnd
namespace Go.Proofs.YtdmfhlfhlflakaaDoor
open Go.RowKit
set_option linter.unusedVariables false
set_option linter.unusedSimpArgs false

/-- What stands while the root is sought. -/
structure RootW (w w3 : World) (m : Int) (ev sv wv : Value) (o : Int) (need low : Nat) (W : World) : Prop where
  bnd : BndW w m ev sv wv o W
  bn : WB W w3.heap.size need
  bl : WB W (w3.heap.size + 1) low
theorem RootW.later {w w3 W W' : World} {m o : Int} {ev sv wv : Value} {need low : Nat} (h : RootW w w3 m ev sv wv o need low W) (hb : Below W.heap.size W W') : RootW w w3 m ev sv wv o need low W' :=
  ⟨h.bnd.later hb, h.bn.later hb, h.bl.later hb⟩
theorem RootW.set {w w3 W : World} {m o : Int} {ev sv wv : Value} {need low q : Nat} (h : RootW w w3 m ev sv wv o need low W) (hl : w.heap.size + 1 + 1 < w3.heap.size) :
    RootW w w3 m ev sv wv o need q ((W.setCell ⟨w3.heap.size + 1, 0, none⟩ (.int .u64 ((q / 18446744073709551616 : Nat) : Int))).setCell ⟨w3.heap.size + 1, 1, none⟩ (.int .u64 ((q % 18446744073709551616 : Nat) : Int))) := by
  refine ⟨⟨below_set (below_set h.bnd.bel (by omega)) (by omega), box_other (box_other h.bnd.bs (by omega) _) (by omega) _, box_other (box_other h.bnd.bc (by omega) _) (by omega) _, box_other (box_other h.bnd.br (by omega) _) (by omega) _⟩, box_other (box_other h.bn (by omega) _) (by omega) _, ?_⟩
  have := box_set (i := 1) (box_set (i := 0) h.bl (.int .u64 ((q / 18446744073709551616 : Nat) : Int))) (.int .u64 ((q % 18446744073709551616 : Nat) : Int))
  unfold WB
  simpa using this
/-- How far the root is known: to k bits. -/
structure RootN (need o low k : Nat) : Prop where
  le : k ≤ 128
  mul : low % 2 ^ k = 0
  lt : low + 2 ^ k ≤ 2 ^ 128
  less : low ^ o < need
  enough : need ≤ (low + 2 ^ k) ^ o
theorem RootN.start {need o : Nat} (ho : 1 ≤ o) (h1 : 1 ≤ need) (h2 : need < 2 ^ 128) : RootN need o 0 128 := by
  refine ⟨Nat.le_refl _, Nat.zero_mod _, by omega, ?_, ?_⟩
  · rw [Nat.zero_pow (by omega)]; omega
  · rw [Nat.zero_add]
    exact Nat.le_trans (Nat.le_of_lt h2) (Nat.le_self_pow (by omega) _)
theorem pow_split (k : Nat) : 2 ^ (k + 1) = 2 ^ k + 2 ^ k := by rw [Nat.pow_succ]; omega
theorem mod_split {low k : Nat} (h : low % 2 ^ (k + 1) = 0) : low % 2 ^ k = 0 ∧ (low + 2 ^ k) % 2 ^ k = 0 := by
  have h1 : 2 ^ k ∣ low := Nat.dvd_trans (Nat.pow_dvd_pow 2 (Nat.le_succ k)) (Nat.dvd_of_mod_eq_zero h)
  exact ⟨Nat.mod_eq_zero_of_dvd h1, by rw [Nat.add_mod_right]; exact Nat.mod_eq_zero_of_dvd h1⟩
theorem lt_split {low k : Nat} (h : low + 2 ^ (k + 1) ≤ 2 ^ 128) : low + 2 ^ k + 2 ^ k ≤ 2 ^ 128 ∧ low + 2 ^ k ≤ 2 ^ 128 := by
  rw [pow_split] at h
  generalize 2 ^ k = p at *
  generalize (2 : Nat) ^ 128 = q at *
  omega
theorem RootN.up {need o low k : Nat} (h : RootN need o low (k + 1)) (hl : (low + 2 ^ k) ^ o < need) : RootN need o (low + 2 ^ k) k := by
  exact ⟨by have := h.le; omega, (mod_split h.mul).2, (lt_split h.lt).1, hl, by have h1 := h.enough; rw [pow_split, ← Nat.add_assoc] at h1; exact h1⟩
theorem RootN.down {need o low k : Nat} (h : RootN need o low (k + 1)) (hl : ¬ (low + 2 ^ k) ^ o < need) : RootN need o low k := by
  exact ⟨by have := h.le; omega, (mod_split h.mul).1, (lt_split h.lt).2, h.less, by omega⟩
theorem RootN.done {need o low : Nat} (ho : 1 ≤ o) (h : RootN need o low 0) : rootN need o = low + 1 := rootN_of ho h.less h.enough

theorem or_pow {a j : Nat} (h : a % 2 ^ (j + 1) = 0) (ha : a < 18446744073709551616) (hj : j ≤ 63) : bits .or .u64 (a : Int) (IntKind.u64.wrap (2 ^ j)) = ((a + 2 ^ j : Nat) : Int) := by
  have hp : 2 ^ j < 2 ^ (j + 1) := Nat.pow_lt_pow_right (by decide) (Nat.lt_succ_self j)
  have hp2 : 2 ^ j ≤ 2 ^ 63 := Nat.pow_le_pow_right (by decide) hj
  have hp3 : (2 : Nat) ^ 63 = 9223372036854775808 := by decide
  have hw : IntKind.u64.wrap (2 ^ j) = ((2 ^ j : Nat) : Int) := by
    rw [show ((2 : Int) ^ j) = ((2 ^ j : Nat) : Int) from by push_cast; rfl]
    exact wrap_u64 (by omega) (by omega)
  rw [hw, bits_or_u64_nat a (2 ^ j) ha (by omega)]
  obtain ⟨q, rfl⟩ := Nat.dvd_of_mod_eq_zero h
  rw [← Nat.two_pow_add_eq_or_of_lt hp]
theorem or_hi {low k lh ll : Nat} (hm : low % 2 ^ (k + 1) = 0) (hlt : low < 340282366920938463463374607431768211456) (hk : 63 < k) (hk' : k ≤ 127) (e1 : low / 18446744073709551616 = lh) (e2 : low % 18446744073709551616 = ll) :
    bits .or .u64 (lh : Int) (IntKind.u64.wrap (2 ^ (k - 64))) = (((low + 2 ^ k) / 18446744073709551616 : Nat) : Int) ∧ (low + 2 ^ k) % 18446744073709551616 = ll := by
  obtain ⟨j, rfl⟩ : ∃ j, k = j + 64 := ⟨k - 64, by omega⟩
  rw [Nat.add_sub_cancel]
  obtain ⟨q, rfl⟩ := Nat.dvd_of_mod_eq_zero hm
  have e3 : 2 ^ (j + 64 + 1) * q = 18446744073709551616 * (2 ^ (j + 1) * q) := by
    rw [show j + 64 + 1 = 64 + (j + 1) from by omega, Nat.pow_add, Nat.mul_assoc]
  have e4 : (2 : Nat) ^ (j + 64) = 18446744073709551616 * 2 ^ j := by
    rw [show j + 64 = 64 + j from by omega, Nat.pow_add]
  rw [e3] at e1 e2 hlt ⊢
  rw [e4, ← Nat.mul_add]
  have hlh : lh = 2 ^ (j + 1) * q := by rw [← e1]; exact Nat.mul_div_cancel_left _ (by decide)
  refine ⟨?_, ?_⟩
  · rw [Nat.mul_div_cancel_left _ (by decide), hlh]
    refine or_pow (Nat.mul_mod_right _ _) ?_ (by omega)
    generalize 2 ^ (j + 1) * q = x at *
    omega
  · rw [Nat.mul_mod_right] at e2 ⊢
    exact e2
theorem or_lo {low k lh ll : Nat} (hm : low % 2 ^ (k + 1) = 0) (hk : k ≤ 63) (e1 : low / 18446744073709551616 = lh) (e2 : low % 18446744073709551616 = ll) :
    bits .or .u64 (ll : Int) (IntKind.u64.wrap (2 ^ k)) = (((low + 2 ^ k) % 18446744073709551616 : Nat) : Int) ∧ (low + 2 ^ k) / 18446744073709551616 = lh := by
  have hd : 2 ^ (k + 1) ∣ 18446744073709551616 := by
    rw [show (18446744073709551616 : Nat) = 2 ^ 64 from rfl]
    exact Nat.pow_dvd_pow 2 (by omega)
  have hlm : ll % 2 ^ (k + 1) = 0 := by rw [← e2, Nat.mod_mod_of_dvd _ hd]; exact hm
  have hl : ll < 18446744073709551616 := by rw [← e2]; exact Nat.mod_lt _ (by decide)
  obtain ⟨c, hc⟩ := hd
  obtain ⟨q, hq⟩ := Nat.dvd_of_mod_eq_zero hlm
  have hqc : q < c := by
    rw [hc, hq] at hl
    exact Nat.lt_of_mul_lt_mul_left hl
  have hle : 2 ^ (k + 1) * q + 2 ^ (k + 1) ≤ 2 ^ (k + 1) * c := by
    rw [← Nat.mul_succ]
    exact Nat.mul_le_mul_left _ hqc
  have hs := pow_split k
  have h1 : ll + 2 ^ k < 18446744073709551616 := by
    have hp : 0 < 2 ^ k := Nat.pow_pos (by decide)
    rw [hc, hq]
    omega
  have h2 : low = 18446744073709551616 * lh + ll := by rw [← e1, ← e2]; exact (Nat.div_add_mod _ _).symm
  rw [or_pow hlm hl hk]
  generalize 2 ^ k = p at *
  refine ⟨?_, ?_⟩
  · congr 1
    omega
  · omega
set_option maxRecDepth 100000 in
set_option maxHeartbeats 8000000 in
theorem bound_yes (S : Shp) (c : Cov) (ev sv wv' : Value) (w : World) (h : ShR w ev sv S) (hw : SlI .i64 w wv' c.ws) (hO : One w) (hok : shpB S = true) (hcv : coversB S c = true) :
    Calls Tryd.prog 12 #[shpV S.many ev sv, covV wv' c.of] w fun e w' => e = .returned (boundV S c) ∧ Below w.heap.size w w' := by
  have hS := BndW.start (w := w) (m := S.many) (ev := ev) (sv := sv) (wv := wv') (o := c.of)
  have hC := Check_any S ev sv _ (h.later hS.bel)
  rw [if_pos hok] at hC
  have hV := fun W (hb : Below _ _ W) => covers_any S c ev sv wv' W ((h.later hS.bel).later hb) ((SlI.later hw hS.bel).later hb) hok
  simp only [hcv] at hV
  have HC := Lib.hid hC
  have HV := Lib.hid hV
  have HS := Lib.hid hS
  have HSh := Lib.hid (And.intro h (And.intro hw hO))
  have hE : boundE S c = if needN S c < 340282366920938463463374607431768211456 then 0 else 110 := by
    unfold boundE
    rw [if_pos hok, if_pos hcv]
  obtain ⟨q1, q2, q3, q4, q5⟩ := shpB_yes hok
  have hpre : coverPre S c = true := by rw [coversB_pre, Bool.and_eq_true] at hcv; exact hcv.1
  unfold coverPre at hpre
  simp only [Bool.and_eq_true, decide_eq_true_eq, Bool.not_eq_true'] at hpre
  obtain ⟨p1, p2, p3, p4⟩ := hpre
  have hwb := okWs p4
  have hzb : ∀ i, i < S.sizes.length → 0 ≤ S.sizes.getD i 0 ∧ S.sizes.getD i 0 ≤ 1048576 := by
    intro i hi
    rw [List.any_eq_false] at q5
    have := q5 _ (List.getElem_mem hi)
    rw [getD_at hi]
    unfold badB at this
    simp only [Bool.or_eq_true, decide_eq_true_eq, not_or] at this
    omega
  have hof : 1 ≤ c.of ∧ c.of ≤ 16 := by
    unfold badB at p3
    simp only [Bool.or_eq_false_iff, decide_eq_false_iff_not] at p3
    omega
  obtain ⟨i0, hi, hz0, hz1, hz2⟩ := info_parts info_wide
  have hge := fun k hk => needN_ge S c (k := k) hk
  obtain ⟨m, ls, zs⟩ := S
  obtain ⟨ws, o⟩ := c
  simp only at HC HS HV HSh p1 hwb hzb hof q3 q4 hge ⊢
  have HB := Lib.hid (And.intro hwb (And.intro hzb (And.intro hge hE)))
  have HLen := Lib.hid (And.intro p1 q4)
  have hzl : zs.length ≤ 40 := by omega
  obtain ⟨ae, ce, rfl, -⟩ := h.edges.open
  obtain ⟨az, cz, rfl, -⟩ := h.sizes.open
  obtain ⟨aw, cw, rfl, -⟩ := hw.open
  simp only at HC HS HV HSh ⊢
  clear h hw hok hC hS hV hcv hO hE q1 q2 q3 q4 q5 p1 p2 p3 p4 hwb hzb hge
  go_enter Tryd.func12, Tryd.ntmps12
  go_wp2_with fail
  go_step3
  go_wp2_with fail
  refine HC.out.mono ?_
  rintro e w1 ⟨rfl, hb1⟩
  have HB1 := Lib.hid hb1
  have H1 := Lib.hid (HS.out.later hb1)
  obtain ⟨c0, c1, c2, c3, c4⟩ := H1.out.cells
  clear hb1
  go_wp2_with fail
  refine (HV.out _ HB1.out).mono ?_
  rintro e w2 ⟨rfl, hb2⟩
  have H2 := Lib.hid (H1.out.later hb2)
  obtain ⟨c0, c1, c2, c3, c4⟩ := H2.out.cells
  clear hb2
  go_wp2_with fail
  go_loopw [6, 32] (fun l i wr => ∃ k : Nat, k ≤ zs.length ∧ i = .int .i64 k ∧ wr.ownsRow w2.heap.size 35 2 l k ((powL zs ws k).flatMap wcells) ∧ w2.heap.size ≤ wr.heap.size ∧ (∀ n ∈ powL zs ws k, n < 340282366920938463463374607431768211456) ∧ BndW w m (.slice ae ls.length ce) (.slice az zs.length cz) (.slice aw ws.length cw) o wr) (fun _ i _ => zs.length - (intOf i).toNat)
  case atStart => exact ⟨0, Nat.zero_le _, rfl, World.ownsRow_nil _ _ _ _, Nat.le_refl _, (fun n hn => by cases hn), H2.out⟩
  case round =>
    obtain ⟨k, hk, rfl, hown, hws, hpl, hI⟩ := hrel
    have HO := Lib.hid (And.intro hown (And.intro hpl hI))
    obtain ⟨al, cl, rfl⟩ := owns_shape2 hown
    by_cases hlt : k < zs.length
    · obtain ⟨c0, c1, c2, c3, c4⟩ := hI.cells
      obtain ⟨_, _, e1, _, _, _, f4⟩ := (HSh.out.1.sizes.later hI.bel).open
      obtain ⟨bz, oz, e2, hbz, fc⟩ := f4 (by show 0 < zs.length; omega)
      injection e1 with e1a e1b e1c
      subst e1a
      subst e2
      have cz1 : wr.cell? ⟨bz, oz + k, none⟩ = some (.int .i64 zs[k]) := fc k hlt
      rw [← getD_at hlt] at cz1
      obtain ⟨_, _, g1, _, _, _, g4⟩ := (HSh.out.2.1.later hI.bel).open
      have hkw : k < ws.length := by have := HLen.out; omega
      obtain ⟨bw, ow, g2, hbw, gc⟩ := g4 (by show 0 < ws.length; omega)
      injection g1 with g1a g1b g1c
      subst g1a
      subst g2
      have cw1 : wr.cell? ⟨bw, ow + k, none⟩ = some (.int .i64 ws[k]) := gc k hkw
      rw [← getD_at hkw] at cw1
      have hzk := HB.out.2.1 k hlt
      have hwk := HB.out.1 k hkw
      have hpw := HB.out.2.2.1 k hlt
      obtain ⟨z, hz⟩ : ∃ z, zs.getD k 0 = z := ⟨_, rfl⟩
      obtain ⟨y, hy⟩ : ∃ y, ws.getD k 0 = y := ⟨_, rfl⟩
      rw [hz] at cz1 hzk hpw
      rw [hy] at cw1 hwk hpw
      obtain ⟨a1, ha1⟩ : ∃ a1 : Nat, (max z 1).toNat = a1 := ⟨_, rfl⟩
      obtain ⟨y1, rfl⟩ : ∃ y1 : Nat, y = y1 := ⟨y.toNat, by omega⟩
      rw [ha1, Int.toNat_natCast] at hpw
      have hmx : Value.int .i64 (if z < 1 then 1 else z) = .int .i64 a1 := by rw [← ha1]; congr 1; split <;> omega
      have ha2 : a1 ≤ 1048576 := by omega
      have ha3 : 1 ≤ a1 := by omega
      have HK := Lib.hid (And.intro hz (And.intro hy (And.intro ha1 (And.intro hpw (And.intro hlt hkw)))))
      have hltI : (k : Int) < zs.length := by omega
      have hkwI : (k : Int) < ws.length := by omega
      clear hown hpl hI f4 fc g4 gc e1b e1c g1b g1c hz hy ha1 hpw hlt hkw
      have HKeep : Hid (∀ W, Below wr.heap.size wr W → W.cell? ⟨w.heap.size + 1, 0, none⟩ = some (.slice (some ⟨bw, ow, none⟩) ws.length cw) ∧ W.cell? ⟨bw, ow + k, none⟩ = some (.int .i64 (y1 : Int))) := Lib.hid (fun W hb => ⟨cell_next hb c3, cell_next hb cw1⟩)
      have hPow := fun W hb => Power_any a1 y1 (by omega) (by omega) W ((HSh.out.2.2.later HO.out.2.2.bel).later hb)
      obtain ⟨rh, rl, re, hre⟩ := wres_open (a1 ^ y1)
      rw [hre] at hPow
      have HP := Lib.hid hPow
      have hOf := fun W => Of_any a1 (by omega) W
      obtain ⟨oh, ol, hwv, -⟩ := wv_open a1 (by omega)
      rw [hwv] at hOf HP
      have HRe := Lib.hid hre
      clear hPow hre hwv
      have hwr : IntKind.u64.wrap (a1 : Int) = a1 := wrap_u64 (by omega) (by omega)
      go_upto_region 9 with fail
      go_cut [9, 10] (fun s9 s10 wx => ∃ X : Nat, s9 = .pointer (some ⟨X, 0, none⟩) ∧ s10 = .int .i64 re ∧ wx.cell? ⟨X, 0, none⟩ = some (.int .u64 rh) ∧ wx.cell? ⟨X, 1, none⟩ = some (.int .u64 rl) ∧ X < wx.heap.size ∧ Below wr.heap.size wr wx)
      case first =>
        go_region_held3 (fun W => W.cell? ⟨w.heap.size + 1, 0, none⟩ = some (.slice (some ⟨bw, ow, none⟩) ws.length cw) ∧ W.cell? ⟨bw, ow + k, none⟩ = some (.int .i64 (y1 : Int)))
          (first | exact HKeep.out _ (later_refl _) | exact HKeep.out _ (later_drew _) | exact HKeep.out _ (later_trans (later_alloc _ _) (later_drew _)) | exact HKeep.out _ (later_alloc _ _) | exact HKeep.out _ hbO | exact HKeep.out _ hbP | exact HKeep.out _ (later_trans hbO (later_alloc _ _)) | exact HKeep.out _ (later_trans hbP (later_alloc _ _)) | exact HKeep.out _ (below_set (below_set hbP (Nat.le_refl _)) (Nat.le_refl _)) | exact HKeep.out _ (below_set (below_set hbP hbO.size) hbO.size) | assumption)
          (first
            | (go_at_call 33; have hq := mO; refine (HP.out _ (by first | exact hbO | exact later_trans hbO (later_alloc _ _))).mono ?_; rintro e wP ⟨rfl, hP1⟩; have hbP : Below wr.heap.size wr wP := (by first | exact later_trans hbO hP1 | exact later_trans (later_trans hbO (later_alloc _ _)) hP1); have nP := kept hP1 mO; obtain ⟨n0, n1, f0, f1, ln⟩ := two_of nP)
            | (go_at_call 33; refine (HP.out _ (by first | exact hbO | exact later_trans hbO (later_alloc _ _))).mono ?_; rintro e wP ⟨rfl, hP1⟩; have hbP : Below wr.heap.size wr wP := (by first | exact later_trans hbO hP1 | exact later_trans (later_trans hbO (later_alloc _ _)) hP1); have nP := new_kept hP1; obtain ⟨n0, n1, f0, f1, ln⟩ := two_of nP)
            | (go_at_call 33; refine (HP.out _ (by first | exact hbO | exact later_trans hbO (later_alloc _ _))).mono ?_; rintro e wP ⟨rfl, hP1⟩; have hbP : Below wr.heap.size wr wP := (by first | exact later_trans hbO hP1 | exact later_trans (later_trans hbO (later_alloc _ _)) hP1))
            | (go_at_call 32; refine (hOf _).mono ?_; rintro e wO ⟨rfl, hO1⟩; have hbO : Below wr.heap.size wr wO := (by first | exact later_trans (later_drew _) hO1 | exact later_trans (later_trans (later_drew _) (later_alloc _ _)) hO1); have mO := new_keptD hO1)
            | (go_at_call 32; refine (hOf _).mono ?_; rintro e wO ⟨rfl, hO1⟩; have hbO : Below wr.heap.size wr wO := (by first | exact later_trans (later_drew _) hO1 | exact later_trans (later_trans (later_drew _) (later_alloc _ _)) hO1); have mO := new_kept hO1)
            | (go_at_call 32; refine (hOf _).mono ?_; rintro e wO ⟨rfl, hO1⟩; have hbO : Below wr.heap.size wr wO := (by first | exact later_trans (later_drew _) hO1 | exact later_trans (later_trans (later_drew _) (later_alloc _ _)) hO1)))
        all_goals (go_wp2_with fail)
        all_goals go_meet
        all_goals first
          | exact ⟨wP.heap.size, rfl, rfl, by simp [World.cell?_alloc_new], by simp [World.cell?_alloc_new], by simp, later_trans hbP (later_alloc _ _)⟩
          | exact ⟨_, rfl, rfl, by simp [go_sem, n0, n1], by simp [go_sem, n0, n1], by simpa using ln, below_set (below_set hbP hbO.size) hbO.size⟩
          | exact ⟨_, rfl, rfl, by simp [go_sem, n0, n1], by simp [go_sem, n0, n1], by simpa using ln, below_set (below_set hbP (Nat.le_refl _)) (Nat.le_refl _)⟩
      case rest =>
        obtain ⟨X, rfl, rfl, n0, n1, ln, hbx⟩ := hcut
        have HIx := Lib.hid (HO.out.2.2.later hbx)
        have hox := owns_later HO.out.1 hbx
        have HBx := Lib.hid hbx
        obtain ⟨r0, r1, f0, f1, lr⟩ := HIx.out.res
        have hbase : w2.heap.size ≤ wc.heap.size := Nat.le_trans hws hbx.size
        clear hbx c0 c1 c2 c3 c4 cz1 cw1
        by_cases hov : a1 ^ y1 < 340282366920938463463374607431768211456
        · have hre := HRe.out
          unfold wres at hre
          rw [if_pos hov] at hre
          unfold wv at hre
          simp only [Value.tuple.injEq, Array.mk.injEq, List.cons.injEq, Value.agg.injEq, Value.int.injEq, true_and, and_true] at hre
          obtain ⟨⟨hrh, hrl⟩, rfl⟩ := hre
          have HR := Lib.hid (And.intro hov (And.intro hrh hrl))
          clear hov hrh hrl
          have hlen : k + 1 ≤ 40 := by omega
          go_wp2_with (at_builtin; refine wpList_append_own _ rfl (.tmp 54) (.tmp 56) 78 rfl w2.heap.size 35 i0 _ 2 16 Tryd.underlying78 hi hz0 hz1 hz2 rfl (by decide) _ _ _ rfl (hox.alloc _) ⟨wc.heap.size, 0, none⟩ 1 1 [.int .u64 rh, .int .u64 rl] rfl rfl (cells_new _ _ _) (by simp [Value.oneCell']) (by unfold maxLen; omega) (by omega) (by simp; omega) ?_; intro v6 w6 hown6 hgrow6 _; obtain ⟨g6, cap6, rfl⟩ := ownsRow_succ hown6)
          have hal := later_alloc wc (.cells #[.int .u64 rh, .int .u64 rl] 35)
          have hI6 : BndW w m (.slice ae ls.length ce) (.slice (some ⟨bz, oz, none⟩) zs.length cz) (.slice (some ⟨bw, ow, none⟩) ws.length cw) o w6 := by
            have hIa := HIx.out.later hal
            have hR2 := H2.out.res.2.2.2.2
            exact ⟨hIa.bel.grown hgrow6 (by simp; omega) (fun k e => Nat.le_trans H2.out.bel.size (owns_above hox k e)), box_grown (hox.alloc _) hgrow6 hIa.bs (by decide), box_grown (hox.alloc _) hgrow6 hIa.bc (by decide), (hgrow6.block _ (lt_of_block hIa.br) (fun e => by have := owns_above hox _ e.symm; omega)).trans hIa.br⟩
          have hs6 := hgrow6.size
          go_roundw
          case rel =>
            refine ⟨k + 1, HK.out.2.2.2.2.1, by go_num, ?_, ?_, ?_, hI6⟩
            · rw [powL_succ, HK.out.1, HK.out.2.1, HK.out.2.2.1, Int.toNat_natCast, List.flatMap_append]
              have e : [a1 ^ y1].flatMap wcells = [.int .u64 rh, .int .u64 rl] := by
                rw [← HR.out.2.1, ← HR.out.2.2]; rfl
              rw [e]
              exact hown6
            · simp at hs6; have := HBx.out.size; omega
            · intro n hn
              rw [powL_succ, HK.out.1, HK.out.2.1, HK.out.2.2.1, Int.toNat_natCast] at hn
              rcases List.mem_append.1 hn with hn | hn
              · exact HO.out.2.1 n hn
              · obtain rfl : n = a1 ^ y1 := by simpa using hn
                exact HR.out.1
          case measure => simp [intOf]; omega
        · have hre := HRe.out
          unfold wres at hre
          rw [if_neg hov] at hre
          rw [show wv 0 = .agg #[.int .u64 0, .int .u64 0] from rfl] at hre
          simp only [Value.tuple.injEq, Array.mk.injEq, List.cons.injEq, Value.agg.injEq, Value.int.injEq, true_and, and_true] at hre
          obtain ⟨⟨hrh, hrl⟩, rfl⟩ := hre
          have HE : Hid (boundV ⟨m, ls, zs⟩ ⟨ws, o⟩ = .tuple #[.agg #[.int .u64 0, .int .u64 0], .int .i64 110]) := Lib.hid (by
            have h1 := HB.out.2.2.2
            rw [if_neg (by have := HK.out.2.2.2.1; omega)] at h1
            unfold boundV boundN
            rw [h1, if_neg (by decide)]; rfl)
          clear hov hrh hrl
          go_wp2_with fail
          refine bodyPost_ret (v := .tuple #[.agg #[.int .u64 0, .int .u64 0], .int .i64 110]) (by simp [results, Tryd.results12, go_sem, r0, r1]) rfl ?_
          exact ⟨by rw [HE.out], HIx.out.done _ _⟩
    · obtain rfl : k = zs.length := by omega
      have hlen2 := powL_len zs ws zs.length
      have hpos := powL_pos zs ws zs.length
      have hSl : SlW wr (.slice al zs.length cl) (powL zs ws zs.length) := SlT.of_owns (by rw [hlen2]; exact hown)
      have hPr := product_any _ _ wr hSl hpos hpl
      rw [hlen2] at hPr
      have hneed : prodTo (powL zs ws zs.length) zs.length = needN ⟨m, ls, zs⟩ ⟨ws, o⟩ := rfl
      rw [hneed] at hPr
      obtain ⟨need, hnd⟩ : ∃ need, needN ⟨m, ls, zs⟩ ⟨ws, o⟩ = need := ⟨_, rfl⟩
      have hn1 : 1 ≤ need := by
        rw [← hnd, ← hneed]
        exact prodTo_pos hpos (by omega)
      have hE := HB.out.2.2.2
      rw [hnd] at hPr hE
      have HND := Lib.hid (And.intro hnd hn1)
      have HPr := Lib.hid hPr
      clear hown hpl hSl hPr hneed hnd hpos hlen2 hn1
      by_cases hov : need < 340282366920938463463374607431768211456
      · rw [if_pos hov] at hE
        have hr : wres need = .tuple #[.agg #[.int .u64 ((need / 18446744073709551616 : Nat) : Int), .int .u64 ((need % 18446744073709551616 : Nat) : Int)], .int .i64 0] := by unfold wres; rw [if_pos hov]; rfl
        obtain ⟨nh, hnh⟩ : ∃ nh, need / 18446744073709551616 = nh := ⟨_, rfl⟩
        obtain ⟨nl, hnl⟩ : ∃ nl, need % 18446744073709551616 = nl := ⟨_, rfl⟩
        rw [hnh, hnl] at hr
        rw [hr] at HPr
        have HN := Lib.hid (And.intro hov (And.intro hnh (And.intro hnl hE)))
        clear hr hov hnh hnl hE
        go_wp2_with fail
        refine HPr.out.mono ?_
        rintro e w3 ⟨rfl, hb3⟩
        have H3 := Lib.hid (hI.later hb3)
        clear hb3 hI
        go_wp2_with fail
        apply wp_label
        rename_i hK
        refine hK _ _ ?_
        clear hK
        obtain ⟨on, hon⟩ : ∃ on : Nat, o = on := ⟨o.toNat, by omega⟩
        have hon1 : 1 ≤ on ∧ on ≤ 16 := by omega
        have hR0 : RootW w w3 m (.slice ae ls.length ce) (.slice az zs.length cz) (.slice aw ws.length cw) o need 0 ((w3.alloc (.cells #[.int .u64 (nh : Int), .int .u64 (nl : Int)] 35)).alloc (.cells #[.int .u64 0, .int .u64 0] 35)) := by
          refine ⟨H3.out.later (later_trans (later_alloc _ _) (later_alloc _ _)), ?_, ?_⟩
          · unfold WB
            rw [HN.out.2.1, HN.out.2.2.1]
            exact box_alloc (box_new w3 _ _) _
          · have h := box_new (w3.alloc (.cells #[.int .u64 (nh : Int), .int .u64 (nl : Int)] 35)) #[.int .u64 0, .int .u64 0] 35
            rw [World.size_alloc] at h
            exact h
        have HR0 := Lib.hid hR0
        clear hR0
        subst hon
        go_wp2_with fail
        go_loopw [14] (fun b wr => ∃ k low : Nat, b = .int .i64 ((k : Int) - 1) ∧ RootN need on low k ∧ RootW w w3 m (.slice ae ls.length ce) (.slice az zs.length cz) (.slice aw ws.length cw) on need low wr) (fun b _ => (intOf b + 1).toNat)
        case atStart => exact ⟨128, 0, rfl, RootN.start hon1.1 HND.out.2 HN.out.1, HR0.out⟩
        case round =>
          obtain ⟨k, low, rfl, hRn, hRw⟩ := hrel
          have HRn := Lib.hid hRn
          have HRw := Lib.hid hRw
          have hk128 := hRn.le
          have hlo := hRn.lt
          cases k with
          | zero =>
            have hroot := RootN.done hon1.1 hRn
            have hlown : low + 1 ≤ need := by
              have h1 := hRn.less
              have h2 : low ≤ low ^ on := Nat.le_self_pow (by omega) low
              omega
            have hM1 : low + 1 < 340282366920938463463374607431768211456 := by have := HN.out.1; omega
            have hAdd := fun W => Add_any low 1 (by omega) (by decide) W
            have hOf := fun W => Of_any 1 (by decide) W
            obtain ⟨rh, rl, hwr, -⟩ := wv_open (low + 1) hM1
            have hres : wres (low + 1) = .tuple #[.agg #[.int .u64 (rh : Int), .int .u64 (rl : Int)], .int .i64 0] := by unfold wres; rw [if_pos hM1, hwr]
            have hwl : wv low = .agg #[.int .u64 ((low / 18446744073709551616 : Nat) : Int), .int .u64 ((low % 18446744073709551616 : Nat) : Int)] := rfl
            obtain ⟨lh, hlh⟩ : ∃ lh, low / 18446744073709551616 = lh := ⟨_, rfl⟩
            obtain ⟨ll, hll⟩ : ∃ ll, low % 18446744073709551616 = ll := ⟨_, rfl⟩
            rw [hlh, hll] at hwl
            rw [hres, hwl] at hAdd
            rw [show wv 1 = .agg #[.int .u64 0, .int .u64 1] from rfl] at hAdd hOf
            obtain ⟨d0, d1, d2, d3, d4⟩ := two_of hRw.bl
            rw [hlh] at d0
            rw [hll] at d1
            have HE : Hid (boundV ⟨m, ls, zs⟩ ⟨ws, on⟩ = .tuple #[.agg #[.int .u64 (rh : Int), .int .u64 (rl : Int)], .int .i64 0]) := Lib.hid (by
              have hE := HN.out.2.2.2
              unfold boundV boundN
              rw [hE, if_pos rfl, HND.out.1]
              show Value.tuple #[wv (rootN need (on : Int).toNat), .int .i64 0] = _
              rw [Int.toNat_natCast, hroot, hwr])
            have HKeep : Hid (∀ W, Below wr.heap.size wr W → W.cell? ⟨w3.heap.size + 1, 0, none⟩ = some (.int .u64 (lh : Int)) ∧ W.cell? ⟨w3.heap.size + 1, 1, none⟩ = some (.int .u64 (ll : Int))) := Lib.hid (fun W hb => ⟨cell_next hb d0, cell_next hb d1⟩)
            have HKeepS : Hid (∀ W, Below wr.heap.size wr W → ∀ u v, ((W.setCell ⟨w.heap.size + 1 + 1, 0, none⟩ u).setCell ⟨w.heap.size + 1 + 1, 1, none⟩ v).cell? ⟨w3.heap.size + 1, 0, none⟩ = some (.int .u64 (lh : Int)) ∧ ((W.setCell ⟨w.heap.size + 1 + 1, 0, none⟩ u).setCell ⟨w.heap.size + 1 + 1, 1, none⟩ v).cell? ⟨w3.heap.size + 1, 1, none⟩ = some (.int .u64 (ll : Int))) := Lib.hid (fun W hb u v => by
              have hl := H3.out.res.2.2.2.2
              have h1 := box_other (i := 1) (b' := w.heap.size + 1 + 1) (box_other (i := 0) (b' := w.heap.size + 1 + 1) (hRw.bl.later hb) (by omega) u) (by omega) v
              rw [hlh, hll] at h1
              exact ⟨box_cell (i := 0) h1, box_cell (i := 1) h1⟩)
            have HRes : Hid (∀ W, Below wr.heap.size wr W → BndW w m (.slice ae ls.length ce) (.slice az zs.length cz) (.slice aw ws.length cw) on W) := Lib.hid (fun W hb => hRw.bnd.later hb)
            clear hRn hRw hk128 hlo hroot hlown hM1 hwr hres hwl hlh hll
            go_wp2_with fail
            go_region_held3 (fun W => W.cell? ⟨w3.heap.size + 1, 0, none⟩ = some (.int .u64 (lh : Int)) ∧ W.cell? ⟨w3.heap.size + 1, 1, none⟩ = some (.int .u64 (ll : Int)))
              (first | exact HKeep.out _ (later_refl _) | exact HKeep.out _ (later_drew _) | exact HKeep.out _ hbO | exact HKeep.out _ hbA | exact HKeepS.out _ hbA _ _ | assumption)
              (first
                | (go_at_call 51; refine (hAdd _).mono ?_; rintro e wA ⟨rfl, hA1⟩; have hbA : Below wr.heap.size wr wA := later_trans hbO hA1; obtain ⟨r0, r1, f0, f1, lr⟩ := (HRes.out _ hbA).res)
                | (go_at_call 32; refine (hOf _).mono ?_; rintro e wO ⟨rfl, hO1⟩; have hbO : Below wr.heap.size wr wO := later_trans (later_drew _) hO1))
            go_wp2_with fail
            rw [Exit.noGoto_ret]
            refine bodyPost_ret (v := .tuple #[.agg #[.int .u64 (rh : Int), .int .u64 (rl : Int)], .int .i64 0]) (by simp [results, Tryd.results12, go_sem, r0, r1]) rfl ?_
            exact ⟨by rw [HE.out], (HRes.out _ hbA).done _ _⟩
          | succ k =>
            have e1 : ((k + 1 : Nat) : Int) - 1 = (k : Int) := by omega
            rw [e1]
            obtain ⟨d0, d1, d2, d3, d4⟩ := two_of hRw.bl
            have hk127 : k ≤ 127 := by omega
            obtain ⟨lh, hlh⟩ : ∃ lh, low / 18446744073709551616 = lh := ⟨_, rfl⟩
            obtain ⟨ll, hll⟩ : ∃ ll, low % 18446744073709551616 = ll := ⟨_, rfl⟩
            rw [hlh] at d0
            rw [hll] at d1
            have HL := Lib.hid (And.intro hlh hll)
            obtain ⟨c0, c1, c2, c3, c4⟩ := hRw.bnd.cells
            have hn128 : low + 2 ^ k < 340282366920938463463374607431768211456 := by
              have h1 := (lt_split hRn.lt).1
              have hp : 0 < 2 ^ k := Nat.pow_pos (by decide)
              have h2 : (2 : Nat) ^ 128 = 340282366920938463463374607431768211456 := rfl
              omega
            have hlow : low < 340282366920938463463374607431768211456 := by have hp : 0 < 2 ^ k := Nat.pow_pos (by decide); omega
            have HM := Lib.hid hRn.mul
            have HN2 := Lib.hid (And.intro hn128 hlow)
            clear hRn hRw hk128 hlo hlh hll e1 d2 d3 hn128 hlow
            go_upto_if 72 with fail
            go_cut [] (fun wx => WB wx wr.heap.size (low + 2 ^ k) ∧ Below wr.heap.size wr wx)
            case first =>
              by_cases h63 : 63 < k
              · have h63I : (63 : Int) < k := by omega
                have HOr := Lib.hid (or_hi HM.out HN2.out.2 h63 hk127 HL.out.1 HL.out.2)
                go_wp2_with fail
                go_region
                rw [HOr.out.1, ← HOr.out.2]
                go_wp2_with fail
                go_meet
                exact ⟨box_new wr _ _, later_trans (later_alloc _ _) (later_drew _)⟩
              · have h63I : ¬ (63 : Int) < k := by omega
                have HOr := Lib.hid (or_lo HM.out (by omega) HL.out.1 HL.out.2)
                have hk63 : k ≤ 63 := by omega
                clear h63
                go_wp2_with fail
                go_region
                rw [HOr.out.1, ← HOr.out.2]
                go_wp2_with fail
                go_meet
                exact ⟨box_new wr _ _, later_trans (later_alloc _ _) (later_drew _)⟩
            case rest =>
              obtain ⟨hbn, hbx⟩ := hcut
              have HRc := Lib.hid (HRw.out.later hbx)
              have hPow := fun W hb => Power_any (low + 2 ^ k) on HN2.out.1 (by omega) W ((HSh.out.2.2.later HRc.out.bnd.bel).later hb)
              obtain ⟨c0, c1, c2, c3, c4⟩ := HRc.out.bnd.cells
              obtain ⟨nm, hnm⟩ : ∃ nm, low + 2 ^ k = nm := ⟨_, rfl⟩
              rw [hnm] at hbn hPow
              obtain ⟨mh, hmh⟩ : ∃ mh, nm / 18446744073709551616 = mh := ⟨_, rfl⟩
              obtain ⟨ml, hml⟩ : ∃ ml, nm % 18446744073709551616 = ml := ⟨_, rfl⟩
              unfold WB at hbn
              rw [hmh, hml] at hbn
              have hwvn : wv nm = .agg #[.int .u64 (mh : Int), .int .u64 (ml : Int)] := by unfold wv; rw [hmh, hml]
              rw [hwvn] at hPow
              obtain ⟨m0, m1, m2, m3, m4⟩ := two_of hbn
              have HNm := Lib.hid (And.intro hnm (And.intro hmh hml))
              have HBn := Lib.hid hbn
              clear hnm hmh hml hwvn hbn d0 d1 d4
              by_cases hpo : nm ^ on < 340282366920938463463374607431768211456
              · have hr : wres (nm ^ on) = .tuple #[wv (nm ^ on), .int .i64 0] := by unfold wres; rw [if_pos hpo]
                have hCm := fun W => Compare_any (nm ^ on) need hpo HN.out.1 W
                rw [hr] at hPow
                obtain ⟨ph, pl, hwp, -⟩ := wv_open (nm ^ on) hpo
                have hwn : wv need = .agg #[.int .u64 (nh : Int), .int .u64 (nl : Int)] := by unfold wv; rw [HN.out.2.1, HN.out.2.2.1]
                rw [hwp] at hPow hCm
                rw [hwn] at hCm
                have HPo := Lib.hid hPow
                have HCm := Lib.hid hCm
                clear hPow hCm hr hwp hwn hpo
                by_cases hless : nm ^ on < need
                · have hup := RootN.up HRn.out (by rw [HNm.out.1]; exact hless)
                  rw [cmpI_lt (by omega)] at HCm
                  have HUp := Lib.hid hup
                  clear hup hless
                  go_wp2_with fail
                  refine (HPo.out _ (Below.refl _ _)).mono ?_
                  rintro e w4 ⟨rfl, hb4⟩
                  have HR4 := Lib.hid (HRc.out.later hb4)
                  obtain ⟨n0, n1, -, -, -⟩ := two_of HR4.out.bn
                  rw [HN.out.2.1] at n0
                  rw [HN.out.2.2.1] at n1
                  have hbn4 := kept hb4 HBn.out
                  have ln4 := lt_of_block HR4.out.bn
                  have HB4 := Lib.hid hb4
                  clear hb4
                  go_wp2_with fail
                  refine (HCm.out _).mono ?_
                  rintro e w5 ⟨rfl, hb5⟩
                  have HR5 := Lib.hid (HR4.out.later (later_trans (later_alloc _ _) hb5))
                  obtain ⟨d0, d1, d2, d3, d4⟩ := two_of HR5.out.bl
                  obtain ⟨m0, m1, m2, m3, m4⟩ := two_of (kept hb5 (box_alloc hbn4 _))
                  clear hb5 hbn4
                  go_wp2_with fail
                  have hset := HR5.out.set (q := nm) H3.out.res.2.2.2.2
                  rw [HNm.out.2.1, HNm.out.2.2] at hset
                  have HSet := Lib.hid hset
                  clear hset
                  go_roundw
                  case rel => exact ⟨k, nm, rfl, by rw [← HNm.out.1]; exact HUp.out, HSet.out⟩
                  case measure => simp [intOf]; try omega
                · have hdn := RootN.down HRn.out (by rw [HNm.out.1]; exact hless)
                  obtain ⟨cq, hcq, hcq0⟩ : ∃ cq, cmpI ((nm ^ on : Nat) : Int) need = cq ∧ 0 ≤ cq := ⟨_, rfl, by
                    by_cases e : nm ^ on = need
                    · rw [cmpI_eq (by omega)]; decide
                    · rw [cmpI_gt (by omega)]; decide⟩
                  rw [hcq] at HCm
                  have HDn := Lib.hid hdn
                  clear hdn hless hcq
                  go_wp2_with fail
                  refine (HPo.out _ (Below.refl _ _)).mono ?_
                  rintro e w4 ⟨rfl, hb4⟩
                  have HR4 := Lib.hid (HRc.out.later hb4)
                  obtain ⟨n0, n1, -, -, -⟩ := two_of HR4.out.bn
                  rw [HN.out.2.1] at n0
                  rw [HN.out.2.2.1] at n1
                  have hbn4 := kept hb4 HBn.out
                  have ln4 := lt_of_block HR4.out.bn
                  have HB4 := Lib.hid hb4
                  clear hb4
                  go_wp2_with fail
                  refine (HCm.out _).mono ?_
                  rintro e w5 ⟨rfl, hb5⟩
                  have HR5 := Lib.hid (HR4.out.later (later_trans (later_alloc _ _) hb5))
                  clear hb5 hbn4
                  go_wp2_with fail
                  go_roundw
                  case rel => exact ⟨k, low, rfl, HDn.out, HR5.out⟩
                  case measure => simp [intOf]; try omega
              · have hr : wres (nm ^ on) = .tuple #[.agg #[.int .u64 0, .int .u64 0], .int .i64 110] := by unfold wres; rw [if_neg hpo]; rfl
                rw [hr] at hPow
                have hdn := RootN.down HRn.out (by rw [HNm.out.1]; have := HN.out.1; omega)
                have HPo := Lib.hid hPow
                have HDn := Lib.hid hdn
                clear hPow hr hpo hdn
                go_wp2_with fail
                refine (HPo.out _ (Below.refl _ _)).mono ?_
                rintro e w4 ⟨rfl, hb4⟩
                have HR4 := Lib.hid (HRc.out.later (later_trans hb4 (later_alloc _ (.cells #[.int .u64 0, .int .u64 0] 35))))
                clear hb4
                go_wp2_with fail
                go_roundw
                case rel => exact ⟨k, low, rfl, HDn.out, HR4.out⟩
                case measure => simp [intOf]; try omega
      · rw [if_neg hov] at hE
        have hr : wres need = .tuple #[.agg #[.int .u64 0, .int .u64 0], .int .i64 110] := by unfold wres; rw [if_neg hov]; rfl
        rw [hr] at HPr
        have HE : Hid (boundV ⟨m, ls, zs⟩ ⟨ws, o⟩ = .tuple #[.agg #[.int .u64 0, .int .u64 0], .int .i64 110]) := Lib.hid (by
          unfold boundV boundN
          rw [hE, if_neg (by decide)]; rfl)
        clear hr hov hE
        go_wp2_with fail
        refine HPr.out.mono ?_
        rintro e w3 ⟨rfl, hb3⟩
        have H3 := Lib.hid (hI.later hb3)
        obtain ⟨r0, r1, f0, f1, lr⟩ := H3.out.res
        clear hb3 hI
        go_wp2_with fail
        rw [Exit.noGoto_ret]
        refine bodyPost_ret (v := .tuple #[.agg #[.int .u64 0, .int .u64 0], .int .i64 110]) (by simp [results, Tryd.results12, go_sem, r0, r1, lr]) rfl ?_
        exact ⟨by rw [HE.out], (H3.out.done _ _).alloc (by have := H3.out.bel.size; simpa using this) _⟩

/-- plan.Bound. -/
theorem Bound_any (S : Shp) (c : Cov) (ev sv wv' : Value) (w : World) (h : ShR w ev sv S) (hw : SlI .i64 w wv' c.ws) (hO : One w) :
    Calls Tryd.prog 12 #[shpV S.many ev sv, covV wv' c.of] w fun e w' => e = .returned (boundV S c) ∧ Below w.heap.size w w' := by
  by_cases hok : shpB S = true
  · by_cases hcv : coversB S c = true
    · exact bound_yes S c ev sv wv' w h hw hO hok hcv
    · refine (bound_no2 S c ev sv wv' w h hw hok (Bool.eq_false_iff.2 hcv)).mono ?_
      rintro e w' ⟨rfl, hb⟩
      refine ⟨?_, hb⟩
      unfold boundV boundN boundE
      rw [if_pos hok, if_neg hcv, if_neg (by decide)]; rfl
  · refine (bound_no1 S c ev sv wv' w h hw (Bool.eq_false_iff.2 hok)).mono ?_
    rintro e w' ⟨rfl, hb⟩
    refine ⟨?_, hb⟩
    unfold boundV boundN boundE
    rw [if_neg hok, if_neg (by decide)]; rfl
end Go.Proofs.YtdmfhlfhlflakaaDoor
