/-
  HashedAll, walked: the join of all.
-/
import Derived.Deep.CutBlock
import Derived.Deep.DeepCutAuto
import Derived.Test.YtdeiinfljfgmeaaHaAl1
namespace Go.Proofs.Ytdeiinfljfgmeaa
open Go.RowKit
set_option linter.unusedVariables false
set_option linter.unusedSimpArgs false

set_option maxRecDepth 100000 in
set_option maxHeartbeats 8000000 in
theorem lawAll_any (v : Value) (Rs : List Rl) (w : World) (h : SlRl w v Rs) :
    Calls Try.prog 5 #[v] w fun e w' => e = .returned (.bool true) ∧ Below w.heap.size w w' := by
  obtain ⟨i0, hi, hz0, hz1, hz2⟩ := info_parts info_rel
  have H := Lib.hid h
  obtain ⟨a, cap, rfl, hlm, -⟩ := h
  obtain ⟨Ds, hDs⟩ : ∃ Ds, cuts Rs = Ds := ⟨_, rfl⟩
  have HD := Lib.hid hDs
  clear hDs
  go_enter Try.func5, Try.ntmps5
  go_wp2_with fail
  refine (wakes_any w).mono ?_
  rintro e W1 ⟨rfl, b1⟩
  have HB1 := Lib.hid b1
  clear b1
  go_wp2_with fail
  refine (One_any W1).mono ?_
  rintro e W2 ⟨u1, u2, rfl, hO, b2⟩
  obtain ⟨p1, k1, p2, k2, rfl, rfl⟩ := hO.shape
  have hsm := cuts_small Rs
  rw [HD.out] at hsm
  obtain ⟨W3, hW3⟩ : ∃ W, W = W2.alloc (.cells #[.slice p1 oneL.vars.length k1, .slice p2 oneL.rows.length k2] 25) := ⟨_, rfl⟩
  have b3 : Below W2.heap.size W2 W3 := by rw [hW3]; exact later_alloc _ _
  have hX : RB W3 W2.heap.size (.slice p1 oneL.vars.length k1) (.slice p2 oneL.rows.length k2) := by rw [hW3]; exact box_new _ _ _
  have hb12 := later_trans HB1.out b2
  have H3 := Lib.hid (And.intro b3 (And.intro hX (And.intro ((hO.down HB1.out.size).later b3) (And.intro hb12 hsm))))
  clear b2 hO b3 hX hb12 hsm
  have hmx : Rs.length ≤ 9223372036854775807 := hlm
  go_upto_block 0 with fail
  rw [← hW3]
  clear hW3
  go_cut [3, 5] (fun s3 s5 wx => ∃ (es : List (Value × Value × Rl)) (q : Bool) (n1 n2 : Option Addr) (l1 m1 l2 m2 : Nat), okTo Ds Ds.length = q ∧ s5 = .int .i64 (bif q then 0 else 350) ∧ OwnRs (W2.heap.size + 1) wx s3 es ∧ es.map (fun p => p.2.2) = Ds ∧ RB wx W2.heap.size (.slice n1 l1 m1) (.slice n2 l2 m2) ∧ (q = true → OwnRl w.heap.size wx (.slice n1 l1 m1) (.slice n2 l2 m2) (allTo Ds Ds.length)) ∧ Below W2.heap.size W2 wx)
  case first =>
    have hDl : Ds.length = min 4 Rs.length := by rw [← HD.out]; exact cuts_len Rs
    have HDl := Lib.hid hDl
    clear hDl
    go_wp2_with fail
    go_loopw [3, 5, 15] (fun v n i wr => ∃ (k : Nat) (es : List (Value × Value × Rl)) (q : Bool) (n1 n2 : Option Addr) (l1 m1 l2 m2 : Nat), k ≤ Rs.length ∧ k ≤ 4 ∧ i = .int .i64 k ∧ okTo Ds k = q ∧ n = .int .i64 (bif q then 0 else 350) ∧ OwnRs (W2.heap.size + 1) wr v es ∧ es.map (fun p => p.2.2) = Ds.take k ∧ RB wr W2.heap.size (.slice n1 l1 m1) (.slice n2 l2 m2) ∧ (q = true → OwnRl w.heap.size wr (.slice n1 l1 m1) (.slice n2 l2 m2) (allTo Ds k)) ∧ Below W2.heap.size W2 wr) (fun v n i _ => Rs.length - (intOf i).toNat)
    case atStart => exact ⟨0, [], true, _, _, _, _, _, _, Nat.zero_le _, Nat.zero_le _, rfl, rfl, rfl, OwnRs.nil, rfl, H3.out.2.1, fun _ => H3.out.2.2.1, H3.out.1⟩
    case round =>
      obtain ⟨k, es, q, n1, n2, l1, m1, l2, m2, hk, hk4, rfl, hq, rfl, hE, hes, hX, hW, hb⟩ := hrel
      obtain ⟨a3, c3, rfl⟩ := owns_shape2 hE.own
      have hbw := later_trans H3.out.2.2.2.1 hb
      by_cases hlt : k < Rs.length
      · obtain ⟨_, _, q1, -, g4⟩ := H.out.later hbw
        obtain ⟨be, oe, q2, gc⟩ := g4 (by omega)
        obtain ⟨vv, rv, ce0, ce1, hrl⟩ := gc k hlt
        injection q1 with q1a q1b q1c
        subst q1a
        subst q2
        obtain ⟨av, cv, rfl, -⟩ := hrl.vars.open
        obtain ⟨ar, cr, rfl, -⟩ := hrl.rows.open
        by_cases h4 : k = 4
        · have hki : ((k : Int) == 4) = true := by rw [beq_iff_eq]; omega
          have hkD : k = Ds.length := by have := HDl.out; omega
          have HF := Lib.hid (And.intro hE (And.intro (show es.map (fun p => p.2.2) = Ds by rw [hes, hkD, List.take_length]) (And.intro hX (And.intro (show q = true → OwnRl w.heap.size wr (.slice n1 l1 m1) (.slice n2 l2 m2) (allTo Ds Ds.length) by rw [← hkD]; exact hW) (And.intro hb (show okTo Ds Ds.length = q by rw [← hkD]; exact hq))))))
          clear hE hes hX hW hb hbw gc g4 hrl q1b q1c hq hkD h4
          go_wp2_with fail
          go_meet
          exact ⟨es, q, n1, n2, l1, m1, l2, m2, HF.out.2.2.2.2.2, rfl, HF.out.1.later (later_alloc _ _), HF.out.2.1, box_alloc HF.out.2.2.1 _, fun h => (HF.out.2.2.2.1 h).later (later_alloc _ _), later_trans HF.out.2.2.2.2.1 (later_alloc _ _)⟩
        · have hki : ((k : Int) == 4) = false := by rw [beq_eq_false_iff_ne]; omega
          have h44 : k < 4 := by omega
          have hkD : k < Ds.length := by have := HDl.out; omega
          have hc6 : relN Ds k = cut6 (relN Rs k) := by rw [← HD.out]; exact cuts_at hlt h44
          obtain ⟨W4, hW4⟩ : ∃ W, W = wr.alloc (.cells #[.slice av (relN Rs k).vars.length cv, .slice ar (relN Rs k).rows.length cr] 25) := ⟨_, rfl⟩
          have b4 : Below wr.heap.size wr W4 := by rw [hW4]; exact later_alloc _ _
          have hB7 : RB W4 wr.heap.size (.slice av (relN Rs k).vars.length cv) (.slice ar (relN Rs k).rows.length cr) := by rw [hW4]; exact box_new _ _ _
          have hOw := ownR_any _ _ (relN Rs k) W4 (hrl.later b4)
          have HOw := Lib.hid hOw
          obtain ⟨x0, x1, lX⟩ := two_of2 hB7
          have HF := Lib.hid (And.intro hE (And.intro hes (And.intro hX (And.intro hW (And.intro hb (And.intro hq (And.intro b4 (And.intro hB7 (And.intro hkD hc6)))))))))
          clear hE hes hX hW hb hbw gc g4 hrl q1b q1c hq hkD b4 hB7 hOw hc6
          go_upto_region 9 with fail
          rw [← hW4]
          clear hW4
          go_wp2_with fail
          refine HOw.out.mono ?_
          rintro e W5 ⟨o1, o2, rfl, hO5, b5⟩
          clear x0 x1 lX
          obtain ⟨C, hC⟩ : ∃ C, cutL (relN Rs k) = C := ⟨_, rfl⟩
          rw [hC] at hO5
          have hcl : C.rows.length ≤ 20 := by rw [← hC]; show ((relN Rs k).rows.take 20 |>.map _).length ≤ 20; rw [List.length_map, List.length_take]; omega
          obtain ⟨a1, c1, a2, c2, rfl, rfl⟩ := hO5.shape
          obtain ⟨_, _, e2, hcc, -⟩ := hO5.rlR.rows.open
          injection e2 with e2a e2b e2c
          subst e2c
          obtain ⟨q6, hq6⟩ : ∃ x, min C.rows.length 6 = x := ⟨_, rfl⟩
          have hmi : min (C.rows.length : Int) 6 = (q6 : Int) := by omega
          have hqc : q6 ≤ c2 := by omega
          have hB5 := kept b5 HF.out.2.2.2.2.2.2.2.1
          obtain ⟨x0, x1, lX⟩ := two_of2 hB5
          have fX0 := box_frozen (i := 0) hB5
          have fX1 := box_frozen (i := 1) hB5
          have HG := Lib.hid (And.intro hO5 (And.intro b5 (And.intro hB5 (And.intro hC (And.intro hq6 hcl)))))
          clear hO5 b5 hB5 hC e2a e2b hcc hq6
          go_upto_region 11 with fail
          obtain ⟨W7, hW7⟩ : ∃ W, W = ((W5.setCell ⟨wr.heap.size, 0, none⟩ (.slice a1 C.vars.length c1)).setCell ⟨wr.heap.size, 1, none⟩ (.slice a2 C.rows.length c2)).setCell ⟨wr.heap.size, 1, none⟩ (.slice a2 q6 c2) := ⟨_, rfl⟩
          have hb5 := later_trans HF.out.2.2.2.2.2.2.1 HG.out.2.1
          have hX1 := box_set (i := 0) HG.out.2.2.1 (.slice a1 C.vars.length c1)
          have hX2 := box_set (i := 1) hX1 (.slice a2 C.rows.length c2)
          have hb7 : Below wr.heap.size wr W7 := by rw [hW7]; exact below_set (below_set (below_set hb5 (Nat.le_refl _)) (Nat.le_refl _)) (Nat.le_refl _)
          have hB7 : RB W7 wr.heap.size (.slice a1 C.vars.length c1) (.slice a2 q6 c2) := by rw [hW7]; simpa [RB] using box_set (i := 1) hX2 (.slice a2 q6 c2)
          have hne4 : W2.heap.size ≠ wr.heap.size := by have := lt_of_block HF.out.2.2.1; omega
          have hX7 : RB W7 W2.heap.size (.slice n1 l1 m1) (.slice n2 l2 m2) := by rw [hW7]; exact box_other (i := 1) (box_other (i := 1) (box_other (i := 0) (kept hb5 HF.out.2.2.1) hne4 _) hne4 _) hne4 _
          have st : ∀ {base : Nat} {x1 x2 : Value} {T : Rl}, OwnRl base W5 x1 x2 T → OwnRl base W7 x1 x2 T := fun hq => by rw [hW7]; exact ((hq.set (i := 0) HG.out.2.2.1 _).set (i := 1) hX1 _).set (i := 1) hX2 _
          have hc6 : (⟨C.vars, C.rows.take q6⟩ : Rl) = relN Ds k := by
            rw [HF.out.2.2.2.2.2.2.2.2.2]
            show _ = (⟨(cutL (relN Rs k)).vars, (cutL (relN Rs k)).rows.take 6⟩ : Rl)
            rw [HG.out.2.2.2.1]
            congr 1
            rw [← HG.out.2.2.2.2.1, Nat.min_comm, ← List.take_take, List.take_of_length_le (l := C.rows) (Nat.le_refl _)]
          have hO7 : OwnRl (W2.heap.size + 1) W7 (.slice a1 C.vars.length c1) (.slice a2 q6 c2) (relN Ds k) := by
            rw [← hc6]
            exact (st (HG.out.1.cut rfl (by have := HG.out.2.2.2.2.1; omega))).down (Nat.le_trans (lt_of_block HF.out.2.2.1) HF.out.2.2.2.2.2.2.1.size)
          have hnb : ∀ g, (Value.slice a3 es.length c3).ownBlock = some g → g ≠ wr.heap.size := fun g hg => by have := (HF.out.1.own.lt g hg).2; omega
          have hE7 : OwnRs (W2.heap.size + 1) W7 (.slice a3 es.length c3) es := by
            rw [hW7]
            exact (((HF.out.1.later hb5).setB (i := 0) HG.out.2.2.1 hnb _).setB (i := 1) hX1 hnb _).setB (i := 1) hX2 hnb _
          have hw7 : q = true → OwnRl w.heap.size W7 (.slice n1 l1 m1) (.slice n2 l2 m2) (allTo Ds k) := fun h => st ((HF.out.2.2.2.1 h).later hb5)
          have hel : es.length ≤ 4 := by
            have h1 := congrArg List.length HF.out.2.1
            rw [List.length_map, List.length_take] at h1
            omega
          have hs7 := Nat.le_trans (lt_of_block HF.out.2.2.1) hb7.size
          clear x0 x1 lX fX0 fX1
          obtain ⟨y0, y1, lY⟩ := two_of2 hB7
          have HK := Lib.hid (And.intro hb7 (And.intro hB7 (And.intro hX7 (And.intro hO7 (And.intro hE7 (And.intro hw7 (And.intro hnb hs7)))))))
          rw [← hW7]
          clear hW7 hb5 hX1 hX2 hb7 hB7 hne4 hX7 hc6 hO7 hnb hE7 hw7
          clear st
          go_upto_region 12 with (at_builtin; refine wpList_append_own _ rfl (.tmp 32) (.tmp 34) 44 rfl (W2.heap.size + 1) 25 i0 _ 2 48 Try.underlying44 hi hz0 hz1 hz2 rfl (by decide) _ _ _ rfl (HK.out.2.2.2.2.1.own.alloc _) ⟨W7.heap.size, 0, none⟩ 1 1 [(.slice a1 C.vars.length c1), (.slice a2 q6 c2)] rfl rfl (cells_new _ _ _) (by simp [Value.oneCell']) (by unfold maxLen; omega) (by omega) (by simp; omega) ?_; intro v6 w6 hown6 hgrow6 _)
          have hoA := HK.out.2.2.2.2.1.own.alloc (.cells #[(.slice a1 C.vars.length c1), (.slice a2 q6 c2)] 25)
          have bA := later_alloc W7 (.cells #[(.slice a1 C.vars.length c1), (.slice a2 q6 c2)] 25)
          have hE6 := OwnRs.next HK.out.2.2.2.2.1 HK.out.2.2.2.1 hown6 hgrow6
          have hO6 := (HK.out.2.2.2.1.later bA).grown hoA hgrow6
          have hw6 : q = true → OwnRl w.heap.size w6 (.slice n1 l1 m1) (.slice n2 l2 m2) (allTo Ds k) := fun h => ((HK.out.2.2.2.2.2.1 h).later bA).grown hoA hgrow6
          have hB6 : RB w6 wr.heap.size (.slice a1 C.vars.length c1) (.slice a2 q6 c2) := (hgrow6.block _ (lt_of_block (box_alloc HK.out.2.1 (.cells #[(.slice a1 C.vars.length c1), (.slice a2 q6 c2)] 25))) (fun e => HK.out.2.2.2.2.2.2.1 _ e.symm rfl)).trans (box_alloc HK.out.2.1 (.cells #[(.slice a1 C.vars.length c1), (.slice a2 q6 c2)] 25))
          have hX6 : RB w6 W2.heap.size (.slice n1 l1 m1) (.slice n2 l2 m2) := (hgrow6.block _ (lt_of_block (box_alloc HK.out.2.2.1 (.cells #[(.slice a1 C.vars.length c1), (.slice a2 q6 c2)] 25))) (fun e => by have := owns_above HK.out.2.2.2.2.1.own _ e.symm; omega)).trans (box_alloc HK.out.2.2.1 (.cells #[(.slice a1 C.vars.length c1), (.slice a2 q6 c2)] 25))
          have hb6 : Below W2.heap.size W2 w6 := (later_trans (later_trans HF.out.2.2.2.2.1 HK.out.1) bA).grown hgrow6 (by simp; omega) (fun j e => by have := owns_above HK.out.2.2.2.2.1.own j e; omega)
          have hes6 : (es ++ [(Value.slice a1 C.vars.length c1, Value.slice a2 q6 c2, relN Ds k)]).map (fun p => p.2.2) = Ds.take (k + 1) := by
            rw [List.map_append, HF.out.2.1, List.take_succ_eq_append_getElem HF.out.2.2.2.2.2.2.2.2.1, ← relN_at HF.out.2.2.2.2.2.2.2.2.1]
            rfl
          have hok := okTo_succ (Ds := Ds) HF.out.2.2.2.2.2.2.2.2.1
          rw [HF.out.2.2.2.2.2.1] at hok
          obtain ⟨g6, cap6, rfl⟩ := ownsRow_succ hown6
          have hRi := Right_any _ _ (relN Ds k) w6 hO6.rlR
          obtain ⟨rr, hrr⟩ : ∃ b, rightB (relN Ds k) = b := ⟨_, rfl⟩
          rw [hrr] at hRi hok
          have HRi := Lib.hid hRi
          have HM := Lib.hid (And.intro hE6 (And.intro hO6 (And.intro hw6 (And.intro hB6 (And.intro hX6 (And.intro hb6 (And.intro hes6 (And.intro hok hrr))))))))
          clear hoA bA hE6 hO6 hw6 hX6 hb6 hes6 hok hrr hRi hown6 hgrow6 y0 y1 lY
          obtain ⟨x0, x1, lX⟩ := two_of2 hB6
          clear hB6
          cases q with
          | false =>
            simp only [cond_false]
            go_wp2_with fail
            go_roundw
            case rel => exact ⟨k + 1, _, false, n1, n2, l1, m1, l2, m2, by omega, by omega, by go_num, HM.out.2.2.2.2.2.2.2.1, rfl, HM.out.1, HM.out.2.2.2.2.2.2.1, HM.out.2.2.2.2.1, (fun h => by cases h), HM.out.2.2.2.2.2.1⟩
            case measure => simp [intOf]; omega
          | true =>
            simp only [cond_true]
            have hcj : (k : Nat) ≤ Ds.length := Nat.le_of_lt HF.out.2.2.2.2.2.2.2.2.1
            cases rr with
            | false =>
              go_wp2_with fail
              refine HRi.out.mono ?_
              rintro e w8 ⟨rfl, b8⟩
              have HM8 := Lib.hid (And.intro (HM.out.1.later b8) (And.intro (kept b8 HM.out.2.2.2.2.1) (later_trans HM.out.2.2.2.2.2.1 b8)))
              clear b8
              go_wp2_with fail
              go_roundw
              case rel => exact ⟨k + 1, _, false, n1, n2, l1, m1, l2, m2, by omega, by omega, by go_num, HM.out.2.2.2.2.2.2.2.1, rfl, HM8.out.1, HM.out.2.2.2.2.2.2.1, HM8.out.2.1, (fun h => by cases h), HM8.out.2.2⟩
              case measure => simp [intOf]; omega
            | true =>
              have hrA := allTo_right H3.out.2.2.2.2 k hcj (fun j hj => okTo_at HF.out.2.2.2.2.2.1 hj hcj)
              have hft := allTo_fits H3.out.2.2.2.2 HF.out.2.2.2.2.2.2.2.2.1
              have HA := Lib.hid (And.intro hrA hft)
              clear hrA hft hcj
              go_wp2_with fail
              refine HRi.out.mono ?_
              rintro e w8 ⟨rfl, b8⟩
              clear x0 x1 lX
              have hX8 := kept b8 HM.out.2.2.2.2.1
              obtain ⟨x0, x1, lX⟩ := two_of2 hX8
              obtain ⟨y0, y1, lY⟩ := two_of2 (kept b8 HM.out.2.2.2.1)
              have hwA := (HM.out.2.2.1 (by trivial)).later b8
              have hrB := HM.out.2.1.later b8
              have hJ := JoinRf_any _ _ _ _ (allTo Ds k) (relN Ds k) w8 hwA.rlR hrB.rlR (rightB_at HA.out.1).1 (rightB_at HM.out.2.2.2.2.2.2.2.2).1 (by have := HA.out.2.1; omega) HA.out.2.2
              rw [refJ_eq (Ok.of HA.out.1 (U64.of hwA.rlR)) (Ok.of HM.out.2.2.2.2.2.2.2.2 (U64.of hrB.rlR)), ← allTo_succ HF.out.2.2.2.2.2.2.2.2.1] at hJ
              have HJ := Lib.hid hJ
              have HM8 := Lib.hid (And.intro (HM.out.1.later b8) (And.intro hX8 (later_trans HM.out.2.2.2.2.2.1 b8)))
              clear b8 hX8 hwA hrB hJ
              go_wp2_with fail
              refine HJ.out.mono ?_
              rintro e w9 ⟨j1, j2, rfl, hJ9, b9⟩
              obtain ⟨f1, d1, f2, d2, rfl, rfl⟩ := hJ9.shape
              clear x0 x1 lX y0 y1 lY
              have hX9 := kept b9 HM8.out.2.1
              obtain ⟨x0, x1, lX⟩ := two_of2 hX9
              have fX0 := box_frozen (i := 0) hX9
              have fX1 := box_frozen (i := 1) hX9
              have hX10 := box_set (i := 0) hX9 (.slice f1 (allTo Ds (k + 1)).vars.length d1)
              have hbw9 : w.heap.size ≤ w8.heap.size := by
                have h1 := H3.out.2.2.2.1.size
                have h2 := HM8.out.2.2.size
                omega
              have hne6 : ∀ g, (Value.slice (some ⟨g6, 0, none⟩) (es.length + 1) cap6).ownBlock = some g → g ≠ W2.heap.size := fun g hg => by
                have h1 : (es ++ [(Value.slice a1 C.vars.length c1, Value.slice a2 q6 c2, relN Ds k)]).length = es.length + 1 := by simp
                have := owns_above HM8.out.1.own g hg
                omega
              have HN := Lib.hid (And.intro (((HM8.out.1.later b9).setB (i := 0) hX9 hne6 (.slice f1 (allTo Ds (k + 1)).vars.length d1)).setB (i := 1) hX10 hne6 (.slice f2 (allTo Ds (k + 1)).rows.length d2)) (And.intro (show RB ((w9.setCell ⟨W2.heap.size, 0, none⟩ (.slice f1 (allTo Ds (k + 1)).vars.length d1)).setCell ⟨W2.heap.size, 1, none⟩ (.slice f2 (allTo Ds (k + 1)).rows.length d2)) W2.heap.size (.slice f1 (allTo Ds (k + 1)).vars.length d1) (.slice f2 (allTo Ds (k + 1)).rows.length d2) by simpa [RB] using box_set (i := 1) hX10 (.slice f2 (allTo Ds (k + 1)).rows.length d2)) (And.intro (((hJ9.down hbw9).set (i := 0) hX9 (.slice f1 (allTo Ds (k + 1)).vars.length d1)).set (i := 1) hX10 (.slice f2 (allTo Ds (k + 1)).rows.length d2)) (below_set (i := 1) (u := (.slice f2 (allTo Ds (k + 1)).rows.length d2)) (below_set (i := 0) (u := (.slice f1 (allTo Ds (k + 1)).vars.length d1)) (later_trans HM8.out.2.2 b9) (Nat.le_refl _)) (Nat.le_refl _)))))
              clear hX9 hX10 hbw9 hne6 b9 hJ9
              go_wp2_with fail
              go_roundw
              case rel => exact ⟨k + 1, _, true, _, _, _, _, _, _, by omega, by omega, by go_num, HM.out.2.2.2.2.2.2.2.1, rfl, HN.out.1, HM.out.2.2.2.2.2.2.1, HN.out.2.1, fun _ => HN.out.2.2.1, HN.out.2.2.2⟩
              case measure => simp [intOf]; omega
      · obtain rfl : k = Rs.length := by omega
        have hkD : Rs.length = Ds.length := by have := HDl.out; omega
        have HF := Lib.hid (And.intro hE (And.intro (show es.map (fun p => p.2.2) = Ds by rw [hes, hkD, List.take_length]) (And.intro hX (And.intro (show q = true → OwnRl w.heap.size wr (.slice n1 l1 m1) (.slice n2 l2 m2) (allTo Ds Ds.length) by rw [← hkD]; exact hW) (And.intro hb (show okTo Ds Ds.length = q by rw [← hkD]; exact hq))))))
        clear hE hes hX hW hb hbw hq hkD
        go_wp2_with fail
        go_meet
        exact ⟨es, q, n1, n2, l1, m1, l2, m2, HF.out.2.2.2.2.2, rfl, HF.out.1, HF.out.2.1, HF.out.2.2.1, HF.out.2.2.2.1, HF.out.2.2.2.2.1⟩
  case rest =>
    obtain ⟨es, q, n1, n2, l1, m1, l2, m2, hq, rfl, hE, hes, hX, hW, hb⟩ := hcut
    obtain ⟨a3, c3, rfl⟩ := owns_shape2 hE.own
    have hall : Ds.all rightB = q := by rw [← hq]; unfold okTo; rw [List.take_length]
    refine ‹∀ (a : Act) (w_1 : World), _ → _› _ _ ?_
    cases q with
    | true =>
      simp only [cond_true]
      have hs := hE.slRl
      rw [hes] at hs
      have hA := All_any _ Ds wc hs H3.out.2.2.2.2
      have HA := Lib.hid hA
      have HF := Lib.hid (And.intro (hW (by trivial)) (And.intro hX (And.intro (later_trans H3.out.2.2.2.1 hb) hall)))
      clear hE hes hX hW hb hall hs hA hq
      go_wp2_with fail
      refine HA.out.mono ?_
      rintro e W5 ⟨b5, v1, v2, no, rfl, hR⟩
      obtain ⟨rfl, hO⟩ := hR.ok HF.out.2.2.2
      obtain ⟨f1, d1, f2, d2, rfl, rfl⟩ := hO.shape
      obtain ⟨W6, hW6⟩ : ∃ W, W = W5.alloc (.cells #[.slice f1 (allTo Ds Ds.length).vars.length d1, .slice f2 (allTo Ds Ds.length).rows.length d2] 25) := ⟨_, rfl⟩
      have b6 : Below W5.heap.size W5 W6 := by rw [hW6]; exact later_alloc _ _
      have hB6 : RB W6 W5.heap.size (.slice f1 (allTo Ds Ds.length).vars.length d1) (.slice f2 (allTo Ds Ds.length).rows.length d2) := by rw [hW6]; exact box_new _ _ _
      have hX6 := kept (later_trans b5 b6) HF.out.2.1
      have hSm := SameR_any _ _ _ _ (allTo Ds Ds.length) (allTo Ds Ds.length) W6 (hO.rlR.later b6) (HF.out.1.rlR.later (later_trans b5 b6))
      rw [decide_eq_true rfl] at hSm
      have HSm := Lib.hid hSm
      obtain ⟨x0, x1, lX⟩ := two_of2 hX6
      obtain ⟨y0, y1, lY⟩ := two_of2 hB6
      have HB := Lib.hid (later_trans HF.out.2.2.1 (later_trans b5 b6))
      clear hO hR b5 b6 hB6 hX6 hSm
      go_upto_region 20 with fail
      rw [← hW6]
      clear hW6
      go_wp2_with fail
      refine HSm.out.mono ?_
      rintro e W7 ⟨rfl, b7⟩
      have HB7 := Lib.hid (later_trans HB.out b7)
      clear b7
      go_wp2_with fail
      go_ret
      exact ⟨rfl, HB7.out⟩
    | false =>
      simp only [cond_false]
      obtain ⟨x0, x1, lX⟩ := two_of2 hX
      have fX0 := box_frozen (i := 0) hX
      have fX1 := box_frozen (i := 1) hX
      have hX1 := box_set (i := 0) hX (.slice none 0 0)
      have hne : ∀ g, (Value.slice a3 es.length c3).ownBlock = some g → g ≠ W2.heap.size := fun g hg => by have := owns_above hE.own g hg; omega
      obtain ⟨W4, hW4⟩ : ∃ W, W = (wc.setCell ⟨W2.heap.size, 0, none⟩ (.slice none 0 0)).setCell ⟨W2.heap.size, 1, none⟩ (.slice none 0 0) := ⟨_, rfl⟩
      have hX4 : RB W4 W2.heap.size (.slice none 0 0) (.slice none 0 0) := by rw [hW4]; simpa [RB] using box_set (i := 1) hX1 (.slice none 0 0)
      have hE4 : OwnRs (W2.heap.size + 1) W4 (.slice a3 es.length c3) es := by rw [hW4]; exact (hE.setB (i := 0) hX hne _).setB (i := 1) hX1 hne _
      have hb4 : Below W2.heap.size W2 W4 := by rw [hW4]; exact below_set (below_set hb (Nat.le_refl _)) (Nat.le_refl _)
      have hs := hE4.slRl
      rw [hes] at hs
      have hA := All_any _ Ds W4 hs H3.out.2.2.2.2
      have HA := Lib.hid hA
      have HF := Lib.hid (And.intro hX4 (And.intro (later_trans H3.out.2.2.2.1 hb4) hall))
      clear hE hes hX hW hb hall hs hA hq hX1 hne hX4 hE4 hb4
      go_upto_region 19 with fail
      rw [← hW4]
      clear hW4 x0 x1 lX fX0 fX1
      go_wp2_with fail
      refine HA.out.mono ?_
      rintro e W5 ⟨b5, v1, v2, no, rfl, hR⟩
      obtain ⟨rfl, rfl, rfl⟩ := hR.wrong HF.out.2.2
      obtain ⟨W6, hW6⟩ : ∃ W, W = W5.alloc (.cells #[.slice none 0 0, .slice none 0 0] 25) := ⟨_, rfl⟩
      have b6 : Below W5.heap.size W5 W6 := by rw [hW6]; exact later_alloc _ _
      have hB6 : RB W6 W5.heap.size (.slice none 0 0) (.slice none 0 0) := by rw [hW6]; exact box_new _ _ _
      have hX6 := kept (later_trans b5 b6) HF.out.1
      have hSm := SameR_any _ _ _ _ nilL nilL W6 (nil_rlR W6) (nil_rlR W6)
      rw [decide_eq_true rfl] at hSm
      have HSm := Lib.hid hSm
      obtain ⟨x0, x1, lX⟩ := two_of2 hX6
      obtain ⟨y0, y1, lY⟩ := two_of2 hB6
      have HB := Lib.hid (later_trans HF.out.2.1 (later_trans b5 b6))
      clear hR b5 b6 hB6 hX6 hSm
      go_upto_region 20 with fail
      rw [← hW6]
      clear hW6
      go_wp2_with fail
      refine HSm.out.mono ?_
      rintro e W7 ⟨rfl, b7⟩
      have HB7 := Lib.hid (later_trans HB.out b7)
      clear b7
      go_wp2_with fail
      go_ret
      exact ⟨rfl, HB7.out⟩
end Go.Proofs.Ytdeiinfljfgmeaa
