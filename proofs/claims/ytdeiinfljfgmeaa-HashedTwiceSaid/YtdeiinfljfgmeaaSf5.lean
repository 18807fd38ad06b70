/-
  slices.SortFunc by a function value whose first arguments are bound: the walks of the shelf, turned. (Printed by mksortf.py.)
-/
import Derived.Test.YtdeiinfljfgmeaaSf2
import Derived.Test.YtdeiinfljfgmeaaSf3
import Derived.Test.YtdeiinfljfgmeaaSf4
import Derived.Shelf.SlSortCmp.Pdq1
import Derived.Shelf.SlSortCmp.Whole1
namespace Go.Proofs.Ytdeiinfljfgmeaa
open Go.Proofs
section
open Go.Shelf Go.RowKit Go.Lib Go.Sort
variable {P : Program} {ρ : Ren} {α : Type} [Inhabited α]

set_option maxHeartbeats 25600000 in
set_option maxRecDepth 1000000 in
theorem Any.pdqsortCmpFunc_all (L : SlLaysF.n14 P ρ) (enc : α → Value) (cf : α → α → Int) (g : Nat) (fv : Value) (hO : SWO (ltOf cf)) (blk off cap : Nat) (d0 : Array α) (w0 : World)
    (eg : ∀ args w, (callFunc g args).run P w = .ok (.enter g args) w) (hcmp : CmpLays1 P g fv enc cf blk off d0.size w0) (R : Row1 enc w0 blk off d0) :
    ∀ (N a b limit : Nat) (d : Array α) (w : World), b - a < N → d0.size = d.size → SW enc w0 blk off d w → a ≤ b → b ≤ d.size → d.size < 4611686018427387904 → limit < 4611686018427387904 → Below (ltOf cf) a b d →
    Calls P (ρ.f 14) #[.slice (some ⟨blk, off, none⟩) d.size cap, .int .i64 a, .int .i64 b, .int .i64 limit, .func (.func g) #[fv] #[]] w fun e w' => e = .returned (.tuple #[]) ∧ SW enc w0 blk off (pdq (ltOf cf) d a b limit true true) w' := by
  have mixed := L.mixed; have t0 := L.t0; have a0 := L.a0; have z0 := L.z0; have v0 := L.v0; have t3 := L.t3; have a3 := L.a3; have z3 := L.z3; have v3 := L.v3; have t4 := L.t4; have a4 := L.a4; have z4 := L.z4; have v4 := L.v4; have t5 := L.t5; have a5 := L.a5; have z5 := L.z5; have v5 := L.v5; have t9 := L.t9; have a9 := L.a9; have z9 := L.z9; have v9 := L.v9; have t22 := L.t22; have a22 := L.a22; have z22 := L.z22; have v22 := L.v22; have t25 := L.t25; have a25 := L.a25; have z25 := L.z25; have v25 := L.v25; have t39 := L.t39; have a39 := L.a39; have z39 := L.z39; have v39 := L.v39; have t45 := L.t45; have a45 := L.a45; have z45 := L.z45; have v45 := L.v45; have t46 := L.t46; have a46 := L.a46; have z46 := L.z46; have v46 := L.v46; have t50 := L.t50; have a50 := L.a50; have z50 := L.z50; have v50 := L.v50; have t53 := L.t53; have a53 := L.a53; have z53 := L.z53; have v53 := L.v53; have t55 := L.t55; have a55 := L.a55; have z55 := L.z55; have v55 := L.v55; have t66 := L.t66; have a66 := L.a66; have z66 := L.z66; have v66 := L.v66; have t70 := L.t70; have a70 := L.a70; have z70 := L.z70; have v70 := L.v70; have t76 := L.t76; have a76 := L.a76; have z76 := L.z76; have v76 := L.v76; have t77 := L.t77; have a77 := L.a77; have z77 := L.z77; have v77 := L.v77
  have a24 := L.a24; have z24 := L.z24
  have u22 := run_underlying L.t22
  have hcl0 := R.hO.cells
  simp only [Value.cells] at hcl0
  have hst := R.hO.store P
  obtain ⟨_, _, FG⟩ := L.f14
  have e20 : ∀ args w, (callFunc (ρ.f 20) args).run P w = .ok (.enter (ρ.f 20) args) w := L.f20.enters rfl
  have e21 : ∀ args w, (callFunc (ρ.f 21) args).run P w = .ok (.enter (ρ.f 21) args) w := L.f21.enters rfl
  have e22 : ∀ args w, (callFunc (ρ.f 22) args).run P w = .ok (.enter (ρ.f 22) args) w := L.f22.enters rfl
  have e23 : ∀ args w, (callFunc (ρ.f 23) args).run P w = .ok (.enter (ρ.f 23) args) w := L.f23.enters rfl
  have e24 : ∀ args w, (callFunc (ρ.f 24) args).run P w = .ok (.enter (ρ.f 24) args) w := L.f24.enters rfl
  have e25 : ∀ args w, (callFunc (ρ.f 25) args).run P w = .ok (.enter (ρ.f 25) args) w := L.f25.enters rfl
  have e26 : ∀ args w, (callFunc (ρ.f 26) args).run P w = .ok (.enter (ρ.f 26) args) w := L.f26.enters rfl
  have e27 : ∀ args w, (callFunc (ρ.f 27) args).run P w = .ok (.enter (ρ.f 27) args) w := L.f27.enters rfl
  have e14 : ∀ args w, (callFunc (ρ.f 14) args).run P w = .ok (.enter (ρ.f 14) args) w := L.f14.enters rfl
  intro N
  induction N with
  | zero => intro _ _ _ _ _ h; exact absurd h (Nat.not_lt_zero _)
  | succ N ih =>
    intro a b limit d w hN hs S hab hb hsz hlimit hBel0
    go_enter FG, SlBodyF.n14_ntmps ρ
    go_wp2
    go_loopg [1, 2, 3, 10, 11] (b - a) (fun kx s1 s2 s3 s8 s9 wr => ∃ (a' b' lim : Nat) (wb wp : Bool) (dk : Array α), s1 = .int .i64 a' ∧ s2 = .int .i64 b' ∧ s3 = .int .i64 lim ∧ s8 = .bool wb ∧ s9 = .bool wp ∧
      a' ≤ b' ∧ b' ≤ d.size ∧ b' - a' ≤ kx ∧ kx ≤ b - a ∧ lim ≤ limit ∧ dk.size = d.size ∧ Below (ltOf cf) a' b' dk ∧ SW enc w0 blk off dk wr ∧ pdq (ltOf cf) dk a' b' lim wb wp = pdq (ltOf cf) d a b limit true true)
    case atStart => exact ⟨a, b, limit, true, true, d, rfl, rfl, rfl, rfl, rfl, hab, hb, Nat.le_refl _, Nat.le_refl _, Nat.le_refl _, rfl, hBel0, S, rfl⟩
    case round =>
      obtain ⟨a', b', lim, wb, wp, dk, rfl, rfl, rfl, rfl, rfl, hab', hb', hkx, hkN, hlim, hds, hBel, hAt, heq⟩ := hrel
      have A : Aside (pdq (ltOf cf) dk a' b' lim wb wp = pdq (ltOf cf) d a b limit true true) := heq
      clear heq
      by_cases h12 : b' - a' ≤ 12
      · -- 'if length <= maxInsertion'
        have h12z : (b' : Int) - (a' : Int) ≤ 12 := by omega
        have hc := Any.insertionSortCmpFunc_s (P := P) (ρ := ρ) { L with } enc cf g fv blk off cap a' b' d0 dk w0 wr eg hcmp R (by omega) hAt hab' (by omega) (by omega)
        rw [hds] at hc
        go_wp2_with (go_at_fn (ρ.f 20); refine hc.mono ?_; rintro e w1 ⟨rfl, hw1⟩)
        (try simp only [Exit.inBlock, Exit.then]); refine bodyPost_ret (results_none rfl _ _ _) rfl ?_
        refine ⟨rfl, ?_⟩
        rw [← A.out, pdq_small h12]
        exact hw1
      · have h12z : ¬ ((b' : Int) - (a' : Int) ≤ 12) := by omega
        by_cases hl0 : lim = 0
        · -- 'if limit == 0'
          subst hl0
          have hc := Any.heapSortCmpFunc (P := P) (ρ := ρ) { L with } enc cf g fv blk off cap a' b' d0 dk w0 wr eg hcmp R (by omega) hAt hab' (by omega) (by omega)
          rw [hds] at hc
          go_wp2_with (go_at_fn (ρ.f 21); refine hc.mono ?_; rintro e w1 ⟨rfl, hw1⟩)
          (try simp only [Exit.inBlock, Exit.then]); refine bodyPost_ret (results_none rfl _ _ _) rfl ?_
          refine ⟨rfl, ?_⟩
          rw [← A.out, pdq_heap h12 rfl]
          exact hw1
        · have hl0z : ¬ ((lim : Int) = 0) := by omega
          obtain ⟨s1, B1, hc1, s2, B2, hpv, s3, B3⟩ := rd_facts (lt := (ltOf cf)) (limit := lim) (wb := wb) (wp := wp) hO partialInsertionSort_holds reverseRange_holds (show a' < b' by omega) (show b' ≤ dk.size by omega) hBel
          -- ████ 'if !wasBalanced { breakPatterns; limit-- }': THE WAYS MEET
          go_upto_if 39 with fail
          go_cut [3] from 21 (fun s3 wc => s3 = .int .i64 (rd (ltOf cf) dk a' b' lim wb wp).lim ∧ SW enc w0 blk off (rd (ltOf cf) dk a' b' lim wb wp).d1 wc)
          case first =>
            cases wb
            · have hc := Any.breakPatternsCmpFunc (P := P) (ρ := ρ) { L with } enc g fv blk off cap a' b' d0 dk w0 wr R (by omega) hAt hab' (by omega) (by omega)
              rw [hds] at hc
              go_wp2_with (go_at_fn (ρ.f 22); refine hc.mono ?_; rintro e w1 ⟨rfl, hw1⟩)
              go_meet
              case rel =>
                refine ⟨?_, hw1⟩
                show Value.int .i64 ((lim : Int) - 1) = Value.int .i64 ((lim - 1 : Nat) : Int)
                congr 1
                omega
            · go_wp2_with fail
              go_meet
              case rel => exact ⟨rfl, hAt⟩
          case rest =>
            obtain ⟨rfl, hAt1⟩ := hcut
            have hc17 : Calls P (ρ.f 23) #[.slice (some ⟨blk, off, none⟩) d.size cap, .int .i64 a', .int .i64 b', .func (.func g) #[fv] #[]] wc fun e w' => e = .returned (.tuple #[.int .i64 (rd (ltOf cf) dk a' b' lim wb wp).c.1, .int .i64 (hintCode (rd (ltOf cf) dk a' b' lim wb wp).c.2)]) ∧ SW enc w0 blk off (rd (ltOf cf) dk a' b' lim wb wp).d1 w' := by
              have h := Any.choosePivotCmpFunc (P := P) (ρ := ρ) { L with } enc cf g fv blk off cap a' b' d0 (rd (ltOf cf) dk a' b' lim wb wp).d1 w0 wc eg hcmp R (by omega) hAt1 (by omega) (by omega) (by omega)
              rw [show (rd (ltOf cf) dk a' b' lim wb wp).d1.size = d.size from s1.trans hds] at h
              exact h
            go_upto_if 56 with (go_at_fn (ρ.f 23); refine hc17.mono ?_; rintro e w2 ⟨rfl, hAt2⟩)
            -- ████ 'if hint == decreasingHint { reverseRange; pivot = ..; hint = increasingHint }': THE WAYS MEET
            go_cut [13, 14] from 21 (fun s11 s12 wc => s11 = .int .i64 (rd (ltOf cf) dk a' b' lim wb wp).pivot ∧ s12 = .int .i64 (hintCode (rd (ltOf cf) dk a' b' lim wb wp).hint) ∧ SW enc w0 blk off (rd (ltOf cf) dk a' b' lim wb wp).d2 wc)
            case first =>
              by_cases hh : (rd (ltOf cf) dk a' b' lim wb wp).c.2 = .decreasing
              · have hcode : hintCode (rd (ltOf cf) dk a' b' lim wb wp).c.2 = 2 := by rw [hh]; rfl
                obtain ⟨e2, epv, eht⟩ := rd_dec hh
                have hc18 := Any.reverseRangeCmpFunc (P := P) (ρ := ρ) { L with } enc g fv blk off cap a' b' d0 (rd (ltOf cf) dk a' b' lim wb wp).d1 w0 w2 R (by omega) hAt2 hab' (by omega) (by omega)
                rw [show (rd (ltOf cf) dk a' b' lim wb wp).d1.size = d.size from s1.trans hds] at hc18
                go_wp2_with (go_at_fn (ρ.f 24); refine hc18.mono ?_; rintro e w3 ⟨rfl, hw3⟩)
                go_meet
                case rel =>
                  refine ⟨?_, by rw [eht]; rfl, by rw [e2]; exact hw3⟩
                  rw [epv]
                  congr 1
                  omega
              · have hcode : ¬ (hintCode (rd (ltOf cf) dk a' b' lim wb wp).c.2 = 2) := fun h => hh (hintCode_two h)
                obtain ⟨e2, epv, eht⟩ := rd_not hh
                go_wp2_with fail
                go_meet
                case rel => exact ⟨by rw [epv], by rw [eht], by rw [e2]; exact hAt2⟩
            case rest =>
              obtain ⟨rfl, rfl, hAt3⟩ := hcut
              -- ████ THE TEST 'wasBalanced && wasPartitioned && hint == increasingHint', over Booleans that are variables: THE WAYS THROUGH THE REGION MEET
              go_upto_region 15 with fail
              go_cut [14, 75] from 21 (fun s12 s68 wx => s12 = .int .i64 (hintCode (rd (ltOf cf) dk a' b' lim wb wp).hint) ∧ s68 = .bool (wb && wp && decide ((rd (ltOf cf) dk a' b' lim wb wp).hint = .increasing)) ∧ wx = wc)
              case first =>
                cases wb <;> cases wp <;> cases hh3 : (rd (ltOf cf) dk a' b' lim _ _).hint <;>
                  (have hcode3 := congrArg hintCode hh3
                   simp only [hintCode] at hcode3
                   go_wp2_with fail
                   go_meet
                   exact ⟨by simp [hh3, hintCode], by simp [hh3, hintCode], rfl⟩)
              case rest =>
                obtain ⟨rfl, rfl, rfl⟩ := hcut
                -- ████ 'if .. { if partialInsertionSort(..) { return } }': THE WAYS MEET (one returns)
                go_upto_if 75 with fail
                go_cut [] from 21 (fun wx => (rd (ltOf cf) dk a' b' lim wb wp).pi.2 = false ∧ SW enc w0 blk off (rd (ltOf cf) dk a' b' lim wb wp).pi.1 wx)
                case first =>
                  cases h68 : (wb && wp && decide ((rd (ltOf cf) dk a' b' lim wb wp).hint = .increasing))
                  · have epi := rd_pi_no h68
                    go_wp2_with fail
                    go_meet
                    case rel => exact ⟨by rw [epi], by rw [epi]; exact hAt3⟩
                  · have epi := rd_pi_yes h68
                    have hc19 := Any.partialInsertionSortCmpFunc (P := P) (ρ := ρ) { L with } enc cf g fv blk off cap a' b' d0 (rd (ltOf cf) dk a' b' lim wb wp).d2 w0 wc eg hcmp R (by omega) hAt3 (by omega) (by omega) (by omega)
                    rw [← epi, show (rd (ltOf cf) dk a' b' lim wb wp).d2.size = d.size from s2.trans hds] at hc19
                    go_wp2_with (go_at_fn (ρ.f 25); refine hc19.mono ?_; rintro e w4 ⟨rfl, hw4⟩)
                    all_goals first
                      | (have hp2 : (rd (ltOf cf) dk a' b' lim wb wp).pi.2 = false := by rw [epi]; assumption
                         go_meet
                         exact ⟨hp2, hw4⟩)
                      | (have hp2 : (rd (ltOf cf) dk a' b' lim wb wp).pi.2 = true := by rw [epi]; assumption
                         (try simp only [Exit.inBlock, Exit.then]); refine bodyPost_ret (results_none rfl _ _ _) rfl ?_
                         refine ⟨rfl, ?_⟩
                         rw [← A.out, pdq_done h12 hl0 hp2]
                         exact hw4)
                case rest =>
                  obtain ⟨hp2, hAt5⟩ := hcut
                  -- ████ THE TEST 'a > 0 && !(cmp(data[a-1], data[pivot]) < 0)': A REGION THAT DRAWS, WITH A GUARD AND A CALL: PARTED ON AHEAD OF IT: THREE WAYS, each walked to the round's end
                  have HC : Aside _ := hcmp
                  have S5 : Aside (SW enc w0 blk off (rd (ltOf cf) dk a' b' lim wb wp).pi.1 wc) := hAt5
                  have hpv1 := hpv.1
                  have hpv2 := hpv.2
                  clear hAt5
                  rcases Nat.eq_zero_or_pos a' with ha0 | ha0
                  · have ha0z : decide ((a' : Int) > 0) = false := decide_eq_false (by omega)
                    have h87a : (decide (a' > 0) && !(ltOf cf) (rd (ltOf cf) dk a' b' lim wb wp).pi.1[a' - 1]! (rd (ltOf cf) dk a' b' lim wb wp).pi.1[(rd (ltOf cf) dk a' b' lim wb wp).pivot]!) = false := by simp [ha0]
                    have hn0 : ¬ (0 < a') := by omega
                    have hn0d : decide (0 < a') = false := decide_eq_false hn0
                    have hn0z : decide ((0 : Int) < (a' : Int)) = false := decide_eq_false (by omega)
                    clear ha0
                    go_wp2_with fail
                    go_big_region_o
                    have S6 : Aside (SW enc w0 blk off (rd (ltOf cf) dk a' b' lim wb wp).pi.1 wc.drew) := S5.out.drew
                    clear S5
                    generalize wc.drew = w6 at S6 ⊢
                    have hAt6 := S6.out
                    clear S6
                    have h87 : (decide (a' > 0) && !(ltOf cf) (rd (ltOf cf) dk a' b' lim wb wp).pi.1[a' - 1]! (rd (ltOf cf) dk a' b' lim wb wp).pi.1[(rd (ltOf cf) dk a' b' lim wb wp).pivot]!) = false := h87a
                    -- ████ 'mid, alreadyPartitioned := partitionCmpFunc(..)'; THE SMALLER SIDE BY A CALL OF ITSELF, the other by the next round
                    obtain ⟨mid, ap, d4, hx⟩ : ∃ mid ap d4, partition (ltOf cf) (rd (ltOf cf) dk a' b' lim wb wp).pi.1 a' b' (rd (ltOf cf) dk a' b' lim wb wp).pivot = (mid, ap, d4) := ⟨(partition (ltOf cf) (rd (ltOf cf) dk a' b' lim wb wp).pi.1 a' b' (rd (ltOf cf) dk a' b' lim wb wp).pivot).1, (partition (ltOf cf) (rd (ltOf cf) dk a' b' lim wb wp).pi.1 a' b' (rd (ltOf cf) dk a' b' lim wb wp).pivot).2.1, (partition (ltOf cf) (rd (ltOf cf) dk a' b' lim wb wp).pi.1 a' b' (rd (ltOf cf) dk a' b' lim wb wp).pivot).2.2, rfl⟩
                    obtain ⟨r1, r2, r3, r4, r5, r6, r7⟩ := round_part hO (partition_holds (ltOf cf)) hpv.1 hpv.2 (show b' ≤ (rd (ltOf cf) dk a' b' lim wb wp).pi.1.size by omega) B3 hx
                    have hc22 := Any.partitionCmpFunc (P := P) (ρ := ρ) { L with } enc cf g fv blk off cap a' b' (rd (ltOf cf) dk a' b' lim wb wp).pivot d0 (rd (ltOf cf) dk a' b' lim wb wp).pi.1 w0 w6 eg hcmp R (by omega) hAt6 hpv.1 hpv.2 (by omega) (by omega)
                    rw [hx, show (rd (ltOf cf) dk a' b' lim wb wp).pi.1.size = d.size from s3.trans hds] at hc22
                    have X : Aside (partition (ltOf cf) (rd (ltOf cf) dk a' b' lim wb wp).pi.1 a' b' (rd (ltOf cf) dk a' b' lim wb wp).pivot = (mid, ap, d4)) := hx
                    clear hx
                    go_upto_if 125 with (go_at_fn (ρ.f 27); refine hc22.mono ?_; rintro e w7 ⟨rfl, hAt7⟩)
                    have hx := X.out
                    have hs4 : d4.size = d.size := r3.trans (s3.trans hds)
                    by_cases h4 : mid - a' < b' - mid
                    · have h4z : (mid : Int) - (a' : Int) < (b' : Int) - (mid : Int) := by omega
                      have hih := ih a' mid (rd (ltOf cf) dk a' b' lim wb wp).lim d4 w7 (by omega) (by omega) hAt7 (by omega) (by omega) (by omega) (Nat.lt_of_le_of_lt (Nat.le_trans rd_lim_le hlim) hlimit) r4
                      rw [hs4] at hih
                      obtain ⟨pL, sL⟩ := pdq_sorts (ltOf cf) hO d4 a' mid (rd (ltOf cf) dk a' b' lim wb wp).lim true true (by omega) (by omega) r4
                      go_wp2_with (go_at_fn (ρ.f 14); refine hih.mono ?_; rintro e w8 ⟨rfl, hw8⟩)
                      go_roundg (b' - (mid + 1))
                      case measure => omega
                      case rel =>
                        refine ⟨mid + 1, b', (rd (ltOf cf) dk a' b' lim wb wp).lim, decide (mid - a' ≥ (b' - a') / 8), ap, pdq (ltOf cf) d4 a' mid (rd (ltOf cf) dk a' b' lim wb wp).lim true true, by simp, rfl, rfl, ?_, rfl, by omega, by omega, Nat.le_refl _, by omega, Nat.le_trans rd_lim_le hlim, by rw [pL.1, hs4], (r6 _ pL sL).1, hw8, ?_⟩
                        · exact congrArg Value.bool (eighth (by omega) (by omega))
                        · rw [← A.out, pdq_left h12 hl0 hp2 h87 (by rw [hx]; exact ⟨r1, r2⟩) (by rw [hx]; exact h4), hx]
                    · have h4z : ¬ ((mid : Int) - (a' : Int) < (b' : Int) - (mid : Int)) := by omega
                      have hih := ih (mid + 1) b' (rd (ltOf cf) dk a' b' lim wb wp).lim d4 w7 (by omega) (by omega) hAt7 (by omega) (by omega) (by omega) (Nat.lt_of_le_of_lt (Nat.le_trans rd_lim_le hlim) hlimit) r5
                      rw [show ((mid + 1 : Nat) : Int) = (mid : Int) + 1 by omega, hs4] at hih
                      obtain ⟨pL, sL⟩ := pdq_sorts (ltOf cf) hO d4 (mid + 1) b' (rd (ltOf cf) dk a' b' lim wb wp).lim true true (by omega) (by omega) r5
                      go_wp2_with (go_at_fn (ρ.f 14); refine hih.mono ?_; rintro e w8 ⟨rfl, hw8⟩)
                      go_roundg (mid - a')
                      case measure => omega
                      case rel =>
                        refine ⟨a', mid, (rd (ltOf cf) dk a' b' lim wb wp).lim, decide (b' - mid ≥ (b' - a') / 8), ap, pdq (ltOf cf) d4 (mid + 1) b' (rd (ltOf cf) dk a' b' lim wb wp).lim true true, rfl, rfl, rfl, ?_, rfl, by omega, by omega, Nat.le_refl _, by omega, Nat.le_trans rd_lim_le hlim, by rw [pL.1, hs4], (r7 _ pL sL).1, hw8, ?_⟩
                        · exact congrArg Value.bool (eighth (by omega) (by omega))
                        · rw [← A.out, pdq_right h12 hl0 hp2 h87 (by rw [hx]; exact ⟨r1, r2⟩) (by rw [hx]; exact h4), hx]
                  · have ha0z : (a' : Int) > 0 := by omega
                    obtain ⟨ap, hap⟩ : ∃ q, q + 1 = a' := ⟨a' - 1, by omega⟩
                    have zap : (a' : Int) = (ap : Int) + 1 := by omega
                    have ha0d' : decide ((ap : Int) + 1 > 0) = true := decide_eq_true (by omega)
                    cases hlv : (ltOf cf) (rd (ltOf cf) dk a' b' lim wb wp).pi.1[a' - 1]! (rd (ltOf cf) dk a' b' lim wb wp).pi.1[(rd (ltOf cf) dk a' b' lim wb wp).pivot]! with
                    | true =>
                      obtain ⟨iN1240, hiN1240⟩ : ∃ q, q = a' - 1 := ⟨_, rfl⟩
                      obtain ⟨jN1240, hjN1240⟩ : ∃ q, q = (rd (ltOf cf) dk a' b' lim wb wp).pivot := ⟨_, rfl⟩
                      have ea1240 : ((ap : Int)).toNat = iN1240 := by omega
                      have pa1240 : (0 : Int) ≤ (ap : Int) := by omega
                      have ba1240 : (ap : Int) < (d.size : Int) := by omega
                      have ra1240 : IntKind.i64.wrap ((ap : Int)) = (ap : Int) := by rw [IntKind.wrap_i64]; omega
                      have ec1240 : (((rd (ltOf cf) dk a' b' lim wb wp).pivot : Int)).toNat = jN1240 := by omega
                      have pc1240 : (0 : Int) ≤ ((rd (ltOf cf) dk a' b' lim wb wp).pivot : Int) := by omega
                      have bc1240 : ((rd (ltOf cf) dk a' b' lim wb wp).pivot : Int) < (d.size : Int) := by omega
                      have rc1240 : IntKind.i64.wrap (((rd (ltOf cf) dk a' b' lim wb wp).pivot : Int)) = ((rd (ltOf cf) dk a' b' lim wb wp).pivot : Int) := by rw [IntKind.wrap_i64]; omega
                      obtain ⟨x1240, hx1240⟩ : ∃ x, x = (rd (ltOf cf) dk a' b' lim wb wp).pi.1[a' - 1]! := ⟨_, rfl⟩
                      obtain ⟨y1240, hy1240⟩ : ∃ x, x = (rd (ltOf cf) dk a' b' lim wb wp).pi.1[(rd (ltOf cf) dk a' b' lim wb wp).pivot]! := ⟨_, rfl⟩
                      have l1240a := S5.out.cl R (by omega) (a' - 1) (by omega)
                      have l1240b := S5.out.cl R (by omega) ((rd (ltOf cf) dk a' b' lim wb wp).pivot) (by omega)
                      rw [← hx1240, ← hiN1240] at l1240a
                      rw [← hy1240, ← hjN1240] at l1240b
                      have hc1240 := cmpF S5.out HC.out (by omega) x1240 y1240
                      have hv1240 : cf x1240 y1240 < 0 := by rw [hx1240, hy1240]; exact of_decide_eq_true hlv
                      have hd1240 : decide (cf x1240 y1240 < 0) = true := decide_eq_true hv1240
                      clear hx1240 hy1240 hiN1240 hjN1240
                      go_wp2_with fail
                      go_quiet_grown (first | (go_at_fn g; refine Calls.grown_of (hc1240 _ _)))
                      have S6 : Aside (SW enc w0 blk off (rd (ltOf cf) dk a' b' lim wb wp).pi.1 (grow (wc.drewN nq) osq)) := S5.out.grown nq osq
                      clear l1240a l1240b hc1240 S5
                      generalize grow (wc.drewN nq) osq = w6 at S6 ⊢
                      clear nq osq
                      clear ea1240 ec1240
                      simp only [← zap]
                      clear zap hap ha0d'
                      have hAt6 := S6.out
                      clear S6
                      have h87 : (decide (a' > 0) && !(ltOf cf) (rd (ltOf cf) dk a' b' lim wb wp).pi.1[a' - 1]! (rd (ltOf cf) dk a' b' lim wb wp).pi.1[(rd (ltOf cf) dk a' b' lim wb wp).pivot]!) = false := by simp [hlv]
                      -- ████ 'mid, alreadyPartitioned := partitionCmpFunc(..)'; THE SMALLER SIDE BY A CALL OF ITSELF, the other by the next round
                      obtain ⟨mid, ap, d4, hx⟩ : ∃ mid ap d4, partition (ltOf cf) (rd (ltOf cf) dk a' b' lim wb wp).pi.1 a' b' (rd (ltOf cf) dk a' b' lim wb wp).pivot = (mid, ap, d4) := ⟨(partition (ltOf cf) (rd (ltOf cf) dk a' b' lim wb wp).pi.1 a' b' (rd (ltOf cf) dk a' b' lim wb wp).pivot).1, (partition (ltOf cf) (rd (ltOf cf) dk a' b' lim wb wp).pi.1 a' b' (rd (ltOf cf) dk a' b' lim wb wp).pivot).2.1, (partition (ltOf cf) (rd (ltOf cf) dk a' b' lim wb wp).pi.1 a' b' (rd (ltOf cf) dk a' b' lim wb wp).pivot).2.2, rfl⟩
                      obtain ⟨r1, r2, r3, r4, r5, r6, r7⟩ := round_part hO (partition_holds (ltOf cf)) hpv.1 hpv.2 (show b' ≤ (rd (ltOf cf) dk a' b' lim wb wp).pi.1.size by omega) B3 hx
                      have hc22 := Any.partitionCmpFunc (P := P) (ρ := ρ) { L with } enc cf g fv blk off cap a' b' (rd (ltOf cf) dk a' b' lim wb wp).pivot d0 (rd (ltOf cf) dk a' b' lim wb wp).pi.1 w0 w6 eg hcmp R (by omega) hAt6 hpv.1 hpv.2 (by omega) (by omega)
                      rw [hx, show (rd (ltOf cf) dk a' b' lim wb wp).pi.1.size = d.size from s3.trans hds] at hc22
                      have X : Aside (partition (ltOf cf) (rd (ltOf cf) dk a' b' lim wb wp).pi.1 a' b' (rd (ltOf cf) dk a' b' lim wb wp).pivot = (mid, ap, d4)) := hx
                      clear hx
                      go_upto_if 125 with (go_at_fn (ρ.f 27); refine hc22.mono ?_; rintro e w7 ⟨rfl, hAt7⟩)
                      have hx := X.out
                      have hs4 : d4.size = d.size := r3.trans (s3.trans hds)
                      by_cases h4 : mid - a' < b' - mid
                      · have h4z : (mid : Int) - (a' : Int) < (b' : Int) - (mid : Int) := by omega
                        have hih := ih a' mid (rd (ltOf cf) dk a' b' lim wb wp).lim d4 w7 (by omega) (by omega) hAt7 (by omega) (by omega) (by omega) (Nat.lt_of_le_of_lt (Nat.le_trans rd_lim_le hlim) hlimit) r4
                        rw [hs4] at hih
                        obtain ⟨pL, sL⟩ := pdq_sorts (ltOf cf) hO d4 a' mid (rd (ltOf cf) dk a' b' lim wb wp).lim true true (by omega) (by omega) r4
                        go_wp2_with (go_at_fn (ρ.f 14); refine hih.mono ?_; rintro e w8 ⟨rfl, hw8⟩)
                        go_roundg (b' - (mid + 1))
                        case measure => omega
                        case rel =>
                          refine ⟨mid + 1, b', (rd (ltOf cf) dk a' b' lim wb wp).lim, decide (mid - a' ≥ (b' - a') / 8), ap, pdq (ltOf cf) d4 a' mid (rd (ltOf cf) dk a' b' lim wb wp).lim true true, by simp, rfl, rfl, ?_, rfl, by omega, by omega, Nat.le_refl _, by omega, Nat.le_trans rd_lim_le hlim, by rw [pL.1, hs4], (r6 _ pL sL).1, hw8, ?_⟩
                          · exact congrArg Value.bool (eighth (by omega) (by omega))
                          · rw [← A.out, pdq_left h12 hl0 hp2 h87 (by rw [hx]; exact ⟨r1, r2⟩) (by rw [hx]; exact h4), hx]
                      · have h4z : ¬ ((mid : Int) - (a' : Int) < (b' : Int) - (mid : Int)) := by omega
                        have hih := ih (mid + 1) b' (rd (ltOf cf) dk a' b' lim wb wp).lim d4 w7 (by omega) (by omega) hAt7 (by omega) (by omega) (by omega) (Nat.lt_of_le_of_lt (Nat.le_trans rd_lim_le hlim) hlimit) r5
                        rw [show ((mid + 1 : Nat) : Int) = (mid : Int) + 1 by omega, hs4] at hih
                        obtain ⟨pL, sL⟩ := pdq_sorts (ltOf cf) hO d4 (mid + 1) b' (rd (ltOf cf) dk a' b' lim wb wp).lim true true (by omega) (by omega) r5
                        go_wp2_with (go_at_fn (ρ.f 14); refine hih.mono ?_; rintro e w8 ⟨rfl, hw8⟩)
                        go_roundg (mid - a')
                        case measure => omega
                        case rel =>
                          refine ⟨a', mid, (rd (ltOf cf) dk a' b' lim wb wp).lim, decide (b' - mid ≥ (b' - a') / 8), ap, pdq (ltOf cf) d4 (mid + 1) b' (rd (ltOf cf) dk a' b' lim wb wp).lim true true, rfl, rfl, rfl, ?_, rfl, by omega, by omega, Nat.le_refl _, by omega, Nat.le_trans rd_lim_le hlim, by rw [pL.1, hs4], (r7 _ pL sL).1, hw8, ?_⟩
                          · exact congrArg Value.bool (eighth (by omega) (by omega))
                          · rw [← A.out, pdq_right h12 hl0 hp2 h87 (by rw [hx]; exact ⟨r1, r2⟩) (by rw [hx]; exact h4), hx]
                    | false =>
                      obtain ⟨iN1241, hiN1241⟩ : ∃ q, q = a' - 1 := ⟨_, rfl⟩
                      obtain ⟨jN1241, hjN1241⟩ : ∃ q, q = (rd (ltOf cf) dk a' b' lim wb wp).pivot := ⟨_, rfl⟩
                      have ea1241 : ((ap : Int)).toNat = iN1241 := by omega
                      have pa1241 : (0 : Int) ≤ (ap : Int) := by omega
                      have ba1241 : (ap : Int) < (d.size : Int) := by omega
                      have ra1241 : IntKind.i64.wrap ((ap : Int)) = (ap : Int) := by rw [IntKind.wrap_i64]; omega
                      have ec1241 : (((rd (ltOf cf) dk a' b' lim wb wp).pivot : Int)).toNat = jN1241 := by omega
                      have pc1241 : (0 : Int) ≤ ((rd (ltOf cf) dk a' b' lim wb wp).pivot : Int) := by omega
                      have bc1241 : ((rd (ltOf cf) dk a' b' lim wb wp).pivot : Int) < (d.size : Int) := by omega
                      have rc1241 : IntKind.i64.wrap (((rd (ltOf cf) dk a' b' lim wb wp).pivot : Int)) = ((rd (ltOf cf) dk a' b' lim wb wp).pivot : Int) := by rw [IntKind.wrap_i64]; omega
                      obtain ⟨x1241, hx1241⟩ : ∃ x, x = (rd (ltOf cf) dk a' b' lim wb wp).pi.1[a' - 1]! := ⟨_, rfl⟩
                      obtain ⟨y1241, hy1241⟩ : ∃ x, x = (rd (ltOf cf) dk a' b' lim wb wp).pi.1[(rd (ltOf cf) dk a' b' lim wb wp).pivot]! := ⟨_, rfl⟩
                      have l1241a := S5.out.cl R (by omega) (a' - 1) (by omega)
                      have l1241b := S5.out.cl R (by omega) ((rd (ltOf cf) dk a' b' lim wb wp).pivot) (by omega)
                      rw [← hx1241, ← hiN1241] at l1241a
                      rw [← hy1241, ← hjN1241] at l1241b
                      have hc1241 := cmpF S5.out HC.out (by omega) x1241 y1241
                      have hv1241 : ¬ cf x1241 y1241 < 0 := by rw [hx1241, hy1241]; exact of_decide_eq_false hlv
                      have hd1241 : decide (cf x1241 y1241 < 0) = false := decide_eq_false hv1241
                      clear hx1241 hy1241 hiN1241 hjN1241
                      go_wp2_with fail
                      go_quiet_grown (first | (go_at_fn g; refine Calls.grown_of (hc1241 _ _)))
                      have S6 : Aside (SW enc w0 blk off (rd (ltOf cf) dk a' b' lim wb wp).pi.1 (grow (wc.drewN nq) osq)) := S5.out.grown nq osq
                      clear l1241a l1241b hc1241 S5
                      generalize grow (wc.drewN nq) osq = w6 at S6 ⊢
                      clear nq osq
                      clear ea1241 ec1241
                      simp only [← zap]
                      clear zap hap ha0d'
                      have hAt6 := S6.out
                      clear S6
                      have h87 : (decide (a' > 0) && !(ltOf cf) (rd (ltOf cf) dk a' b' lim wb wp).pi.1[a' - 1]! (rd (ltOf cf) dk a' b' lim wb wp).pi.1[(rd (ltOf cf) dk a' b' lim wb wp).pivot]!) = true := by simp [ha0, hlv]
                      -- ████ 'mid := partitionEqualCmpFunc(..); a = mid; continue'
                      have h87' := h87
                      simp only [Bool.and_eq_true, decide_eq_true_eq, Bool.not_eq_true'] at h87'
                      obtain ⟨mid, d4, hx⟩ : ∃ mid d4, partitionEqual (ltOf cf) (rd (ltOf cf) dk a' b' lim wb wp).pi.1 a' b' (rd (ltOf cf) dk a' b' lim wb wp).pivot = (mid, d4) := ⟨(partitionEqual (ltOf cf) (rd (ltOf cf) dk a' b' lim wb wp).pi.1 a' b' (rd (ltOf cf) dk a' b' lim wb wp).pivot).1, (partitionEqual (ltOf cf) (rd (ltOf cf) dk a' b' lim wb wp).pi.1 a' b' (rd (ltOf cf) dk a' b' lim wb wp).pivot).2, rfl⟩
                      obtain ⟨r1, r2, r3, r4, _⟩ := round_eq hO (partitionEqual_holds (ltOf cf)) h87'.1 hpv.1 hpv.2 (show b' ≤ (rd (ltOf cf) dk a' b' lim wb wp).pi.1.size by omega) B3 h87'.2 hx
                      have hc21 := Any.partitionEqualCmpFunc (P := P) (ρ := ρ) { L with } enc cf g fv blk off cap a' b' (rd (ltOf cf) dk a' b' lim wb wp).pivot d0 (rd (ltOf cf) dk a' b' lim wb wp).pi.1 w0 w6 eg hcmp R (by omega) hAt6 hpv.1 hpv.2 (by omega) (by omega)
                      rw [hx, show (rd (ltOf cf) dk a' b' lim wb wp).pi.1.size = d.size from s3.trans hds] at hc21
                      have X : Aside (partitionEqual (ltOf cf) (rd (ltOf cf) dk a' b' lim wb wp).pi.1 a' b' (rd (ltOf cf) dk a' b' lim wb wp).pivot = (mid, d4)) := hx
                      clear hx
                      go_wp2_with (go_at_fn (ρ.f 26); refine hc21.mono ?_; rintro e w7 ⟨rfl, hw7⟩)
                      go_roundg (b' - mid)
                      case measure => omega
                      case rel =>
                        have hx := X.out
                        exact ⟨mid, b', (rd (ltOf cf) dk a' b' lim wb wp).lim, wb, wp, d4, rfl, rfl, rfl, rfl, rfl, r2, hb', Nat.le_refl _, by omega, Nat.le_trans rd_lim_le hlim, by rw [r3, s3, hds], r4, hw7, by rw [← A.out, pdq_eq h12 hl0 hp2 h87 (by rw [hx]; exact ⟨r1, r2⟩), hx]⟩
end
section
open Go.Shelf Go.RowKit Go.Lib Go.Sort
variable {P : Program} {ρ : Ren} {α : Type} [Inhabited α]

set_option maxHeartbeats 2000000 in
set_option maxRecDepth 100000 in
theorem Any.slices_SortFunc_eq (L : SlLaysF.n6 P ρ) (enc : α → Value) (h1 : OneCell enc) (cf : α → α → Int) (hO : SWO (ltOf cf)) (g : Nat) (fv : Value) (blk off cap : Nat) (d : Array α) (w : World)
    (eg : ∀ args w, (callFunc g args).run P w = .ok (.enter g args) w) (hcmp : CmpLays1 P g fv enc cf blk off d.size w) (hH : Holds enc w blk off d) (hblk : blk < w.heap.size) (hsz : d.size < 4611686018427387904) :
    Calls P (ρ.f 6) #[.slice (some ⟨blk, off, none⟩) d.size cap, .func (.func g) #[fv] #[]] w fun e w' =>
      e = .returned (.tuple #[]) ∧ ∃ n os, w' = sortWorld enc w blk off n (pdq (ltOf cf) d 0 d.size (Lib.bitLen d.size) true true) os := by
  have mixed := L.mixed; have t0 := L.t0; have a0 := L.a0; have z0 := L.z0; have v0 := L.v0; have t3 := L.t3; have a3 := L.a3; have z3 := L.z3; have v3 := L.v3; have t4 := L.t4; have a4 := L.a4; have z4 := L.z4; have v4 := L.v4; have t5 := L.t5; have a5 := L.a5; have z5 := L.z5; have v5 := L.v5; have t9 := L.t9; have a9 := L.a9; have z9 := L.z9; have v9 := L.v9; have t22 := L.t22; have a22 := L.a22; have z22 := L.z22; have v22 := L.v22; have t25 := L.t25; have a25 := L.a25; have z25 := L.z25; have v25 := L.v25; have t39 := L.t39; have a39 := L.a39; have z39 := L.z39; have v39 := L.v39; have t45 := L.t45; have a45 := L.a45; have z45 := L.z45; have v45 := L.v45; have t46 := L.t46; have a46 := L.a46; have z46 := L.z46; have v46 := L.v46; have t50 := L.t50; have a50 := L.a50; have z50 := L.z50; have v50 := L.v50; have t53 := L.t53; have a53 := L.a53; have z53 := L.z53; have v53 := L.v53; have t55 := L.t55; have a55 := L.a55; have z55 := L.z55; have v55 := L.v55; have t66 := L.t66; have a66 := L.a66; have z66 := L.z66; have v66 := L.v66; have t70 := L.t70; have a70 := L.a70; have z70 := L.z70; have v70 := L.v70; have t76 := L.t76; have a76 := L.a76; have z76 := L.z76; have v76 := L.v76; have t77 := L.t77; have a77 := L.a77; have z77 := L.z77; have v77 := L.v77
  have a24 := L.a24; have z24 := L.z24
  have e14 : ∀ args w, (callFunc (ρ.f 14) args).run P w = .ok (.enter (ρ.f 14) args) w := L.f14.enters rfl
  have e15 : ∀ args w, (callFunc (ρ.f 15) args).run P w = .ok (.enter (ρ.f 15) args) w := enters_of L.f15 (by kernel_rfl) rfl
  have hlim : Lib.bitLen d.size < 4611686018427387904 := Nat.lt_of_le_of_lt (Lib.bitLen_le d.size 62 (by omega) (by omega)) (by omega)
  have hp := Any.pdqsortCmpFunc_all (P := P) (ρ := ρ) { L with } enc cf g fv hO blk off cap d w eg hcmp ⟨h1, hH, hblk⟩ (d.size + 1) 0 d.size (Lib.bitLen d.size) d w (by omega) rfl (SW.start hH) (Nat.zero_le _) (Nat.le_refl _) hsz hlim (Or.inl rfl)
  have hl : Calls P (ρ.f 15) #[.int .u64 (d.size : Int)] w fun e w' => e = .returned (.int .i64 (Lib.bitLen d.size : Nat)) ∧ w' = w := by
    have h := Any.bits_Len (SlLaysF0.n15.bits (P := P) (ρ := ρ) { L with }) (d.size : Int) w (by omega) (by omega)
    rwa [Int.toNat_natCast] at h
  have wr : IntKind.u64.wrap (d.size : Int) = d.size := by simp [IntKind.wrap, IntKind.bits, IntKind.signed]; omega
  clear hH hcmp h1
  obtain ⟨_, _, FG⟩ := L.f6
  go_enter FG, SlBodyF.n6_ntmps ρ
  go_wp2_with (first | (go_at_fn (ρ.f 15); refine hl.mono ?_; rintro e w' ⟨rfl, rfl⟩) | (go_at_fn (ρ.f 14); refine hp.mono ?_; rintro e w' ⟨rfl, n, os, rfl⟩))
  go_end0
  exact ⟨rfl, n, os, rfl⟩
theorem Any.slices_SortFunc (L : SlLaysF.n6 P ρ) (enc : α → Value) (h1 : OneCell enc) (cf : α → α → Int) (hO : SWO (ltOf cf)) (g : Nat) (fv : Value) (blk off cap : Nat) (d : Array α) (w : World)
    (eg : ∀ args w, (callFunc g args).run P w = .ok (.enter g args) w) (hcmp : CmpLays1 P g fv enc cf blk off d.size w) (hH : Holds enc w blk off d) (hblk : blk < w.heap.size) (hsz : d.size < 4611686018427387904) :
    Calls P (ρ.f 6) #[.slice (some ⟨blk, off, none⟩) d.size cap, .func (.func g) #[fv] #[]] w fun e w' =>
      e = .returned (.tuple #[]) ∧ ∃ d' n os, PermIn 0 d.size d d' ∧ SortedIn (ltOf cf) 0 d.size d' ∧ w' = sortWorld enc w blk off n d' os :=
  (Any.slices_SortFunc_eq L enc h1 cf hO g fv blk off cap d w eg hcmp hH hblk hsz).mono fun _ _ ⟨he, n, os, hw⟩ =>
    have h := pdq_sorts (ltOf cf) hO d 0 d.size (Lib.bitLen d.size) true true (Nat.zero_le _) (Nat.le_refl _) (Or.inl rfl)
    ⟨he, _, n, os, h.1, h.2, hw⟩
end
end Go.Proofs.Ytdeiinfljfgmeaa
