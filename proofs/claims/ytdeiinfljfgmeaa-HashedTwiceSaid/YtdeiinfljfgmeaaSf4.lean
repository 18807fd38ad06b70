/-
  slices.SortFunc by a function value whose first arguments are bound: the walks of the shelf, turned. (Printed by mksortf.py.)
-/
import Derived.Test.YtdeiinfljfgmeaaSf1
import Derived.Shelf.SlSortCmp.PartialInsertion1
namespace Go.Proofs.Ytdeiinfljfgmeaa
open Go.Proofs
section
open Go.Shelf Go.RowKit Go.Lib Go.Sort
variable {P : Program} {ρ : Ren} {α : Type} [Inhabited α]

set_option maxHeartbeats 64000000 in
set_option maxRecDepth 1000000 in
theorem Any.partialInsertionSortCmpFunc (L : SlLaysF.n25 P ρ) (enc : α → Value) (cf : α → α → Int) (g : Nat) (fv : Value) (blk off cap a b : Nat) (d0 d : Array α) (w0 w : World)
    (eg : ∀ args w, (callFunc g args).run P w = .ok (.enter g args) w) (hcmp : CmpLays1 P g fv enc cf blk off d0.size w0) (R : Row1 enc w0 blk off d0) (hs : d0.size = d.size) (S : SW enc w0 blk off d w) (hab : a < b) (hb : b ≤ d.size) (hsz : d.size < 4611686018427387904) :
    Calls P (ρ.f 25) #[.slice (some ⟨blk, off, none⟩) d.size cap, .int .i64 a, .int .i64 b, .func (.func g) #[fv] #[]] w fun e w' =>
      e = .returned (.bool (Sort.partialInsertionSort (ltOf cf) d a b).2) ∧ SW enc w0 blk off (Sort.partialInsertionSort (ltOf cf) d a b).1 w' := by
  have mixed := L.mixed; have t0 := L.t0; have a0 := L.a0; have z0 := L.z0; have v0 := L.v0; have t3 := L.t3; have a3 := L.a3; have z3 := L.z3; have v3 := L.v3; have t4 := L.t4; have a4 := L.a4; have z4 := L.z4; have v4 := L.v4; have t22 := L.t22; have a22 := L.a22; have z22 := L.z22; have v22 := L.v22; have t25 := L.t25; have a25 := L.a25; have z25 := L.z25; have v25 := L.v25
  have a24 := L.a24; have z24 := L.z24
  have u22 := run_underlying L.t22
  have hcl0 := R.hO.cells
  simp only [Value.cells] at hcl0
  have hst := R.hO.store P
  obtain ⟨_, _, FG⟩ := L.f25
  have HC : Aside _ := hcmp
  have S0 : Aside (SW enc w0 blk off d w) := S
  clear S
  clear hcmp
  go_enter FG, SlBodyF.n25_ntmps ρ
  go_wp2
  go_loopg [9, 10] 5 (fun g1 vi vs wr => ∃ (i s : Nat) (dk : Array α), vi = .int .i64 i ∧ vs = .int .i64 s ∧ s ≤ 5 ∧ 5 - s ≤ g1 ∧ a < i ∧ i ≤ b ∧ dk.size = d.size ∧ Aside (SW enc w0 blk off dk wr) ∧ Hid (partialIns (ltOf cf) a b (5 - s) i dk = partialIns (ltOf cf) a b 5 (a + 1) d))
  case atStart => exact ⟨a + 1, 0, d, by first | go_num | (congr 1; omega), rfl, by omega, by omega, by omega, by omega, rfl, S0, rfl⟩
  case round =>
    clear S0
    obtain ⟨i, s, dk, rfl, rfl, hs5, hg1, hai, hib, hsk, S1, HO⟩ := hrel
    by_cases hs' : s < 5
    · have hs := hs'
      have hsz5 : (s : Int) < 5 := by omega
      go_wp2
      -- the scan: 'for i < b && !(cmp(data[i], data[i-1]) < 0) { i++ }'
      go_loopg [9] (b - i) (fun g2 vi wr2 => ∃ (kx : Nat), vi = .int .i64 kx ∧ i ≤ kx ∧ kx ≤ b ∧ b - kx ≤ g2 ∧ Aside (SW enc w0 blk off dk wr2) ∧ Hid (scanSorted (ltOf cf) dk b kx = scanSorted (ltOf cf) dk b i))
      case atStart => exact ⟨i, rfl, Nat.le_refl _, hib, Nat.le_refl _, S1, rfl⟩
      case round =>
        clear S1
        obtain ⟨kx, rfl, hik, hkb, hg2, S1, HSc⟩ := hrel
        by_cases hkb' : kx < b
        · have hkz : (kx : Int) < (b : Int) := by omega
          obtain ⟨kxp, hkxp⟩ : ∃ q, q + 1 = kx := ⟨kx - 1, by omega⟩
          have zkxp : (kx : Int) = (kxp : Int) + 1 := by omega
          have hkd : decide ((kxp : Int) + 1 < (b : Int)) = true := decide_eq_true (by omega)
          cases hlv : (ltOf cf) dk[kx]! dk[kx - 1]! with
          | false =>
            obtain ⟨iN1200, hiN1200⟩ : ∃ q, q = kx := ⟨_, rfl⟩
            obtain ⟨jN1200, hjN1200⟩ : ∃ q, q = kx - 1 := ⟨_, rfl⟩
            have ea1200 : ((kxp : Int) + 1).toNat = iN1200 := by omega
            have pa1200 : (0 : Int) ≤ (kxp : Int) + 1 := by omega
            have ba1200 : (kxp : Int) + 1 < (d.size : Int) := by omega
            have ra1200 : IntKind.i64.wrap ((kxp : Int) + 1) = (kxp : Int) + 1 := by rw [IntKind.wrap_i64]; omega
            have ec1200 : ((kxp : Int)).toNat = jN1200 := by omega
            have pc1200 : (0 : Int) ≤ (kxp : Int) := by omega
            have bc1200 : (kxp : Int) < (d.size : Int) := by omega
            have rc1200 : IntKind.i64.wrap ((kxp : Int)) = (kxp : Int) := by rw [IntKind.wrap_i64]; omega
            obtain ⟨x1200, hx1200⟩ : ∃ x, x = dk[kx]! := ⟨_, rfl⟩
            obtain ⟨y1200, hy1200⟩ : ∃ x, x = dk[kx - 1]! := ⟨_, rfl⟩
            have l1200a := S1.out.cl R (by omega) (kx) (by omega)
            have l1200b := S1.out.cl R (by omega) (kx - 1) (by omega)
            rw [← hx1200, ← hiN1200] at l1200a
            rw [← hy1200, ← hjN1200] at l1200b
            have hc1200 := cmpF S1.out HC.out (by omega) x1200 y1200
            have hv1200 : ¬ cf x1200 y1200 < 0 := by rw [hx1200, hy1200]; exact of_decide_eq_false hlv
            have hd1200 : decide (cf x1200 y1200 < 0) = false := decide_eq_false hv1200
            clear hx1200 hy1200 hiN1200 hjN1200
            go_wp2_with fail
            go_quiet_grown (first | (go_at_fn g; refine Calls.grown_of (hc1200 _ _)))
            have S2 : Aside (SW enc w0 blk off dk (grow (wr.drewN nq) osq)) := S1.out.grown nq osq
            clear l1200a l1200b hc1200 S1
            generalize grow (wr.drewN nq) osq = w2 at S2 ⊢
            clear nq osq
            clear ea1200 ec1200
            go_wp2
            go_roundg (b - (kx + 1))
            case measure => omega
            case rel => exact ⟨kx + 1, by first | go_num | (congr 1; omega), by omega, by omega, Nat.le_refl _, S2, (show Hid _ from by rw [← HSc.out, scanSorted_go (ltOf cf) dk b kx hkb' hlv]; exact rfl)⟩
          | true =>
            -- a pair out of order, at kx
            have HK : Hid (scanSorted (ltOf cf) dk b i = kx) := by show _ = _; rw [← HSc.out, scanSorted_stop (ltOf cf) dk b kx (Or.inr hlv)]
            have hkne : ((kx : Int) == (b : Int)) = false := beq_eq_false_iff_ne.2 (by omega)
            have hkne' : ((kxp : Int) + 1 == (b : Int)) = false := beq_eq_false_iff_ne.2 (by omega)
            obtain ⟨iN1201, hiN1201⟩ : ∃ q, q = kx := ⟨_, rfl⟩
            obtain ⟨jN1201, hjN1201⟩ : ∃ q, q = kx - 1 := ⟨_, rfl⟩
            have ea1201 : ((kxp : Int) + 1).toNat = iN1201 := by omega
            have pa1201 : (0 : Int) ≤ (kxp : Int) + 1 := by omega
            have ba1201 : (kxp : Int) + 1 < (d.size : Int) := by omega
            have ra1201 : IntKind.i64.wrap ((kxp : Int) + 1) = (kxp : Int) + 1 := by rw [IntKind.wrap_i64]; omega
            have ec1201 : ((kxp : Int)).toNat = jN1201 := by omega
            have pc1201 : (0 : Int) ≤ (kxp : Int) := by omega
            have bc1201 : (kxp : Int) < (d.size : Int) := by omega
            have rc1201 : IntKind.i64.wrap ((kxp : Int)) = (kxp : Int) := by rw [IntKind.wrap_i64]; omega
            obtain ⟨x1201, hx1201⟩ : ∃ x, x = dk[kx]! := ⟨_, rfl⟩
            obtain ⟨y1201, hy1201⟩ : ∃ x, x = dk[kx - 1]! := ⟨_, rfl⟩
            have l1201a := S1.out.cl R (by omega) (kx) (by omega)
            have l1201b := S1.out.cl R (by omega) (kx - 1) (by omega)
            rw [← hx1201, ← hiN1201] at l1201a
            rw [← hy1201, ← hjN1201] at l1201b
            have hc1201 := cmpF S1.out HC.out (by omega) x1201 y1201
            have hv1201 : cf x1201 y1201 < 0 := by rw [hx1201, hy1201]; exact of_decide_eq_true hlv
            have hd1201 : decide (cf x1201 y1201 < 0) = true := decide_eq_true hv1201
            clear hx1201 hy1201 hiN1201 hjN1201
            go_wp2_with fail
            go_quiet_grown (first | (go_at_fn g; refine Calls.grown_of (hc1201 _ _)))
            have S2 : Aside (SW enc w0 blk off dk (grow (wr.drewN nq) osq)) := S1.out.grown nq osq
            clear l1201a l1201b hc1201 S1
            generalize grow (wr.drewN nq) osq = w2 at S2 ⊢
            clear nq osq
            clear ea1201 ec1201
            by_cases h50 : b - a < 50
            · have h50z : (b : Int) - (a : Int) < 50 := by omega
              go_wp2
              have hv : Sort.partialInsertionSort (ltOf cf) d a b = (dk, false) := by
                unfold Sort.partialInsertionSort
                rw [← HO.out, pi_short (ltOf cf) a b s i dk hs (by rw [HK.out]; omega) h50]
              rw [hv]
              go_ret
              exact ⟨rfl, S2.out⟩
            · have h50z : ¬ ((b : Int) - (a : Int) < 50) := by omega
              go_wp2_with fail
              obtain ⟨iN1202, hiN1202⟩ : ∃ q, q = kx := ⟨_, rfl⟩
              obtain ⟨jN1202, hjN1202⟩ : ∃ q, q = kx - 1 := ⟨_, rfl⟩
              have ea1202 : ((kxp : Int) + 1).toNat = iN1202 := by omega
              have pa1202 : (0 : Int) ≤ (kxp : Int) + 1 := by omega
              have ba1202 : (kxp : Int) + 1 < (d.size : Int) := by omega
              have ra1202 : IntKind.i64.wrap ((kxp : Int) + 1) = (kxp : Int) + 1 := by rw [IntKind.wrap_i64]; omega
              have ec1202 : ((kxp : Int)).toNat = jN1202 := by omega
              have pc1202 : (0 : Int) ≤ (kxp : Int) := by omega
              have bc1202 : (kxp : Int) < (d.size : Int) := by omega
              have rc1202 : IntKind.i64.wrap ((kxp : Int)) = (kxp : Int) := by rw [IntKind.wrap_i64]; omega
              obtain ⟨x1202, hx1202⟩ : ∃ x, x = dk[kx]! := ⟨_, rfl⟩
              obtain ⟨y1202, hy1202⟩ : ∃ x, x = dk[kx - 1]! := ⟨_, rfl⟩
              have S3 : Aside (SW enc w0 blk off (swp dk (kx) (kx - 1)) ((w2.setCell ⟨blk, off + iN1202, none⟩ (enc y1202)).setCell ⟨blk, off + jN1202, none⟩ (enc x1202)).drew) := by rw [hiN1202, hjN1202, hx1202, hy1202]; exact S2.out.swapped R (kx) (kx - 1) (by omega) (by omega)
              have c1202a := S2.out.c1 R (by omega) (kx) (by omega)
              have c1202b := S2.out.c1 R (by omega) (kx - 1) (by omega)
              have f1202a := S2.out.f1 R (by omega) (kx) (by omega)
              have f1202b := S2.out.f1 R (by omega) (kx - 1) (by omega)
              obtain ⟨u1202, c1202c⟩ := S2.out.c2 R (by omega) (kx) (kx - 1) (by omega) (by omega) (enc y1202)
              rw [← hjN1202, ← hiN1202] at c1202c
              rw [← hx1202, ← hiN1202] at c1202a
              rw [← hy1202, ← hjN1202] at c1202b
              rw [← hiN1202] at f1202a
              rw [← hjN1202] at f1202b
              clear S2 hx1202 hy1202 hiN1202 hjN1202
              go_wp2_with fail
              go_big_region_o
              clear c1202a c1202b c1202c f1202a f1202b
              generalize ((w2.setCell ⟨blk, off + iN1202, none⟩ (enc y1202)).setCell ⟨blk, off + jN1202, none⟩ (enc x1202)).drew = w3 at S3 ⊢
              clear ea1202 ec1202
              have hX1 : (swp dk kx (kx - 1)).size = d.size := by rw [size_swp]; exact hsk
              by_cases hka : kx - a ≥ 2
              · -- i - a >= 2: the smaller one goes down
                have hkaz : (2 : Int) ≤ (kx : Int) - (a : Int) := by omega
                have hkad : decide ((2 : Int) ≤ (kxp : Int) + 1 - (a : Int)) = true := decide_eq_true (by omega)
                go_wp2
                go_loopg [11] (kx - 1) (fun g3 vj wr3 => ∃ (j : Nat) (dj : Array α), vj = .int .i64 j ∧ j ≤ kx - 1 ∧ j ≤ g3 ∧ dj.size = d.size ∧ Aside (SW enc w0 blk off dj wr3) ∧ Hid (shiftDown (ltOf cf) j dj = shiftDown (ltOf cf) (kx - 1) (swp dk kx (kx - 1))))
                case atStart => exact ⟨kx - 1, (swp dk kx (kx - 1)), by congr 1; omega, Nat.le_refl _, Nat.le_refl _, hX1, S3, rfl⟩
                case round =>
                  clear S3
                  obtain ⟨j, dj, rfl, hjk, hg3, hsj, SD, HDn⟩ := hrel
                  by_cases hj1 : 1 ≤ j
                  · have hj1z : (1 : Int) ≤ (j : Int) := by omega
                    obtain ⟨jp, hjp⟩ : ∃ q, q + 1 = j := ⟨j - 1, by omega⟩
                    have zjp : (j : Int) = (jp : Int) + 1 := by omega
                    have hj1z' : (1 : Int) ≤ (jp : Int) + 1 := by omega
                    go_wp2_with fail
                    cases hlv2 : (ltOf cf) dj[j]! dj[j - 1]! with
                    | true =>
                      obtain ⟨iN1203, hiN1203⟩ : ∃ q, q = j := ⟨_, rfl⟩
                      obtain ⟨jN1203, hjN1203⟩ : ∃ q, q = j - 1 := ⟨_, rfl⟩
                      have ea1203 : ((jp : Int) + 1).toNat = iN1203 := by omega
                      have pa1203 : (0 : Int) ≤ (jp : Int) + 1 := by omega
                      have ba1203 : (jp : Int) + 1 < (d.size : Int) := by omega
                      have ra1203 : IntKind.i64.wrap ((jp : Int) + 1) = (jp : Int) + 1 := by rw [IntKind.wrap_i64]; omega
                      have ec1203 : ((jp : Int)).toNat = jN1203 := by omega
                      have pc1203 : (0 : Int) ≤ (jp : Int) := by omega
                      have bc1203 : (jp : Int) < (d.size : Int) := by omega
                      have rc1203 : IntKind.i64.wrap ((jp : Int)) = (jp : Int) := by rw [IntKind.wrap_i64]; omega
                      obtain ⟨x1203, hx1203⟩ : ∃ x, x = dj[j]! := ⟨_, rfl⟩
                      obtain ⟨y1203, hy1203⟩ : ∃ x, x = dj[j - 1]! := ⟨_, rfl⟩
                      have l1203a := SD.out.cl R (by omega) (j) (by omega)
                      have l1203b := SD.out.cl R (by omega) (j - 1) (by omega)
                      rw [← hx1203, ← hiN1203] at l1203a
                      rw [← hy1203, ← hjN1203] at l1203b
                      have hc1203 := cmpF SD.out HC.out (by omega) x1203 y1203
                      have hv1203 : cf x1203 y1203 < 0 := by rw [hx1203, hy1203]; exact of_decide_eq_true hlv2
                      have hd1203 : decide (cf x1203 y1203 < 0) = true := decide_eq_true hv1203
                      clear hx1203 hy1203 hiN1203 hjN1203
                      go_wp2_with fail
                      go_quiet_grown (first | (go_at_fn g; refine Calls.grown_of (hc1203 _ _)))
                      have SD2 : Aside (SW enc w0 blk off dj (grow (wr.drewN nq) osq)) := SD.out.grown nq osq
                      clear l1203a l1203b hc1203 SD
                      generalize grow (wr.drewN nq) osq = wd2 at SD2 ⊢
                      clear nq osq
                      clear ea1203 ec1203
                      go_wp2_with fail
                      obtain ⟨iN1204, hiN1204⟩ : ∃ q, q = j := ⟨_, rfl⟩
                      obtain ⟨jN1204, hjN1204⟩ : ∃ q, q = j - 1 := ⟨_, rfl⟩
                      have ea1204 : ((jp : Int) + 1).toNat = iN1204 := by omega
                      have pa1204 : (0 : Int) ≤ (jp : Int) + 1 := by omega
                      have ba1204 : (jp : Int) + 1 < (d.size : Int) := by omega
                      have ra1204 : IntKind.i64.wrap ((jp : Int) + 1) = (jp : Int) + 1 := by rw [IntKind.wrap_i64]; omega
                      have ec1204 : ((jp : Int)).toNat = jN1204 := by omega
                      have pc1204 : (0 : Int) ≤ (jp : Int) := by omega
                      have bc1204 : (jp : Int) < (d.size : Int) := by omega
                      have rc1204 : IntKind.i64.wrap ((jp : Int)) = (jp : Int) := by rw [IntKind.wrap_i64]; omega
                      obtain ⟨x1204, hx1204⟩ : ∃ x, x = dj[j]! := ⟨_, rfl⟩
                      obtain ⟨y1204, hy1204⟩ : ∃ x, x = dj[j - 1]! := ⟨_, rfl⟩
                      have SD3 : Aside (SW enc w0 blk off (swp dj (j) (j - 1)) ((wd2.setCell ⟨blk, off + iN1204, none⟩ (enc y1204)).setCell ⟨blk, off + jN1204, none⟩ (enc x1204)).drew) := by rw [hiN1204, hjN1204, hx1204, hy1204]; exact SD2.out.swapped R (j) (j - 1) (by omega) (by omega)
                      have c1204a := SD2.out.c1 R (by omega) (j) (by omega)
                      have c1204b := SD2.out.c1 R (by omega) (j - 1) (by omega)
                      have f1204a := SD2.out.f1 R (by omega) (j) (by omega)
                      have f1204b := SD2.out.f1 R (by omega) (j - 1) (by omega)
                      obtain ⟨u1204, c1204c⟩ := SD2.out.c2 R (by omega) (j) (j - 1) (by omega) (by omega) (enc y1204)
                      rw [← hjN1204, ← hiN1204] at c1204c
                      rw [← hx1204, ← hiN1204] at c1204a
                      rw [← hy1204, ← hjN1204] at c1204b
                      rw [← hiN1204] at f1204a
                      rw [← hjN1204] at f1204b
                      clear SD2 hx1204 hy1204 hiN1204 hjN1204
                      go_wp2_with fail
                      go_big_region_o
                      clear c1204a c1204b c1204c f1204a f1204b
                      generalize ((wd2.setCell ⟨blk, off + iN1204, none⟩ (enc y1204)).setCell ⟨blk, off + jN1204, none⟩ (enc x1204)).drew = wd3 at SD3 ⊢
                      clear ea1204 ec1204
                      go_wp2
                      go_roundg (j - 1)
                      case measure => omega
                      case rel => exact ⟨j - 1, swp dj j (j - 1), by congr 1; omega, by omega, Nat.le_refl _, by rw [size_swp]; exact hsj, SD3, (show Hid _ from by rw [← HDn.out, shiftDown_go (ltOf cf) j dj hj1 hlv2]; exact rfl)⟩
                    | false =>
                      -- break
                      have HD : Hid (fixDown (ltOf cf) a kx (swp dk kx (kx - 1)) = dj) := by show _ = _; unfold fixDown; rw [if_pos hka, ← HDn.out, shiftDown_stop (ltOf cf) j dj (Or.inr hlv2)]
                      obtain ⟨iN1205, hiN1205⟩ : ∃ q, q = j := ⟨_, rfl⟩
                      obtain ⟨jN1205, hjN1205⟩ : ∃ q, q = j - 1 := ⟨_, rfl⟩
                      have ea1205 : ((jp : Int) + 1).toNat = iN1205 := by omega
                      have pa1205 : (0 : Int) ≤ (jp : Int) + 1 := by omega
                      have ba1205 : (jp : Int) + 1 < (d.size : Int) := by omega
                      have ra1205 : IntKind.i64.wrap ((jp : Int) + 1) = (jp : Int) + 1 := by rw [IntKind.wrap_i64]; omega
                      have ec1205 : ((jp : Int)).toNat = jN1205 := by omega
                      have pc1205 : (0 : Int) ≤ (jp : Int) := by omega
                      have bc1205 : (jp : Int) < (d.size : Int) := by omega
                      have rc1205 : IntKind.i64.wrap ((jp : Int)) = (jp : Int) := by rw [IntKind.wrap_i64]; omega
                      obtain ⟨x1205, hx1205⟩ : ∃ x, x = dj[j]! := ⟨_, rfl⟩
                      obtain ⟨y1205, hy1205⟩ : ∃ x, x = dj[j - 1]! := ⟨_, rfl⟩
                      have l1205a := SD.out.cl R (by omega) (j) (by omega)
                      have l1205b := SD.out.cl R (by omega) (j - 1) (by omega)
                      rw [← hx1205, ← hiN1205] at l1205a
                      rw [← hy1205, ← hjN1205] at l1205b
                      have hc1205 := cmpF SD.out HC.out (by omega) x1205 y1205
                      have hv1205 : ¬ cf x1205 y1205 < 0 := by rw [hx1205, hy1205]; exact of_decide_eq_false hlv2
                      have hd1205 : decide (cf x1205 y1205 < 0) = false := decide_eq_false hv1205
                      clear hx1205 hy1205 hiN1205 hjN1205
                      go_wp2_with fail
                      go_quiet_grown (first | (go_at_fn g; refine Calls.grown_of (hc1205 _ _)))
                      have SD4 : Aside (SW enc w0 blk off dj (grow (wr.drewN nq) osq)) := SD.out.grown nq osq
                      clear l1205a l1205b hc1205 SD
                      generalize grow (wr.drewN nq) osq = wd4 at SD4 ⊢
                      clear nq osq
                      clear ea1205 ec1205
                      by_cases hbk : b - kx ≥ 2
                      · -- b - i >= 2: the greater one goes up
                        have hbkz : (2 : Int) ≤ (b : Int) - (kx : Int) := by omega
                        have hbkd : decide ((2 : Int) ≤ (b : Int) - ((kxp : Int) + 1)) = true := decide_eq_true (by omega)
                        go_wp2
                        go_loopg [12] (b - (kx + 1)) (fun g4 vj wr4 => ∃ (ju : Nat) (du : Array α), vj = .int .i64 ju ∧ kx + 1 ≤ ju ∧ ju ≤ b ∧ b - ju ≤ g4 ∧ du.size = d.size ∧ Aside (SW enc w0 blk off du wr4) ∧ Hid (shiftUp (ltOf cf) b ju du = shiftUp (ltOf cf) b (kx + 1) dj))
                        case atStart => exact ⟨kx + 1, dj, by first | go_num | (congr 1; omega), Nat.le_refl _, by omega, Nat.le_refl _, hsj, SD4, rfl⟩
                        case round =>
                          clear SD4
                          obtain ⟨ju, du, rfl, hkj, hjb, hg4, hsu, SU, HU⟩ := hrel
                          by_cases hjb' : ju < b
                          · have hjz : (ju : Int) < (b : Int) := by omega
                            obtain ⟨jup, hjup⟩ : ∃ q, q + 1 = ju := ⟨ju - 1, by omega⟩
                            have zjup : (ju : Int) = (jup : Int) + 1 := by omega
                            have hjz' : (jup : Int) + 1 < (b : Int) := by omega
                            go_wp2_with fail
                            cases hlv3 : (ltOf cf) du[ju]! du[ju - 1]! with
                            | true =>
                              obtain ⟨iN1206, hiN1206⟩ : ∃ q, q = ju := ⟨_, rfl⟩
                              obtain ⟨jN1206, hjN1206⟩ : ∃ q, q = ju - 1 := ⟨_, rfl⟩
                              have ea1206 : ((jup : Int) + 1).toNat = iN1206 := by omega
                              have pa1206 : (0 : Int) ≤ (jup : Int) + 1 := by omega
                              have ba1206 : (jup : Int) + 1 < (d.size : Int) := by omega
                              have ra1206 : IntKind.i64.wrap ((jup : Int) + 1) = (jup : Int) + 1 := by rw [IntKind.wrap_i64]; omega
                              have ec1206 : ((jup : Int)).toNat = jN1206 := by omega
                              have pc1206 : (0 : Int) ≤ (jup : Int) := by omega
                              have bc1206 : (jup : Int) < (d.size : Int) := by omega
                              have rc1206 : IntKind.i64.wrap ((jup : Int)) = (jup : Int) := by rw [IntKind.wrap_i64]; omega
                              obtain ⟨x1206, hx1206⟩ : ∃ x, x = du[ju]! := ⟨_, rfl⟩
                              obtain ⟨y1206, hy1206⟩ : ∃ x, x = du[ju - 1]! := ⟨_, rfl⟩
                              have l1206a := SU.out.cl R (by omega) (ju) (by omega)
                              have l1206b := SU.out.cl R (by omega) (ju - 1) (by omega)
                              rw [← hx1206, ← hiN1206] at l1206a
                              rw [← hy1206, ← hjN1206] at l1206b
                              have hc1206 := cmpF SU.out HC.out (by omega) x1206 y1206
                              have hv1206 : cf x1206 y1206 < 0 := by rw [hx1206, hy1206]; exact of_decide_eq_true hlv3
                              have hd1206 : decide (cf x1206 y1206 < 0) = true := decide_eq_true hv1206
                              clear hx1206 hy1206 hiN1206 hjN1206
                              go_wp2_with fail
                              go_quiet_grown (first | (go_at_fn g; refine Calls.grown_of (hc1206 _ _)))
                              have SU127 : Aside (SW enc w0 blk off du (grow (wr.drewN nq) osq)) := SU.out.grown nq osq
                              clear l1206a l1206b hc1206 SU
                              generalize grow (wr.drewN nq) osq = wu128 at SU127 ⊢
                              clear nq osq
                              clear ea1206 ec1206
                              go_wp2_with fail
                              obtain ⟨iN1207, hiN1207⟩ : ∃ q, q = ju := ⟨_, rfl⟩
                              obtain ⟨jN1207, hjN1207⟩ : ∃ q, q = ju - 1 := ⟨_, rfl⟩
                              have ea1207 : ((jup : Int) + 1).toNat = iN1207 := by omega
                              have pa1207 : (0 : Int) ≤ (jup : Int) + 1 := by omega
                              have ba1207 : (jup : Int) + 1 < (d.size : Int) := by omega
                              have ra1207 : IntKind.i64.wrap ((jup : Int) + 1) = (jup : Int) + 1 := by rw [IntKind.wrap_i64]; omega
                              have ec1207 : ((jup : Int)).toNat = jN1207 := by omega
                              have pc1207 : (0 : Int) ≤ (jup : Int) := by omega
                              have bc1207 : (jup : Int) < (d.size : Int) := by omega
                              have rc1207 : IntKind.i64.wrap ((jup : Int)) = (jup : Int) := by rw [IntKind.wrap_i64]; omega
                              obtain ⟨x1207, hx1207⟩ : ∃ x, x = du[ju]! := ⟨_, rfl⟩
                              obtain ⟨y1207, hy1207⟩ : ∃ x, x = du[ju - 1]! := ⟨_, rfl⟩
                              have SU129 : Aside (SW enc w0 blk off (swp du (ju) (ju - 1)) ((wu128.setCell ⟨blk, off + iN1207, none⟩ (enc y1207)).setCell ⟨blk, off + jN1207, none⟩ (enc x1207)).drew) := by rw [hiN1207, hjN1207, hx1207, hy1207]; exact SU127.out.swapped R (ju) (ju - 1) (by omega) (by omega)
                              have c1207a := SU127.out.c1 R (by omega) (ju) (by omega)
                              have c1207b := SU127.out.c1 R (by omega) (ju - 1) (by omega)
                              have f1207a := SU127.out.f1 R (by omega) (ju) (by omega)
                              have f1207b := SU127.out.f1 R (by omega) (ju - 1) (by omega)
                              obtain ⟨u1207, c1207c⟩ := SU127.out.c2 R (by omega) (ju) (ju - 1) (by omega) (by omega) (enc y1207)
                              rw [← hjN1207, ← hiN1207] at c1207c
                              rw [← hx1207, ← hiN1207] at c1207a
                              rw [← hy1207, ← hjN1207] at c1207b
                              rw [← hiN1207] at f1207a
                              rw [← hjN1207] at f1207b
                              clear SU127 hx1207 hy1207 hiN1207 hjN1207
                              go_wp2_with fail
                              go_big_region_o
                              clear c1207a c1207b c1207c f1207a f1207b
                              generalize ((wu128.setCell ⟨blk, off + iN1207, none⟩ (enc y1207)).setCell ⟨blk, off + jN1207, none⟩ (enc x1207)).drew = wu130 at SU129 ⊢
                              clear ea1207 ec1207
                              go_wp2
                              go_roundg (b - (ju + 1))
                              case measure => omega
                              case rel => exact ⟨ju + 1, swp du ju (ju - 1), by first | go_num | (congr 1; omega), by omega, by omega, Nat.le_refl _, by rw [size_swp]; exact hsu, SU129, (show Hid _ from by rw [← HU.out, shiftUp_go (ltOf cf) b ju du hjb' hlv3]; exact rfl)⟩
                            | false =>
                              obtain ⟨iN1208, hiN1208⟩ : ∃ q, q = ju := ⟨_, rfl⟩
                              obtain ⟨jN1208, hjN1208⟩ : ∃ q, q = ju - 1 := ⟨_, rfl⟩
                              have ea1208 : ((jup : Int) + 1).toNat = iN1208 := by omega
                              have pa1208 : (0 : Int) ≤ (jup : Int) + 1 := by omega
                              have ba1208 : (jup : Int) + 1 < (d.size : Int) := by omega
                              have ra1208 : IntKind.i64.wrap ((jup : Int) + 1) = (jup : Int) + 1 := by rw [IntKind.wrap_i64]; omega
                              have ec1208 : ((jup : Int)).toNat = jN1208 := by omega
                              have pc1208 : (0 : Int) ≤ (jup : Int) := by omega
                              have bc1208 : (jup : Int) < (d.size : Int) := by omega
                              have rc1208 : IntKind.i64.wrap ((jup : Int)) = (jup : Int) := by rw [IntKind.wrap_i64]; omega
                              obtain ⟨x1208, hx1208⟩ : ∃ x, x = du[ju]! := ⟨_, rfl⟩
                              obtain ⟨y1208, hy1208⟩ : ∃ x, x = du[ju - 1]! := ⟨_, rfl⟩
                              have l1208a := SU.out.cl R (by omega) (ju) (by omega)
                              have l1208b := SU.out.cl R (by omega) (ju - 1) (by omega)
                              rw [← hx1208, ← hiN1208] at l1208a
                              rw [← hy1208, ← hjN1208] at l1208b
                              have hc1208 := cmpF SU.out HC.out (by omega) x1208 y1208
                              have hv1208 : ¬ cf x1208 y1208 < 0 := by rw [hx1208, hy1208]; exact of_decide_eq_false hlv3
                              have hd1208 : decide (cf x1208 y1208 < 0) = false := decide_eq_false hv1208
                              clear hx1208 hy1208 hiN1208 hjN1208
                              go_wp2_with fail
                              go_quiet_grown (first | (go_at_fn g; refine Calls.grown_of (hc1208 _ _)))
                              have SU131 : Aside (SW enc w0 blk off du (grow (wr.drewN nq) osq)) := SU.out.grown nq osq
                              clear l1208a l1208b hc1208 SU
                              generalize grow (wr.drewN nq) osq = wu132 at SU131 ⊢
                              clear nq osq
                              clear ea1208 ec1208
                              go_wp2
                              go_roundg (5 - (s + 1))
                              case measure => omega
                              case rel => exact ⟨kx, s + 1, du, by first | rfl | (congr 1; omega), by first | go_num | (congr 1; omega), by omega, Nat.le_refl _, by omega, by omega, hsu, SU131, (show Hid _ from by rw [← HO.out, pi_go (ltOf cf) a b s i kx dk hs HK.out (by omega) h50, HD.out, show fixUp (ltOf cf) b kx dj = du from by unfold fixUp; rw [if_pos hbk, ← HU.out, shiftUp_stop (ltOf cf) b ju du (Or.inr hlv3)]]; exact rfl)⟩
                          · have hjz : ¬ (ju : Int) < (b : Int) := by omega
                            go_wp2
                            go_roundg (5 - (s + 1))
                            case measure => omega
                            case rel => exact ⟨kx, s + 1, du, by first | rfl | (congr 1; omega), by first | go_num | (congr 1; omega), by omega, Nat.le_refl _, by omega, by omega, hsu, SU, (show Hid _ from by rw [← HO.out, pi_go (ltOf cf) a b s i kx dk hs HK.out (by omega) h50, HD.out, show fixUp (ltOf cf) b kx dj = du from by unfold fixUp; rw [if_pos hbk, ← HU.out, shiftUp_stop (ltOf cf) b ju du (Or.inl hjb')]]; exact rfl)⟩
                      · have hbkz : ¬ (2 : Int) ≤ (b : Int) - (kx : Int) := by omega
                        have hbkd : decide ((2 : Int) ≤ (b : Int) - ((kxp : Int) + 1)) = false := decide_eq_false (by omega)
                        go_wp2
                        go_roundg (5 - (s + 1))
                        case measure => omega
                        case rel => exact ⟨kx, s + 1, dj, by first | rfl | (congr 1; omega), by first | go_num | (congr 1; omega), by omega, Nat.le_refl _, by omega, by omega, hsj, SD4, (show Hid _ from by rw [← HO.out, pi_go (ltOf cf) a b s i kx dk hs HK.out (by omega) h50, HD.out, show fixUp (ltOf cf) b kx dj = dj from by unfold fixUp; rw [if_neg hbk]]; exact rfl)⟩
                  · have hj1z : ¬ (1 : Int) ≤ (j : Int) := by omega
                    have HD : Hid (fixDown (ltOf cf) a kx (swp dk kx (kx - 1)) = dj) := by show _ = _; unfold fixDown; rw [if_pos hka, ← HDn.out, shiftDown_stop (ltOf cf) j dj (Or.inl (by omega))]
                    by_cases hbk : b - kx ≥ 2
                    · -- b - i >= 2: the greater one goes up
                      have hbkz : (2 : Int) ≤ (b : Int) - (kx : Int) := by omega
                      have hbkd : decide ((2 : Int) ≤ (b : Int) - ((kxp : Int) + 1)) = true := decide_eq_true (by omega)
                      go_wp2
                      go_loopg [12] (b - (kx + 1)) (fun g4 vj wr4 => ∃ (ju : Nat) (du : Array α), vj = .int .i64 ju ∧ kx + 1 ≤ ju ∧ ju ≤ b ∧ b - ju ≤ g4 ∧ du.size = d.size ∧ Aside (SW enc w0 blk off du wr4) ∧ Hid (shiftUp (ltOf cf) b ju du = shiftUp (ltOf cf) b (kx + 1) dj))
                      case atStart => exact ⟨kx + 1, dj, by first | go_num | (congr 1; omega), Nat.le_refl _, by omega, Nat.le_refl _, hsj, SD, rfl⟩
                      case round =>
                        clear SD
                        obtain ⟨ju, du, rfl, hkj, hjb, hg4, hsu, SU, HU⟩ := hrel
                        by_cases hjb' : ju < b
                        · have hjz : (ju : Int) < (b : Int) := by omega
                          obtain ⟨jup, hjup⟩ : ∃ q, q + 1 = ju := ⟨ju - 1, by omega⟩
                          have zjup : (ju : Int) = (jup : Int) + 1 := by omega
                          have hjz' : (jup : Int) + 1 < (b : Int) := by omega
                          go_wp2_with fail
                          cases hlv3 : (ltOf cf) du[ju]! du[ju - 1]! with
                          | true =>
                            obtain ⟨iN1209, hiN1209⟩ : ∃ q, q = ju := ⟨_, rfl⟩
                            obtain ⟨jN1209, hjN1209⟩ : ∃ q, q = ju - 1 := ⟨_, rfl⟩
                            have ea1209 : ((jup : Int) + 1).toNat = iN1209 := by omega
                            have pa1209 : (0 : Int) ≤ (jup : Int) + 1 := by omega
                            have ba1209 : (jup : Int) + 1 < (d.size : Int) := by omega
                            have ra1209 : IntKind.i64.wrap ((jup : Int) + 1) = (jup : Int) + 1 := by rw [IntKind.wrap_i64]; omega
                            have ec1209 : ((jup : Int)).toNat = jN1209 := by omega
                            have pc1209 : (0 : Int) ≤ (jup : Int) := by omega
                            have bc1209 : (jup : Int) < (d.size : Int) := by omega
                            have rc1209 : IntKind.i64.wrap ((jup : Int)) = (jup : Int) := by rw [IntKind.wrap_i64]; omega
                            obtain ⟨x1209, hx1209⟩ : ∃ x, x = du[ju]! := ⟨_, rfl⟩
                            obtain ⟨y1209, hy1209⟩ : ∃ x, x = du[ju - 1]! := ⟨_, rfl⟩
                            have l1209a := SU.out.cl R (by omega) (ju) (by omega)
                            have l1209b := SU.out.cl R (by omega) (ju - 1) (by omega)
                            rw [← hx1209, ← hiN1209] at l1209a
                            rw [← hy1209, ← hjN1209] at l1209b
                            have hc1209 := cmpF SU.out HC.out (by omega) x1209 y1209
                            have hv1209 : cf x1209 y1209 < 0 := by rw [hx1209, hy1209]; exact of_decide_eq_true hlv3
                            have hd1209 : decide (cf x1209 y1209 < 0) = true := decide_eq_true hv1209
                            clear hx1209 hy1209 hiN1209 hjN1209
                            go_wp2_with fail
                            go_quiet_grown (first | (go_at_fn g; refine Calls.grown_of (hc1209 _ _)))
                            have SU133 : Aside (SW enc w0 blk off du (grow (wr.drewN nq) osq)) := SU.out.grown nq osq
                            clear l1209a l1209b hc1209 SU
                            generalize grow (wr.drewN nq) osq = wu134 at SU133 ⊢
                            clear nq osq
                            clear ea1209 ec1209
                            go_wp2_with fail
                            obtain ⟨iN1210, hiN1210⟩ : ∃ q, q = ju := ⟨_, rfl⟩
                            obtain ⟨jN1210, hjN1210⟩ : ∃ q, q = ju - 1 := ⟨_, rfl⟩
                            have ea1210 : ((jup : Int) + 1).toNat = iN1210 := by omega
                            have pa1210 : (0 : Int) ≤ (jup : Int) + 1 := by omega
                            have ba1210 : (jup : Int) + 1 < (d.size : Int) := by omega
                            have ra1210 : IntKind.i64.wrap ((jup : Int) + 1) = (jup : Int) + 1 := by rw [IntKind.wrap_i64]; omega
                            have ec1210 : ((jup : Int)).toNat = jN1210 := by omega
                            have pc1210 : (0 : Int) ≤ (jup : Int) := by omega
                            have bc1210 : (jup : Int) < (d.size : Int) := by omega
                            have rc1210 : IntKind.i64.wrap ((jup : Int)) = (jup : Int) := by rw [IntKind.wrap_i64]; omega
                            obtain ⟨x1210, hx1210⟩ : ∃ x, x = du[ju]! := ⟨_, rfl⟩
                            obtain ⟨y1210, hy1210⟩ : ∃ x, x = du[ju - 1]! := ⟨_, rfl⟩
                            have SU135 : Aside (SW enc w0 blk off (swp du (ju) (ju - 1)) ((wu134.setCell ⟨blk, off + iN1210, none⟩ (enc y1210)).setCell ⟨blk, off + jN1210, none⟩ (enc x1210)).drew) := by rw [hiN1210, hjN1210, hx1210, hy1210]; exact SU133.out.swapped R (ju) (ju - 1) (by omega) (by omega)
                            have c1210a := SU133.out.c1 R (by omega) (ju) (by omega)
                            have c1210b := SU133.out.c1 R (by omega) (ju - 1) (by omega)
                            have f1210a := SU133.out.f1 R (by omega) (ju) (by omega)
                            have f1210b := SU133.out.f1 R (by omega) (ju - 1) (by omega)
                            obtain ⟨u1210, c1210c⟩ := SU133.out.c2 R (by omega) (ju) (ju - 1) (by omega) (by omega) (enc y1210)
                            rw [← hjN1210, ← hiN1210] at c1210c
                            rw [← hx1210, ← hiN1210] at c1210a
                            rw [← hy1210, ← hjN1210] at c1210b
                            rw [← hiN1210] at f1210a
                            rw [← hjN1210] at f1210b
                            clear SU133 hx1210 hy1210 hiN1210 hjN1210
                            go_wp2_with fail
                            go_big_region_o
                            clear c1210a c1210b c1210c f1210a f1210b
                            generalize ((wu134.setCell ⟨blk, off + iN1210, none⟩ (enc y1210)).setCell ⟨blk, off + jN1210, none⟩ (enc x1210)).drew = wu136 at SU135 ⊢
                            clear ea1210 ec1210
                            go_wp2
                            go_roundg (b - (ju + 1))
                            case measure => omega
                            case rel => exact ⟨ju + 1, swp du ju (ju - 1), by first | go_num | (congr 1; omega), by omega, by omega, Nat.le_refl _, by rw [size_swp]; exact hsu, SU135, (show Hid _ from by rw [← HU.out, shiftUp_go (ltOf cf) b ju du hjb' hlv3]; exact rfl)⟩
                          | false =>
                            obtain ⟨iN1211, hiN1211⟩ : ∃ q, q = ju := ⟨_, rfl⟩
                            obtain ⟨jN1211, hjN1211⟩ : ∃ q, q = ju - 1 := ⟨_, rfl⟩
                            have ea1211 : ((jup : Int) + 1).toNat = iN1211 := by omega
                            have pa1211 : (0 : Int) ≤ (jup : Int) + 1 := by omega
                            have ba1211 : (jup : Int) + 1 < (d.size : Int) := by omega
                            have ra1211 : IntKind.i64.wrap ((jup : Int) + 1) = (jup : Int) + 1 := by rw [IntKind.wrap_i64]; omega
                            have ec1211 : ((jup : Int)).toNat = jN1211 := by omega
                            have pc1211 : (0 : Int) ≤ (jup : Int) := by omega
                            have bc1211 : (jup : Int) < (d.size : Int) := by omega
                            have rc1211 : IntKind.i64.wrap ((jup : Int)) = (jup : Int) := by rw [IntKind.wrap_i64]; omega
                            obtain ⟨x1211, hx1211⟩ : ∃ x, x = du[ju]! := ⟨_, rfl⟩
                            obtain ⟨y1211, hy1211⟩ : ∃ x, x = du[ju - 1]! := ⟨_, rfl⟩
                            have l1211a := SU.out.cl R (by omega) (ju) (by omega)
                            have l1211b := SU.out.cl R (by omega) (ju - 1) (by omega)
                            rw [← hx1211, ← hiN1211] at l1211a
                            rw [← hy1211, ← hjN1211] at l1211b
                            have hc1211 := cmpF SU.out HC.out (by omega) x1211 y1211
                            have hv1211 : ¬ cf x1211 y1211 < 0 := by rw [hx1211, hy1211]; exact of_decide_eq_false hlv3
                            have hd1211 : decide (cf x1211 y1211 < 0) = false := decide_eq_false hv1211
                            clear hx1211 hy1211 hiN1211 hjN1211
                            go_wp2_with fail
                            go_quiet_grown (first | (go_at_fn g; refine Calls.grown_of (hc1211 _ _)))
                            have SU137 : Aside (SW enc w0 blk off du (grow (wr.drewN nq) osq)) := SU.out.grown nq osq
                            clear l1211a l1211b hc1211 SU
                            generalize grow (wr.drewN nq) osq = wu138 at SU137 ⊢
                            clear nq osq
                            clear ea1211 ec1211
                            go_wp2
                            go_roundg (5 - (s + 1))
                            case measure => omega
                            case rel => exact ⟨kx, s + 1, du, by first | rfl | (congr 1; omega), by first | go_num | (congr 1; omega), by omega, Nat.le_refl _, by omega, by omega, hsu, SU137, (show Hid _ from by rw [← HO.out, pi_go (ltOf cf) a b s i kx dk hs HK.out (by omega) h50, HD.out, show fixUp (ltOf cf) b kx dj = du from by unfold fixUp; rw [if_pos hbk, ← HU.out, shiftUp_stop (ltOf cf) b ju du (Or.inr hlv3)]]; exact rfl)⟩
                        · have hjz : ¬ (ju : Int) < (b : Int) := by omega
                          go_wp2
                          go_roundg (5 - (s + 1))
                          case measure => omega
                          case rel => exact ⟨kx, s + 1, du, by first | rfl | (congr 1; omega), by first | go_num | (congr 1; omega), by omega, Nat.le_refl _, by omega, by omega, hsu, SU, (show Hid _ from by rw [← HO.out, pi_go (ltOf cf) a b s i kx dk hs HK.out (by omega) h50, HD.out, show fixUp (ltOf cf) b kx dj = du from by unfold fixUp; rw [if_pos hbk, ← HU.out, shiftUp_stop (ltOf cf) b ju du (Or.inl hjb')]]; exact rfl)⟩
                    · have hbkz : ¬ (2 : Int) ≤ (b : Int) - (kx : Int) := by omega
                      have hbkd : decide ((2 : Int) ≤ (b : Int) - ((kxp : Int) + 1)) = false := decide_eq_false (by omega)
                      go_wp2
                      go_roundg (5 - (s + 1))
                      case measure => omega
                      case rel => exact ⟨kx, s + 1, dj, by first | rfl | (congr 1; omega), by first | go_num | (congr 1; omega), by omega, Nat.le_refl _, by omega, by omega, hsj, SD, (show Hid _ from by rw [← HO.out, pi_go (ltOf cf) a b s i kx dk hs HK.out (by omega) h50, HD.out, show fixUp (ltOf cf) b kx dj = dj from by unfold fixUp; rw [if_neg hbk]]; exact rfl)⟩
              · have hkaz : ¬ (2 : Int) ≤ (kx : Int) - (a : Int) := by omega
                have hkad : decide ((2 : Int) ≤ (kxp : Int) + 1 - (a : Int)) = false := decide_eq_false (by omega)
                have HD : Hid (fixDown (ltOf cf) a kx (swp dk kx (kx - 1)) = (swp dk kx (kx - 1))) := by show _ = _; unfold fixDown; rw [if_neg hka]
                by_cases hbk : b - kx ≥ 2
                · -- b - i >= 2: the greater one goes up
                  have hbkz : (2 : Int) ≤ (b : Int) - (kx : Int) := by omega
                  have hbkd : decide ((2 : Int) ≤ (b : Int) - ((kxp : Int) + 1)) = true := decide_eq_true (by omega)
                  go_wp2
                  go_loopg [12] (b - (kx + 1)) (fun g4 vj wr4 => ∃ (ju : Nat) (du : Array α), vj = .int .i64 ju ∧ kx + 1 ≤ ju ∧ ju ≤ b ∧ b - ju ≤ g4 ∧ du.size = d.size ∧ Aside (SW enc w0 blk off du wr4) ∧ Hid (shiftUp (ltOf cf) b ju du = shiftUp (ltOf cf) b (kx + 1) (swp dk kx (kx - 1))))
                  case atStart => exact ⟨kx + 1, (swp dk kx (kx - 1)), by first | go_num | (congr 1; omega), Nat.le_refl _, by omega, Nat.le_refl _, hX1, S3, rfl⟩
                  case round =>
                    clear S3
                    obtain ⟨ju, du, rfl, hkj, hjb, hg4, hsu, SU, HU⟩ := hrel
                    by_cases hjb' : ju < b
                    · have hjz : (ju : Int) < (b : Int) := by omega
                      obtain ⟨jup, hjup⟩ : ∃ q, q + 1 = ju := ⟨ju - 1, by omega⟩
                      have zjup : (ju : Int) = (jup : Int) + 1 := by omega
                      have hjz' : (jup : Int) + 1 < (b : Int) := by omega
                      go_wp2_with fail
                      cases hlv3 : (ltOf cf) du[ju]! du[ju - 1]! with
                      | true =>
                        obtain ⟨iN1212, hiN1212⟩ : ∃ q, q = ju := ⟨_, rfl⟩
                        obtain ⟨jN1212, hjN1212⟩ : ∃ q, q = ju - 1 := ⟨_, rfl⟩
                        have ea1212 : ((jup : Int) + 1).toNat = iN1212 := by omega
                        have pa1212 : (0 : Int) ≤ (jup : Int) + 1 := by omega
                        have ba1212 : (jup : Int) + 1 < (d.size : Int) := by omega
                        have ra1212 : IntKind.i64.wrap ((jup : Int) + 1) = (jup : Int) + 1 := by rw [IntKind.wrap_i64]; omega
                        have ec1212 : ((jup : Int)).toNat = jN1212 := by omega
                        have pc1212 : (0 : Int) ≤ (jup : Int) := by omega
                        have bc1212 : (jup : Int) < (d.size : Int) := by omega
                        have rc1212 : IntKind.i64.wrap ((jup : Int)) = (jup : Int) := by rw [IntKind.wrap_i64]; omega
                        obtain ⟨x1212, hx1212⟩ : ∃ x, x = du[ju]! := ⟨_, rfl⟩
                        obtain ⟨y1212, hy1212⟩ : ∃ x, x = du[ju - 1]! := ⟨_, rfl⟩
                        have l1212a := SU.out.cl R (by omega) (ju) (by omega)
                        have l1212b := SU.out.cl R (by omega) (ju - 1) (by omega)
                        rw [← hx1212, ← hiN1212] at l1212a
                        rw [← hy1212, ← hjN1212] at l1212b
                        have hc1212 := cmpF SU.out HC.out (by omega) x1212 y1212
                        have hv1212 : cf x1212 y1212 < 0 := by rw [hx1212, hy1212]; exact of_decide_eq_true hlv3
                        have hd1212 : decide (cf x1212 y1212 < 0) = true := decide_eq_true hv1212
                        clear hx1212 hy1212 hiN1212 hjN1212
                        go_wp2_with fail
                        go_quiet_grown (first | (go_at_fn g; refine Calls.grown_of (hc1212 _ _)))
                        have SU139 : Aside (SW enc w0 blk off du (grow (wr.drewN nq) osq)) := SU.out.grown nq osq
                        clear l1212a l1212b hc1212 SU
                        generalize grow (wr.drewN nq) osq = wu140 at SU139 ⊢
                        clear nq osq
                        clear ea1212 ec1212
                        go_wp2_with fail
                        obtain ⟨iN1213, hiN1213⟩ : ∃ q, q = ju := ⟨_, rfl⟩
                        obtain ⟨jN1213, hjN1213⟩ : ∃ q, q = ju - 1 := ⟨_, rfl⟩
                        have ea1213 : ((jup : Int) + 1).toNat = iN1213 := by omega
                        have pa1213 : (0 : Int) ≤ (jup : Int) + 1 := by omega
                        have ba1213 : (jup : Int) + 1 < (d.size : Int) := by omega
                        have ra1213 : IntKind.i64.wrap ((jup : Int) + 1) = (jup : Int) + 1 := by rw [IntKind.wrap_i64]; omega
                        have ec1213 : ((jup : Int)).toNat = jN1213 := by omega
                        have pc1213 : (0 : Int) ≤ (jup : Int) := by omega
                        have bc1213 : (jup : Int) < (d.size : Int) := by omega
                        have rc1213 : IntKind.i64.wrap ((jup : Int)) = (jup : Int) := by rw [IntKind.wrap_i64]; omega
                        obtain ⟨x1213, hx1213⟩ : ∃ x, x = du[ju]! := ⟨_, rfl⟩
                        obtain ⟨y1213, hy1213⟩ : ∃ x, x = du[ju - 1]! := ⟨_, rfl⟩
                        have SU141 : Aside (SW enc w0 blk off (swp du (ju) (ju - 1)) ((wu140.setCell ⟨blk, off + iN1213, none⟩ (enc y1213)).setCell ⟨blk, off + jN1213, none⟩ (enc x1213)).drew) := by rw [hiN1213, hjN1213, hx1213, hy1213]; exact SU139.out.swapped R (ju) (ju - 1) (by omega) (by omega)
                        have c1213a := SU139.out.c1 R (by omega) (ju) (by omega)
                        have c1213b := SU139.out.c1 R (by omega) (ju - 1) (by omega)
                        have f1213a := SU139.out.f1 R (by omega) (ju) (by omega)
                        have f1213b := SU139.out.f1 R (by omega) (ju - 1) (by omega)
                        obtain ⟨u1213, c1213c⟩ := SU139.out.c2 R (by omega) (ju) (ju - 1) (by omega) (by omega) (enc y1213)
                        rw [← hjN1213, ← hiN1213] at c1213c
                        rw [← hx1213, ← hiN1213] at c1213a
                        rw [← hy1213, ← hjN1213] at c1213b
                        rw [← hiN1213] at f1213a
                        rw [← hjN1213] at f1213b
                        clear SU139 hx1213 hy1213 hiN1213 hjN1213
                        go_wp2_with fail
                        go_big_region_o
                        clear c1213a c1213b c1213c f1213a f1213b
                        generalize ((wu140.setCell ⟨blk, off + iN1213, none⟩ (enc y1213)).setCell ⟨blk, off + jN1213, none⟩ (enc x1213)).drew = wu142 at SU141 ⊢
                        clear ea1213 ec1213
                        go_wp2
                        go_roundg (b - (ju + 1))
                        case measure => omega
                        case rel => exact ⟨ju + 1, swp du ju (ju - 1), by first | go_num | (congr 1; omega), by omega, by omega, Nat.le_refl _, by rw [size_swp]; exact hsu, SU141, (show Hid _ from by rw [← HU.out, shiftUp_go (ltOf cf) b ju du hjb' hlv3]; exact rfl)⟩
                      | false =>
                        obtain ⟨iN1214, hiN1214⟩ : ∃ q, q = ju := ⟨_, rfl⟩
                        obtain ⟨jN1214, hjN1214⟩ : ∃ q, q = ju - 1 := ⟨_, rfl⟩
                        have ea1214 : ((jup : Int) + 1).toNat = iN1214 := by omega
                        have pa1214 : (0 : Int) ≤ (jup : Int) + 1 := by omega
                        have ba1214 : (jup : Int) + 1 < (d.size : Int) := by omega
                        have ra1214 : IntKind.i64.wrap ((jup : Int) + 1) = (jup : Int) + 1 := by rw [IntKind.wrap_i64]; omega
                        have ec1214 : ((jup : Int)).toNat = jN1214 := by omega
                        have pc1214 : (0 : Int) ≤ (jup : Int) := by omega
                        have bc1214 : (jup : Int) < (d.size : Int) := by omega
                        have rc1214 : IntKind.i64.wrap ((jup : Int)) = (jup : Int) := by rw [IntKind.wrap_i64]; omega
                        obtain ⟨x1214, hx1214⟩ : ∃ x, x = du[ju]! := ⟨_, rfl⟩
                        obtain ⟨y1214, hy1214⟩ : ∃ x, x = du[ju - 1]! := ⟨_, rfl⟩
                        have l1214a := SU.out.cl R (by omega) (ju) (by omega)
                        have l1214b := SU.out.cl R (by omega) (ju - 1) (by omega)
                        rw [← hx1214, ← hiN1214] at l1214a
                        rw [← hy1214, ← hjN1214] at l1214b
                        have hc1214 := cmpF SU.out HC.out (by omega) x1214 y1214
                        have hv1214 : ¬ cf x1214 y1214 < 0 := by rw [hx1214, hy1214]; exact of_decide_eq_false hlv3
                        have hd1214 : decide (cf x1214 y1214 < 0) = false := decide_eq_false hv1214
                        clear hx1214 hy1214 hiN1214 hjN1214
                        go_wp2_with fail
                        go_quiet_grown (first | (go_at_fn g; refine Calls.grown_of (hc1214 _ _)))
                        have SU143 : Aside (SW enc w0 blk off du (grow (wr.drewN nq) osq)) := SU.out.grown nq osq
                        clear l1214a l1214b hc1214 SU
                        generalize grow (wr.drewN nq) osq = wu144 at SU143 ⊢
                        clear nq osq
                        clear ea1214 ec1214
                        go_wp2
                        go_roundg (5 - (s + 1))
                        case measure => omega
                        case rel => exact ⟨kx, s + 1, du, by first | rfl | (congr 1; omega), by first | go_num | (congr 1; omega), by omega, Nat.le_refl _, by omega, by omega, hsu, SU143, (show Hid _ from by rw [← HO.out, pi_go (ltOf cf) a b s i kx dk hs HK.out (by omega) h50, HD.out, show fixUp (ltOf cf) b kx (swp dk kx (kx - 1)) = du from by unfold fixUp; rw [if_pos hbk, ← HU.out, shiftUp_stop (ltOf cf) b ju du (Or.inr hlv3)]]; exact rfl)⟩
                    · have hjz : ¬ (ju : Int) < (b : Int) := by omega
                      go_wp2
                      go_roundg (5 - (s + 1))
                      case measure => omega
                      case rel => exact ⟨kx, s + 1, du, by first | rfl | (congr 1; omega), by first | go_num | (congr 1; omega), by omega, Nat.le_refl _, by omega, by omega, hsu, SU, (show Hid _ from by rw [← HO.out, pi_go (ltOf cf) a b s i kx dk hs HK.out (by omega) h50, HD.out, show fixUp (ltOf cf) b kx (swp dk kx (kx - 1)) = du from by unfold fixUp; rw [if_pos hbk, ← HU.out, shiftUp_stop (ltOf cf) b ju du (Or.inl hjb')]]; exact rfl)⟩
                · have hbkz : ¬ (2 : Int) ≤ (b : Int) - (kx : Int) := by omega
                  have hbkd : decide ((2 : Int) ≤ (b : Int) - ((kxp : Int) + 1)) = false := decide_eq_false (by omega)
                  go_wp2
                  go_roundg (5 - (s + 1))
                  case measure => omega
                  case rel => exact ⟨kx, s + 1, (swp dk kx (kx - 1)), by first | rfl | (congr 1; omega), by first | go_num | (congr 1; omega), by omega, Nat.le_refl _, by omega, by omega, hX1, S3, (show Hid _ from by rw [← HO.out, pi_go (ltOf cf) a b s i kx dk hs HK.out (by omega) h50, HD.out, show fixUp (ltOf cf) b kx (swp dk kx (kx - 1)) = (swp dk kx (kx - 1)) from by unfold fixUp; rw [if_neg hbk]]; exact rfl)⟩
        · -- the scan has come to b: true (the guard is false: 'cmp' is not called)
          obtain rfl : kx = b := by omega
          have hkz : ¬ (kx : Int) < (kx : Int) := by omega
          have hkd : decide ((kx : Int) < (kx : Int)) = false := decide_eq_false hkz
          go_wp2_with fail
          go_big_region_o
          have S2 : Aside (SW enc w0 blk off dk wr.drew) := S1.out.drew
          clear S1
          generalize wr.drew = w2 at S2 ⊢
          go_wp2
          have hv : Sort.partialInsertionSort (ltOf cf) d a kx = (dk, true) := by
            unfold Sort.partialInsertionSort
            rw [← HO.out, pi_true (ltOf cf) a kx s i dk hs (by rw [← HSc.out, scanSorted_stop (ltOf cf) dk kx kx (Or.inl (by omega))])]
          rw [hv]
          go_ret
          exact ⟨rfl, S2.out⟩
    · -- five steps are done: false
      obtain rfl : s = 5 := by omega
      go_wp2
      have hv : Sort.partialInsertionSort (ltOf cf) d a b = (dk, false) := by
        unfold Sort.partialInsertionSort
        rw [← HO.out, pi_end]
      rw [hv]
      go_ret
      exact ⟨rfl, S1.out⟩
end
end Go.Proofs.Ytdeiinfljfgmeaa
