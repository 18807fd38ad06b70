/-
  slices.SortFunc by a function value whose first arguments are bound: the walks of the shelf, turned. (Printed by mksortf.py.)
-/
import Derived.Test.YtdeiinfljfgmeaaSf1
import Derived.Shelf.SlSortCmp.Partition1
import Derived.Shelf.SlSortCmp.PartitionEqual1
namespace Go.Proofs.Ytdeiinfljfgmeaa
open Go.Proofs
section
open Go.Shelf Go.RowKit Go.Lib Go.Sort
variable {P : Program} {ρ : Ren} {α : Type} [Inhabited α]

set_option maxHeartbeats 64000000 in
set_option maxRecDepth 1000000 in
theorem Any.partitionCmpFunc (L : SlLaysF.n27 P ρ) (enc : α → Value) (cf : α → α → Int) (g : Nat) (fv : Value) (blk off cap a b pivot : Nat) (d0 d : Array α) (w0 w : World)
    (eg : ∀ args w, (callFunc g args).run P w = .ok (.enter g args) w) (hcmp : CmpLays1 P g fv enc cf blk off d0.size w0) (R : Row1 enc w0 blk off d0) (hs : d0.size = d.size) (S : SW enc w0 blk off d w) (hap : a ≤ pivot) (hpb : pivot < b) (hb : b ≤ d.size) (hsz : d.size < 4611686018427387904) :
    Calls P (ρ.f 27) #[.slice (some ⟨blk, off, none⟩) d.size cap, .int .i64 a, .int .i64 b, .int .i64 pivot, .func (.func g) #[fv] #[]] w fun e w' =>
      e = .returned (.tuple #[.int .i64 (Sort.partition (ltOf cf) d a b pivot).1, .bool (Sort.partition (ltOf cf) d a b pivot).2.1]) ∧ SW enc w0 blk off (Sort.partition (ltOf cf) d a b pivot).2.2 w' := by
  have mixed := L.mixed; have t0 := L.t0; have a0 := L.a0; have z0 := L.z0; have v0 := L.v0; have t3 := L.t3; have a3 := L.a3; have z3 := L.z3; have v3 := L.v3; have t4 := L.t4; have a4 := L.a4; have z4 := L.z4; have v4 := L.v4; have t22 := L.t22; have a22 := L.a22; have z22 := L.z22; have v22 := L.v22; have t25 := L.t25; have a25 := L.a25; have z25 := L.z25; have v25 := L.v25
  have a24 := L.a24; have z24 := L.z24
  have u22 := run_underlying L.t22
  have hcl0 := R.hO.cells
  simp only [Value.cells] at hcl0
  have hst := R.hO.store P
  obtain ⟨_, _, FG⟩ := L.f27
  have HC : Aside _ := hcmp
  have S0 : Aside (SW enc w0 blk off d w) := S
  clear S
  clear hcmp
  go_enter FG, SlBodyF.n27_ntmps ρ
  go_wp2_with fail
  obtain ⟨iN1235, hiN1235⟩ : ∃ q, q = a := ⟨_, rfl⟩
  obtain ⟨jN1235, hjN1235⟩ : ∃ q, q = pivot := ⟨_, rfl⟩
  have ea1235 : ((a : Int)).toNat = iN1235 := by omega
  have pa1235 : (0 : Int) ≤ (a : Int) := by omega
  have ba1235 : (a : Int) < (d.size : Int) := by omega
  have ra1235 : IntKind.i64.wrap ((a : Int)) = (a : Int) := by rw [IntKind.wrap_i64]; omega
  have ec1235 : ((pivot : Int)).toNat = jN1235 := by omega
  have pc1235 : (0 : Int) ≤ (pivot : Int) := by omega
  have bc1235 : (pivot : Int) < (d.size : Int) := by omega
  have rc1235 : IntKind.i64.wrap ((pivot : Int)) = (pivot : Int) := by rw [IntKind.wrap_i64]; omega
  obtain ⟨x1235, hx1235⟩ : ∃ x, x = d[a]! := ⟨_, rfl⟩
  obtain ⟨y1235, hy1235⟩ : ∃ x, x = d[pivot]! := ⟨_, rfl⟩
  have S1 : Aside (SW enc w0 blk off (swp d (a) (pivot)) ((w.setCell ⟨blk, off + iN1235, none⟩ (enc y1235)).setCell ⟨blk, off + jN1235, none⟩ (enc x1235)).drew) := by rw [hiN1235, hjN1235, hx1235, hy1235]; exact S0.out.swapped R (a) (pivot) (by omega) (by omega)
  have c1235a := S0.out.c1 R (by omega) (a) (by omega)
  have c1235b := S0.out.c1 R (by omega) (pivot) (by omega)
  have f1235a := S0.out.f1 R (by omega) (a) (by omega)
  have f1235b := S0.out.f1 R (by omega) (pivot) (by omega)
  obtain ⟨u1235, c1235c⟩ := S0.out.c2 R (by omega) (a) (pivot) (by omega) (by omega) (enc y1235)
  rw [← hjN1235, ← hiN1235] at c1235c
  rw [← hx1235, ← hiN1235] at c1235a
  rw [← hy1235, ← hjN1235] at c1235b
  rw [← hiN1235] at f1235a
  rw [← hjN1235] at f1235b
  clear S0 hx1235 hy1235 hiN1235 hjN1235
  go_wp2_with fail
  go_big_region_o
  clear c1235a c1235b c1235c f1235a f1235b
  generalize ((w.setCell ⟨blk, off + iN1235, none⟩ (enc y1235)).setCell ⟨blk, off + jN1235, none⟩ (enc x1235)).drew = w1 at S1 ⊢
  clear ea1235 ec1235
  -- THE FIRST ROUND's STATE UNDER THE NAMES THAT EVERY ROUND USES
  obtain ⟨i1, hi⟩ : ∃ i : Nat, i = a + 1 := ⟨_, rfl⟩
  obtain ⟨j1, hj⟩ : ∃ j : Nat, j = b - 1 := ⟨_, rfl⟩
  obtain ⟨dk1, hdk⟩ : ∃ dk : Array α, dk = Sort.swp d a pivot := ⟨_, rfl⟩
  rw [← hdk] at S1
  have hs1 : dk1.size = d.size := by rw [hdk]; exact size_swp _ _ _
  have hai1 : a < i1 := by omega
  have hij1 : i1 ≤ j1 + 1 := by omega
  have hjb1 : j1 < b := by omega
  have Hi : Hid (i1 = a + 1) := hi
  have Hj : Hid (j1 = b - 1) := hj
  have Hdk : Hid (dk1 = Sort.swp d a pivot) := hdk
  have ezi : ((a : Int) + 1) = (i1 : Int) := by omega
  have ezj : ((b : Int) - 1) = (j1 : Int) := by omega
  clear hi hj hdk
  go_wp2
  -- THE UPWARD SCAN
  go_loopw [12] (fun vi w1 => ∃ (p1 : Nat), vi = .int .i64 p1 ∧ i1 ≤ p1 ∧ p1 ≤ j1 + 1 ∧ Aside (SW enc w0 blk off dk1 w1) ∧
      Hid (Sort.scanUp (fun x => (ltOf cf) x dk1[a]!) dk1 j1 p1 = Sort.scanUp (fun x => (ltOf cf) x dk1[a]!) dk1 j1 i1))
    (fun vi _ => j1 + 1 - (intOf vi).toNat)
  case atStart => exact ⟨i1, rfl, Nat.le_refl _, hij1, S1, rfl⟩
  case round =>
    clear S1
    obtain ⟨p1, rfl, hii1, hij'1, SU1, hsc1⟩ := hrel
    by_cases hle1 : p1 ≤ j1
    · have hgu1 : decide ((p1 : Int) ≤ (j1 : Int)) = true := decide_eq_true (by omega)
      cases hlv1 : (ltOf cf) dk1[p1]! dk1[a]! with
      | true =>
        -- it goes on: i++
        obtain ⟨iN1228, hiN1228⟩ : ∃ q, q = p1 := ⟨_, rfl⟩
        obtain ⟨jN1228, hjN1228⟩ : ∃ q, q = a := ⟨_, rfl⟩
        have ea1228 : ((p1 : Int)).toNat = iN1228 := by omega
        have pa1228 : (0 : Int) ≤ (p1 : Int) := by omega
        have ba1228 : (p1 : Int) < (d.size : Int) := by omega
        have ra1228 : IntKind.i64.wrap ((p1 : Int)) = (p1 : Int) := by rw [IntKind.wrap_i64]; omega
        have ec1228 : ((a : Int)).toNat = jN1228 := by omega
        have pc1228 : (0 : Int) ≤ (a : Int) := by omega
        have bc1228 : (a : Int) < (d.size : Int) := by omega
        have rc1228 : IntKind.i64.wrap ((a : Int)) = (a : Int) := by rw [IntKind.wrap_i64]; omega
        obtain ⟨x1228, hx1228⟩ : ∃ x, x = dk1[p1]! := ⟨_, rfl⟩
        obtain ⟨y1228, hy1228⟩ : ∃ x, x = dk1[a]! := ⟨_, rfl⟩
        have l1228a := SU1.out.cl R (by omega) (p1) (by omega)
        have l1228b := SU1.out.cl R (by omega) (a) (by omega)
        rw [← hx1228, ← hiN1228] at l1228a
        rw [← hy1228, ← hjN1228] at l1228b
        have hc1228 := cmpF SU1.out HC.out (by omega) x1228 y1228
        have hv1228 : cf x1228 y1228 < 0 := by rw [hx1228, hy1228]; exact of_decide_eq_true hlv1
        have hd1228 : decide (cf x1228 y1228 < 0) = true := decide_eq_true hv1228
        clear hx1228 hy1228 hiN1228 hjN1228
        go_wp2_with fail
        go_quiet_grown (first | (go_at_fn g; refine Calls.grown_of (hc1228 _ _)))
        have SV1 : Aside (SW enc w0 blk off dk1 (grow (wr.drewN nq) osq)) := SU1.out.grown nq osq
        clear l1228a l1228b hc1228 SU1
        generalize grow (wr.drewN nq) osq = wv1 at SV1 ⊢
        clear nq osq
        clear ea1228 ec1228
        go_wp2
        go_roundw
        case rel => exact ⟨p1 + 1, by go_num, by omega, by omega, SV1, (scanUp_go (fun x => (ltOf cf) x dk1[a]!) dk1 j1 p1 hle1 hlv1).symm.trans hsc1.out⟩
        case measure => simp [intOf]; omega
      | false =>
        -- it stops: the test has failed
        have hi21 : Hid (p1 = Sort.scanUp (fun x => (ltOf cf) x dk1[a]!) dk1 j1 i1) := (scanUp_end (fun x => (ltOf cf) x dk1[a]!) dk1 j1 p1 (Or.inr hlv1)).symm.trans hsc1.out
        clear hsc1
        obtain ⟨iN1229, hiN1229⟩ : ∃ q, q = p1 := ⟨_, rfl⟩
        obtain ⟨jN1229, hjN1229⟩ : ∃ q, q = a := ⟨_, rfl⟩
        have ea1229 : ((p1 : Int)).toNat = iN1229 := by omega
        have pa1229 : (0 : Int) ≤ (p1 : Int) := by omega
        have ba1229 : (p1 : Int) < (d.size : Int) := by omega
        have ra1229 : IntKind.i64.wrap ((p1 : Int)) = (p1 : Int) := by rw [IntKind.wrap_i64]; omega
        have ec1229 : ((a : Int)).toNat = jN1229 := by omega
        have pc1229 : (0 : Int) ≤ (a : Int) := by omega
        have bc1229 : (a : Int) < (d.size : Int) := by omega
        have rc1229 : IntKind.i64.wrap ((a : Int)) = (a : Int) := by rw [IntKind.wrap_i64]; omega
        obtain ⟨x1229, hx1229⟩ : ∃ x, x = dk1[p1]! := ⟨_, rfl⟩
        obtain ⟨y1229, hy1229⟩ : ∃ x, x = dk1[a]! := ⟨_, rfl⟩
        have l1229a := SU1.out.cl R (by omega) (p1) (by omega)
        have l1229b := SU1.out.cl R (by omega) (a) (by omega)
        rw [← hx1229, ← hiN1229] at l1229a
        rw [← hy1229, ← hjN1229] at l1229b
        have hc1229 := cmpF SU1.out HC.out (by omega) x1229 y1229
        have hv1229 : ¬ cf x1229 y1229 < 0 := by rw [hx1229, hy1229]; exact of_decide_eq_false hlv1
        have hd1229 : decide (cf x1229 y1229 < 0) = false := decide_eq_false hv1229
        clear hx1229 hy1229 hiN1229 hjN1229
        go_wp2_with fail
        go_quiet_grown (first | (go_at_fn g; refine Calls.grown_of (hc1229 _ _)))
        have SV1 : Aside (SW enc w0 blk off dk1 (grow (wr.drewN nq) osq)) := SU1.out.grown nq osq
        clear l1229a l1229b hc1229 SU1
        generalize grow (wr.drewN nq) osq = wv1 at SV1 ⊢
        clear nq osq
        clear ea1229 ec1229
        go_wp2
        -- THE DOWNWARD SCAN
        go_loopw [13] (fun vj w2 => ∃ (q1 : Nat), vj = .int .i64 q1 ∧ q1 ≤ j1 ∧ p1 ≤ q1 + 1 ∧ Aside (SW enc w0 blk off dk1 w2) ∧
            Hid (Sort.scanDown (fun x => !(ltOf cf) x dk1[a]!) dk1 p1 q1 = Sort.scanDown (fun x => !(ltOf cf) x dk1[a]!) dk1 p1 j1))
          (fun vj _ => (intOf vj).toNat)
        case atStart => exact ⟨j1, rfl, Nat.le_refl _, hij'1, SV1, rfl⟩
        case round =>
          clear SV1
          obtain ⟨q1, rfl, hjj1, hij21, SD1, hsd1⟩ := hrel
          by_cases hle21 : p1 ≤ q1
          · have hgd1 : decide ((p1 : Int) ≤ (q1 : Int)) = true := decide_eq_true (by omega)
            cases hlv21 : (ltOf cf) dk1[q1]! dk1[a]! with
            | false =>
              -- it goes on: j--
              obtain ⟨iN1230, hiN1230⟩ : ∃ q, q = q1 := ⟨_, rfl⟩
              obtain ⟨jN1230, hjN1230⟩ : ∃ q, q = a := ⟨_, rfl⟩
              have ea1230 : ((q1 : Int)).toNat = iN1230 := by omega
              have pa1230 : (0 : Int) ≤ (q1 : Int) := by omega
              have ba1230 : (q1 : Int) < (d.size : Int) := by omega
              have ra1230 : IntKind.i64.wrap ((q1 : Int)) = (q1 : Int) := by rw [IntKind.wrap_i64]; omega
              have ec1230 : ((a : Int)).toNat = jN1230 := by omega
              have pc1230 : (0 : Int) ≤ (a : Int) := by omega
              have bc1230 : (a : Int) < (d.size : Int) := by omega
              have rc1230 : IntKind.i64.wrap ((a : Int)) = (a : Int) := by rw [IntKind.wrap_i64]; omega
              obtain ⟨x1230, hx1230⟩ : ∃ x, x = dk1[q1]! := ⟨_, rfl⟩
              obtain ⟨y1230, hy1230⟩ : ∃ x, x = dk1[a]! := ⟨_, rfl⟩
              have l1230a := SD1.out.cl R (by omega) (q1) (by omega)
              have l1230b := SD1.out.cl R (by omega) (a) (by omega)
              rw [← hx1230, ← hiN1230] at l1230a
              rw [← hy1230, ← hjN1230] at l1230b
              have hc1230 := cmpF SD1.out HC.out (by omega) x1230 y1230
              have hv1230 : ¬ cf x1230 y1230 < 0 := by rw [hx1230, hy1230]; exact of_decide_eq_false hlv21
              have hd1230 : decide (cf x1230 y1230 < 0) = false := decide_eq_false hv1230
              clear hx1230 hy1230 hiN1230 hjN1230
              go_wp2_with fail
              go_quiet_grown (first | (go_at_fn g; refine Calls.grown_of (hc1230 _ _)))
              have SE1 : Aside (SW enc w0 blk off dk1 (grow (wr.drewN nq) osq)) := SD1.out.grown nq osq
              clear l1230a l1230b hc1230 SD1
              generalize grow (wr.drewN nq) osq = we1 at SE1 ⊢
              clear nq osq
              clear ea1230 ec1230
              go_wp2
              go_roundw
              case rel => exact ⟨q1 - 1, by go_num, by omega, by omega, SE1, (scanDown_go (fun x => !(ltOf cf) x dk1[a]!) dk1 p1 q1 hle21 (by omega) (by simp [hlv21])).symm.trans hsd1.out⟩
              case measure => simp [intOf]; omega
            | true =>
              -- it stops: the exchange; i++; j--
              have hj21 : Hid (q1 = Sort.scanDown (fun x => !(ltOf cf) x dk1[a]!) dk1 p1 j1) := (scanDown_end (fun x => !(ltOf cf) x dk1[a]!) dk1 p1 q1 (Or.inr (by simp [hlv21]))).symm.trans hsd1.out
              have hlt31 := part_scans_lt (ltOf cf) a i1 j1 dk1 (by omega) hi21.out hj21.out hle21
              have hgt1 : decide ((q1 : Int) < (p1 : Int)) = false := decide_eq_false (by omega)
              have hgn1 : decide (q1 < p1) = false := decide_eq_false (by omega)
              clear hsd1
              obtain ⟨iN1231, hiN1231⟩ : ∃ q, q = q1 := ⟨_, rfl⟩
              obtain ⟨jN1231, hjN1231⟩ : ∃ q, q = a := ⟨_, rfl⟩
              have ea1231 : ((q1 : Int)).toNat = iN1231 := by omega
              have pa1231 : (0 : Int) ≤ (q1 : Int) := by omega
              have ba1231 : (q1 : Int) < (d.size : Int) := by omega
              have ra1231 : IntKind.i64.wrap ((q1 : Int)) = (q1 : Int) := by rw [IntKind.wrap_i64]; omega
              have ec1231 : ((a : Int)).toNat = jN1231 := by omega
              have pc1231 : (0 : Int) ≤ (a : Int) := by omega
              have bc1231 : (a : Int) < (d.size : Int) := by omega
              have rc1231 : IntKind.i64.wrap ((a : Int)) = (a : Int) := by rw [IntKind.wrap_i64]; omega
              obtain ⟨x1231, hx1231⟩ : ∃ x, x = dk1[q1]! := ⟨_, rfl⟩
              obtain ⟨y1231, hy1231⟩ : ∃ x, x = dk1[a]! := ⟨_, rfl⟩
              have l1231a := SD1.out.cl R (by omega) (q1) (by omega)
              have l1231b := SD1.out.cl R (by omega) (a) (by omega)
              rw [← hx1231, ← hiN1231] at l1231a
              rw [← hy1231, ← hjN1231] at l1231b
              have hc1231 := cmpF SD1.out HC.out (by omega) x1231 y1231
              have hv1231 : cf x1231 y1231 < 0 := by rw [hx1231, hy1231]; exact of_decide_eq_true hlv21
              have hd1231 : decide (cf x1231 y1231 < 0) = true := decide_eq_true hv1231
              clear hx1231 hy1231 hiN1231 hjN1231
              go_wp2_with fail
              go_quiet_grown (first | (go_at_fn g; refine Calls.grown_of (hc1231 _ _)))
              have SE1 : Aside (SW enc w0 blk off dk1 (grow (wr.drewN nq) osq)) := SD1.out.grown nq osq
              clear l1231a l1231b hc1231 SD1
              generalize grow (wr.drewN nq) osq = we1 at SE1 ⊢
              clear nq osq
              clear ea1231 ec1231
              go_wp2_with fail
              obtain ⟨iN1232, hiN1232⟩ : ∃ q, q = p1 := ⟨_, rfl⟩
              obtain ⟨jN1232, hjN1232⟩ : ∃ q, q = q1 := ⟨_, rfl⟩
              have ea1232 : ((p1 : Int)).toNat = iN1232 := by omega
              have pa1232 : (0 : Int) ≤ (p1 : Int) := by omega
              have ba1232 : (p1 : Int) < (d.size : Int) := by omega
              have ra1232 : IntKind.i64.wrap ((p1 : Int)) = (p1 : Int) := by rw [IntKind.wrap_i64]; omega
              have ec1232 : ((q1 : Int)).toNat = jN1232 := by omega
              have pc1232 : (0 : Int) ≤ (q1 : Int) := by omega
              have bc1232 : (q1 : Int) < (d.size : Int) := by omega
              have rc1232 : IntKind.i64.wrap ((q1 : Int)) = (q1 : Int) := by rw [IntKind.wrap_i64]; omega
              obtain ⟨x1232, hx1232⟩ : ∃ x, x = dk1[p1]! := ⟨_, rfl⟩
              obtain ⟨y1232, hy1232⟩ : ∃ x, x = dk1[q1]! := ⟨_, rfl⟩
              have SF1 : Aside (SW enc w0 blk off (swp dk1 (p1) (q1)) ((we1.setCell ⟨blk, off + iN1232, none⟩ (enc y1232)).setCell ⟨blk, off + jN1232, none⟩ (enc x1232)).drew) := by rw [hiN1232, hjN1232, hx1232, hy1232]; exact SE1.out.swapped R (p1) (q1) (by omega) (by omega)
              have c1232a := SE1.out.c1 R (by omega) (p1) (by omega)
              have c1232b := SE1.out.c1 R (by omega) (q1) (by omega)
              have f1232a := SE1.out.f1 R (by omega) (p1) (by omega)
              have f1232b := SE1.out.f1 R (by omega) (q1) (by omega)
              obtain ⟨u1232, c1232c⟩ := SE1.out.c2 R (by omega) (p1) (q1) (by omega) (by omega) (enc y1232)
              rw [← hjN1232, ← hiN1232] at c1232c
              rw [← hx1232, ← hiN1232] at c1232a
              rw [← hy1232, ← hjN1232] at c1232b
              rw [← hiN1232] at f1232a
              rw [← hjN1232] at f1232b
              clear SE1 hx1232 hy1232 hiN1232 hjN1232
              go_wp2_with fail
              go_big_region_o
              clear c1232a c1232b c1232c f1232a f1232b
              generalize ((we1.setCell ⟨blk, off + iN1232, none⟩ (enc y1232)).setCell ⟨blk, off + jN1232, none⟩ (enc x1232)).drew = wf1 at SF1 ⊢
              clear ea1232 ec1232
              go_wp2
              -- THE 'for {'
              obtain ⟨I0, hI0⟩ : ∃ I0 : Nat, I0 = p1 + 1 := ⟨_, rfl⟩
              obtain ⟨J0, hJ0⟩ : ∃ J0 : Nat, J0 = q1 - 1 := ⟨_, rfl⟩
              obtain ⟨D0, hD0⟩ : ∃ D0 : Array α, D0 = Sort.swp dk1 p1 q1 := ⟨_, rfl⟩
              have PF : Hid (Sort.partition (ltOf cf) d a b pivot = ((Sort.partLoop (ltOf cf) a I0 J0 D0).1, false, Sort.swp (Sort.partLoop (ltOf cf) a I0 J0 D0).2 (Sort.partLoop (ltOf cf) a I0 J0 D0).1 a)) := by
                rw [hI0, hJ0, hD0]; exact part_first_go (ltOf cf) d a b pivot Hi.out Hj.out Hdk.out hi21.out hj21.out (by omega)
              go_loopw [12, 13] (fun vi vj wr => ∃ (i2 j2 : Nat) (dk2 : Array α), vi = .int .i64 i2 ∧ vj = .int .i64 j2 ∧ a < i2 ∧ i2 ≤ j2 + 1 ∧ j2 < b ∧ dk2.size = d.size ∧ Aside (SW enc w0 blk off dk2 wr) ∧
                  Sort.partLoop (ltOf cf) a i2 j2 dk2 = Sort.partLoop (ltOf cf) a I0 J0 D0)
                (fun vi vj _ => (intOf vj).toNat + 1 - (intOf vi).toNat)
              case atStart => exact ⟨p1 + 1, q1 - 1, Sort.swp dk1 p1 q1, by go_num, by go_num, by omega, by omega, by omega, by rw [size_swp]; exact hs1, SF1, by rw [hI0, hJ0, hD0]⟩
              case round =>
                clear SF1 hI0 hJ0 hD0 hj21 hi21 hlt31 Hi Hj Hdk
                obtain ⟨i2, j2, dk2, rfl, rfl, hai2, hij2, hjb2, hs2, T1, heq⟩ := hrel
                have AE : Hid (Sort.partLoop (ltOf cf) a i2 j2 dk2 = Sort.partLoop (ltOf cf) a I0 J0 D0) := heq
                clear heq
                go_wp2
                -- THE UPWARD SCAN
                go_loopw [12] (fun vi w1 => ∃ (p2 : Nat), vi = .int .i64 p2 ∧ i2 ≤ p2 ∧ p2 ≤ j2 + 1 ∧ Aside (SW enc w0 blk off dk2 w1) ∧
                    Hid (Sort.scanUp (fun x => (ltOf cf) x dk2[a]!) dk2 j2 p2 = Sort.scanUp (fun x => (ltOf cf) x dk2[a]!) dk2 j2 i2))
                  (fun vi _ => j2 + 1 - (intOf vi).toNat)
                case atStart => exact ⟨i2, rfl, Nat.le_refl _, hij2, T1, rfl⟩
                case round =>
                  clear T1
                  obtain ⟨p2, rfl, hii2, hij'2, SU2, hsc2⟩ := hrel
                  by_cases hle2 : p2 ≤ j2
                  · have hgu2 : decide ((p2 : Int) ≤ (j2 : Int)) = true := decide_eq_true (by omega)
                    cases hlv2 : (ltOf cf) dk2[p2]! dk2[a]! with
                    | true =>
                      -- it goes on: i++
                      obtain ⟨iN1221, hiN1221⟩ : ∃ q, q = p2 := ⟨_, rfl⟩
                      obtain ⟨jN1221, hjN1221⟩ : ∃ q, q = a := ⟨_, rfl⟩
                      have ea1221 : ((p2 : Int)).toNat = iN1221 := by omega
                      have pa1221 : (0 : Int) ≤ (p2 : Int) := by omega
                      have ba1221 : (p2 : Int) < (d.size : Int) := by omega
                      have ra1221 : IntKind.i64.wrap ((p2 : Int)) = (p2 : Int) := by rw [IntKind.wrap_i64]; omega
                      have ec1221 : ((a : Int)).toNat = jN1221 := by omega
                      have pc1221 : (0 : Int) ≤ (a : Int) := by omega
                      have bc1221 : (a : Int) < (d.size : Int) := by omega
                      have rc1221 : IntKind.i64.wrap ((a : Int)) = (a : Int) := by rw [IntKind.wrap_i64]; omega
                      obtain ⟨x1221, hx1221⟩ : ∃ x, x = dk2[p2]! := ⟨_, rfl⟩
                      obtain ⟨y1221, hy1221⟩ : ∃ x, x = dk2[a]! := ⟨_, rfl⟩
                      have l1221a := SU2.out.cl R (by omega) (p2) (by omega)
                      have l1221b := SU2.out.cl R (by omega) (a) (by omega)
                      rw [← hx1221, ← hiN1221] at l1221a
                      rw [← hy1221, ← hjN1221] at l1221b
                      have hc1221 := cmpF SU2.out HC.out (by omega) x1221 y1221
                      have hv1221 : cf x1221 y1221 < 0 := by rw [hx1221, hy1221]; exact of_decide_eq_true hlv2
                      have hd1221 : decide (cf x1221 y1221 < 0) = true := decide_eq_true hv1221
                      clear hx1221 hy1221 hiN1221 hjN1221
                      go_wp2_with fail
                      go_quiet_grown (first | (go_at_fn g; refine Calls.grown_of (hc1221 _ _)))
                      have SV2 : Aside (SW enc w0 blk off dk2 (grow (wr.drewN nq) osq)) := SU2.out.grown nq osq
                      clear l1221a l1221b hc1221 SU2
                      generalize grow (wr.drewN nq) osq = wv2 at SV2 ⊢
                      clear nq osq
                      clear ea1221 ec1221
                      go_wp2
                      go_roundw
                      case rel => exact ⟨p2 + 1, by go_num, by omega, by omega, SV2, (scanUp_go (fun x => (ltOf cf) x dk2[a]!) dk2 j2 p2 hle2 hlv2).symm.trans hsc2.out⟩
                      case measure => simp [intOf]; omega
                    | false =>
                      -- it stops: the test has failed
                      have hi22 : Hid (p2 = Sort.scanUp (fun x => (ltOf cf) x dk2[a]!) dk2 j2 i2) := (scanUp_end (fun x => (ltOf cf) x dk2[a]!) dk2 j2 p2 (Or.inr hlv2)).symm.trans hsc2.out
                      clear hsc2
                      obtain ⟨iN1222, hiN1222⟩ : ∃ q, q = p2 := ⟨_, rfl⟩
                      obtain ⟨jN1222, hjN1222⟩ : ∃ q, q = a := ⟨_, rfl⟩
                      have ea1222 : ((p2 : Int)).toNat = iN1222 := by omega
                      have pa1222 : (0 : Int) ≤ (p2 : Int) := by omega
                      have ba1222 : (p2 : Int) < (d.size : Int) := by omega
                      have ra1222 : IntKind.i64.wrap ((p2 : Int)) = (p2 : Int) := by rw [IntKind.wrap_i64]; omega
                      have ec1222 : ((a : Int)).toNat = jN1222 := by omega
                      have pc1222 : (0 : Int) ≤ (a : Int) := by omega
                      have bc1222 : (a : Int) < (d.size : Int) := by omega
                      have rc1222 : IntKind.i64.wrap ((a : Int)) = (a : Int) := by rw [IntKind.wrap_i64]; omega
                      obtain ⟨x1222, hx1222⟩ : ∃ x, x = dk2[p2]! := ⟨_, rfl⟩
                      obtain ⟨y1222, hy1222⟩ : ∃ x, x = dk2[a]! := ⟨_, rfl⟩
                      have l1222a := SU2.out.cl R (by omega) (p2) (by omega)
                      have l1222b := SU2.out.cl R (by omega) (a) (by omega)
                      rw [← hx1222, ← hiN1222] at l1222a
                      rw [← hy1222, ← hjN1222] at l1222b
                      have hc1222 := cmpF SU2.out HC.out (by omega) x1222 y1222
                      have hv1222 : ¬ cf x1222 y1222 < 0 := by rw [hx1222, hy1222]; exact of_decide_eq_false hlv2
                      have hd1222 : decide (cf x1222 y1222 < 0) = false := decide_eq_false hv1222
                      clear hx1222 hy1222 hiN1222 hjN1222
                      go_wp2_with fail
                      go_quiet_grown (first | (go_at_fn g; refine Calls.grown_of (hc1222 _ _)))
                      have SV2 : Aside (SW enc w0 blk off dk2 (grow (wr.drewN nq) osq)) := SU2.out.grown nq osq
                      clear l1222a l1222b hc1222 SU2
                      generalize grow (wr.drewN nq) osq = wv2 at SV2 ⊢
                      clear nq osq
                      clear ea1222 ec1222
                      go_wp2
                      -- THE DOWNWARD SCAN
                      go_loopw [13] (fun vj w2 => ∃ (q2 : Nat), vj = .int .i64 q2 ∧ q2 ≤ j2 ∧ p2 ≤ q2 + 1 ∧ Aside (SW enc w0 blk off dk2 w2) ∧
                          Hid (Sort.scanDown (fun x => !(ltOf cf) x dk2[a]!) dk2 p2 q2 = Sort.scanDown (fun x => !(ltOf cf) x dk2[a]!) dk2 p2 j2))
                        (fun vj _ => (intOf vj).toNat)
                      case atStart => exact ⟨j2, rfl, Nat.le_refl _, hij'2, SV2, rfl⟩
                      case round =>
                        clear SV2
                        obtain ⟨q2, rfl, hjj2, hij22, SD2, hsd2⟩ := hrel
                        by_cases hle22 : p2 ≤ q2
                        · have hgd2 : decide ((p2 : Int) ≤ (q2 : Int)) = true := decide_eq_true (by omega)
                          cases hlv22 : (ltOf cf) dk2[q2]! dk2[a]! with
                          | false =>
                            -- it goes on: j--
                            obtain ⟨iN1223, hiN1223⟩ : ∃ q, q = q2 := ⟨_, rfl⟩
                            obtain ⟨jN1223, hjN1223⟩ : ∃ q, q = a := ⟨_, rfl⟩
                            have ea1223 : ((q2 : Int)).toNat = iN1223 := by omega
                            have pa1223 : (0 : Int) ≤ (q2 : Int) := by omega
                            have ba1223 : (q2 : Int) < (d.size : Int) := by omega
                            have ra1223 : IntKind.i64.wrap ((q2 : Int)) = (q2 : Int) := by rw [IntKind.wrap_i64]; omega
                            have ec1223 : ((a : Int)).toNat = jN1223 := by omega
                            have pc1223 : (0 : Int) ≤ (a : Int) := by omega
                            have bc1223 : (a : Int) < (d.size : Int) := by omega
                            have rc1223 : IntKind.i64.wrap ((a : Int)) = (a : Int) := by rw [IntKind.wrap_i64]; omega
                            obtain ⟨x1223, hx1223⟩ : ∃ x, x = dk2[q2]! := ⟨_, rfl⟩
                            obtain ⟨y1223, hy1223⟩ : ∃ x, x = dk2[a]! := ⟨_, rfl⟩
                            have l1223a := SD2.out.cl R (by omega) (q2) (by omega)
                            have l1223b := SD2.out.cl R (by omega) (a) (by omega)
                            rw [← hx1223, ← hiN1223] at l1223a
                            rw [← hy1223, ← hjN1223] at l1223b
                            have hc1223 := cmpF SD2.out HC.out (by omega) x1223 y1223
                            have hv1223 : ¬ cf x1223 y1223 < 0 := by rw [hx1223, hy1223]; exact of_decide_eq_false hlv22
                            have hd1223 : decide (cf x1223 y1223 < 0) = false := decide_eq_false hv1223
                            clear hx1223 hy1223 hiN1223 hjN1223
                            go_wp2_with fail
                            go_quiet_grown (first | (go_at_fn g; refine Calls.grown_of (hc1223 _ _)))
                            have SE2 : Aside (SW enc w0 blk off dk2 (grow (wr.drewN nq) osq)) := SD2.out.grown nq osq
                            clear l1223a l1223b hc1223 SD2
                            generalize grow (wr.drewN nq) osq = we2 at SE2 ⊢
                            clear nq osq
                            clear ea1223 ec1223
                            go_wp2
                            go_roundw
                            case rel => exact ⟨q2 - 1, by go_num, by omega, by omega, SE2, (scanDown_go (fun x => !(ltOf cf) x dk2[a]!) dk2 p2 q2 hle22 (by omega) (by simp [hlv22])).symm.trans hsd2.out⟩
                            case measure => simp [intOf]; omega
                          | true =>
                            -- it stops: the exchange; i++; j--
                            have hj22 : Hid (q2 = Sort.scanDown (fun x => !(ltOf cf) x dk2[a]!) dk2 p2 j2) := (scanDown_end (fun x => !(ltOf cf) x dk2[a]!) dk2 p2 q2 (Or.inr (by simp [hlv22]))).symm.trans hsd2.out
                            have hlt32 := part_scans_lt (ltOf cf) a i2 j2 dk2 (by omega) hi22.out hj22.out hle22
                            have hgt2 : decide ((q2 : Int) < (p2 : Int)) = false := decide_eq_false (by omega)
                            have hgn2 : decide (q2 < p2) = false := decide_eq_false (by omega)
                            clear hsd2
                            obtain ⟨iN1224, hiN1224⟩ : ∃ q, q = q2 := ⟨_, rfl⟩
                            obtain ⟨jN1224, hjN1224⟩ : ∃ q, q = a := ⟨_, rfl⟩
                            have ea1224 : ((q2 : Int)).toNat = iN1224 := by omega
                            have pa1224 : (0 : Int) ≤ (q2 : Int) := by omega
                            have ba1224 : (q2 : Int) < (d.size : Int) := by omega
                            have ra1224 : IntKind.i64.wrap ((q2 : Int)) = (q2 : Int) := by rw [IntKind.wrap_i64]; omega
                            have ec1224 : ((a : Int)).toNat = jN1224 := by omega
                            have pc1224 : (0 : Int) ≤ (a : Int) := by omega
                            have bc1224 : (a : Int) < (d.size : Int) := by omega
                            have rc1224 : IntKind.i64.wrap ((a : Int)) = (a : Int) := by rw [IntKind.wrap_i64]; omega
                            obtain ⟨x1224, hx1224⟩ : ∃ x, x = dk2[q2]! := ⟨_, rfl⟩
                            obtain ⟨y1224, hy1224⟩ : ∃ x, x = dk2[a]! := ⟨_, rfl⟩
                            have l1224a := SD2.out.cl R (by omega) (q2) (by omega)
                            have l1224b := SD2.out.cl R (by omega) (a) (by omega)
                            rw [← hx1224, ← hiN1224] at l1224a
                            rw [← hy1224, ← hjN1224] at l1224b
                            have hc1224 := cmpF SD2.out HC.out (by omega) x1224 y1224
                            have hv1224 : cf x1224 y1224 < 0 := by rw [hx1224, hy1224]; exact of_decide_eq_true hlv22
                            have hd1224 : decide (cf x1224 y1224 < 0) = true := decide_eq_true hv1224
                            clear hx1224 hy1224 hiN1224 hjN1224
                            go_wp2_with fail
                            go_quiet_grown (first | (go_at_fn g; refine Calls.grown_of (hc1224 _ _)))
                            have SE2 : Aside (SW enc w0 blk off dk2 (grow (wr.drewN nq) osq)) := SD2.out.grown nq osq
                            clear l1224a l1224b hc1224 SD2
                            generalize grow (wr.drewN nq) osq = we2 at SE2 ⊢
                            clear nq osq
                            clear ea1224 ec1224
                            go_wp2_with fail
                            obtain ⟨iN1225, hiN1225⟩ : ∃ q, q = p2 := ⟨_, rfl⟩
                            obtain ⟨jN1225, hjN1225⟩ : ∃ q, q = q2 := ⟨_, rfl⟩
                            have ea1225 : ((p2 : Int)).toNat = iN1225 := by omega
                            have pa1225 : (0 : Int) ≤ (p2 : Int) := by omega
                            have ba1225 : (p2 : Int) < (d.size : Int) := by omega
                            have ra1225 : IntKind.i64.wrap ((p2 : Int)) = (p2 : Int) := by rw [IntKind.wrap_i64]; omega
                            have ec1225 : ((q2 : Int)).toNat = jN1225 := by omega
                            have pc1225 : (0 : Int) ≤ (q2 : Int) := by omega
                            have bc1225 : (q2 : Int) < (d.size : Int) := by omega
                            have rc1225 : IntKind.i64.wrap ((q2 : Int)) = (q2 : Int) := by rw [IntKind.wrap_i64]; omega
                            obtain ⟨x1225, hx1225⟩ : ∃ x, x = dk2[p2]! := ⟨_, rfl⟩
                            obtain ⟨y1225, hy1225⟩ : ∃ x, x = dk2[q2]! := ⟨_, rfl⟩
                            have SF2 : Aside (SW enc w0 blk off (swp dk2 (p2) (q2)) ((we2.setCell ⟨blk, off + iN1225, none⟩ (enc y1225)).setCell ⟨blk, off + jN1225, none⟩ (enc x1225)).drew) := by rw [hiN1225, hjN1225, hx1225, hy1225]; exact SE2.out.swapped R (p2) (q2) (by omega) (by omega)
                            have c1225a := SE2.out.c1 R (by omega) (p2) (by omega)
                            have c1225b := SE2.out.c1 R (by omega) (q2) (by omega)
                            have f1225a := SE2.out.f1 R (by omega) (p2) (by omega)
                            have f1225b := SE2.out.f1 R (by omega) (q2) (by omega)
                            obtain ⟨u1225, c1225c⟩ := SE2.out.c2 R (by omega) (p2) (q2) (by omega) (by omega) (enc y1225)
                            rw [← hjN1225, ← hiN1225] at c1225c
                            rw [← hx1225, ← hiN1225] at c1225a
                            rw [← hy1225, ← hjN1225] at c1225b
                            rw [← hiN1225] at f1225a
                            rw [← hjN1225] at f1225b
                            clear SE2 hx1225 hy1225 hiN1225 hjN1225
                            go_wp2_with fail
                            go_big_region_o
                            clear c1225a c1225b c1225c f1225a f1225b
                            generalize ((we2.setCell ⟨blk, off + iN1225, none⟩ (enc y1225)).setCell ⟨blk, off + jN1225, none⟩ (enc x1225)).drew = wf2 at SF2 ⊢
                            clear ea1225 ec1225
                            go_wp2
                            go_roundw
                            case rel =>
                              refine ⟨p2 + 1, q2 - 1, Sort.swp dk2 p2 q2, by go_num, by go_num, by omega, by omega, by omega, by rw [size_swp]; exact hs2, SF2, ?_⟩
                              rw [← AE.out]; exact (part_go (ltOf cf) a i2 j2 dk2 hi22.out hj22.out (by omega)).symm
                            case measure => simp [intOf]; omega
                        · -- it stops: i > j (the guard is false: 'cmp' is not called)
                          have hj22 : Hid (q2 = Sort.scanDown (fun x => !(ltOf cf) x dk2[a]!) dk2 p2 j2) := (scanDown_end (fun x => !(ltOf cf) x dk2[a]!) dk2 p2 q2 (Or.inl hle22)).symm.trans hsd2.out
                          have hgd2 : decide ((p2 : Int) ≤ (q2 : Int)) = false := decide_eq_false (by omega)
                          have hgt2 : decide ((q2 : Int) < (p2 : Int)) = true := decide_eq_true (by omega)
                          have hgn2 : decide (q2 < p2) = true := decide_eq_true (by omega)
                          clear hsd2
                          go_wp2_with fail
                          go_big_region_o
                          have SE2 : Aside (SW enc w0 blk off dk2 wr.drew) := SD2.out.drew
                          clear SD2
                          generalize wr.drew = we2 at SE2 ⊢
                          go_wp2_with fail
                          obtain ⟨iN1226, hiN1226⟩ : ∃ q, q = q2 := ⟨_, rfl⟩
                          obtain ⟨jN1226, hjN1226⟩ : ∃ q, q = a := ⟨_, rfl⟩
                          have ea1226 : ((q2 : Int)).toNat = iN1226 := by omega
                          have pa1226 : (0 : Int) ≤ (q2 : Int) := by omega
                          have ba1226 : (q2 : Int) < (d.size : Int) := by omega
                          have ra1226 : IntKind.i64.wrap ((q2 : Int)) = (q2 : Int) := by rw [IntKind.wrap_i64]; omega
                          have ec1226 : ((a : Int)).toNat = jN1226 := by omega
                          have pc1226 : (0 : Int) ≤ (a : Int) := by omega
                          have bc1226 : (a : Int) < (d.size : Int) := by omega
                          have rc1226 : IntKind.i64.wrap ((a : Int)) = (a : Int) := by rw [IntKind.wrap_i64]; omega
                          obtain ⟨x1226, hx1226⟩ : ∃ x, x = dk2[q2]! := ⟨_, rfl⟩
                          obtain ⟨y1226, hy1226⟩ : ∃ x, x = dk2[a]! := ⟨_, rfl⟩
                          have SF2 : Aside (SW enc w0 blk off (swp dk2 (q2) (a)) ((we2.setCell ⟨blk, off + iN1226, none⟩ (enc y1226)).setCell ⟨blk, off + jN1226, none⟩ (enc x1226)).drew) := by rw [hiN1226, hjN1226, hx1226, hy1226]; exact SE2.out.swapped R (q2) (a) (by omega) (by omega)
                          have c1226a := SE2.out.c1 R (by omega) (q2) (by omega)
                          have c1226b := SE2.out.c1 R (by omega) (a) (by omega)
                          have f1226a := SE2.out.f1 R (by omega) (q2) (by omega)
                          have f1226b := SE2.out.f1 R (by omega) (a) (by omega)
                          obtain ⟨u1226, c1226c⟩ := SE2.out.c2 R (by omega) (q2) (a) (by omega) (by omega) (enc y1226)
                          rw [← hjN1226, ← hiN1226] at c1226c
                          rw [← hx1226, ← hiN1226] at c1226a
                          rw [← hy1226, ← hjN1226] at c1226b
                          rw [← hiN1226] at f1226a
                          rw [← hjN1226] at f1226b
                          clear SE2 hx1226 hy1226 hiN1226 hjN1226
                          go_wp2_with fail
                          go_big_region_o
                          clear c1226a c1226b c1226c f1226a f1226b
                          generalize ((we2.setCell ⟨blk, off + iN1226, none⟩ (enc y1226)).setCell ⟨blk, off + jN1226, none⟩ (enc x1226)).drew = wf2 at SF2 ⊢
                          clear ea1226 ec1226
                          go_wp2
                          go_ret2
                          have e := part_break (ltOf cf) a i2 j2 dk2 hi22.out hj22.out (by omega)
                          rw [PF.out, ← AE.out, e]
                          exact ⟨rfl, SF2.out⟩
                  · -- it stops: i > j (the guard is false)
                    have hi22 : Hid (p2 = Sort.scanUp (fun x => (ltOf cf) x dk2[a]!) dk2 j2 i2) := (scanUp_end (fun x => (ltOf cf) x dk2[a]!) dk2 j2 p2 (Or.inl hle2)).symm.trans hsc2.out
                    have hgu2 : decide ((p2 : Int) ≤ (j2 : Int)) = false := decide_eq_false (by omega)
                    clear hsc2
                    go_wp2_with fail
                    go_big_region_o
                    have SV2 : Aside (SW enc w0 blk off dk2 wr.drew) := SU2.out.drew
                    clear SU2
                    generalize wr.drew = wv2 at SV2 ⊢
                    go_wp2
                    -- THE DOWNWARD SCAN
                    go_loopw [13] (fun vj w2 => ∃ (q2 : Nat), vj = .int .i64 q2 ∧ q2 ≤ j2 ∧ p2 ≤ q2 + 1 ∧ Aside (SW enc w0 blk off dk2 w2) ∧
                        Hid (Sort.scanDown (fun x => !(ltOf cf) x dk2[a]!) dk2 p2 q2 = Sort.scanDown (fun x => !(ltOf cf) x dk2[a]!) dk2 p2 j2))
                      (fun vj _ => (intOf vj).toNat)
                    case atStart => exact ⟨j2, rfl, Nat.le_refl _, hij'2, SV2, rfl⟩
                    case round =>
                      clear SV2
                      obtain ⟨q2, rfl, hjj2, hij22, SD2, hsd2⟩ := hrel
                      by_cases hle22 : p2 ≤ q2
                      · exfalso; omega      -- the upward scan has run past j, and j' ≤ j
                      · -- it stops: i > j (the guard is false: 'cmp' is not called)
                        have hj22 : Hid (q2 = Sort.scanDown (fun x => !(ltOf cf) x dk2[a]!) dk2 p2 j2) := (scanDown_end (fun x => !(ltOf cf) x dk2[a]!) dk2 p2 q2 (Or.inl hle22)).symm.trans hsd2.out
                        have hgd2 : decide ((p2 : Int) ≤ (q2 : Int)) = false := decide_eq_false (by omega)
                        have hgt2 : decide ((q2 : Int) < (p2 : Int)) = true := decide_eq_true (by omega)
                        have hgn2 : decide (q2 < p2) = true := decide_eq_true (by omega)
                        clear hsd2
                        go_wp2_with fail
                        go_big_region_o
                        have SE2 : Aside (SW enc w0 blk off dk2 wr.drew) := SD2.out.drew
                        clear SD2
                        generalize wr.drew = we2 at SE2 ⊢
                        go_wp2_with fail
                        obtain ⟨iN1227, hiN1227⟩ : ∃ q, q = q2 := ⟨_, rfl⟩
                        obtain ⟨jN1227, hjN1227⟩ : ∃ q, q = a := ⟨_, rfl⟩
                        have ea1227 : ((q2 : Int)).toNat = iN1227 := by omega
                        have pa1227 : (0 : Int) ≤ (q2 : Int) := by omega
                        have ba1227 : (q2 : Int) < (d.size : Int) := by omega
                        have ra1227 : IntKind.i64.wrap ((q2 : Int)) = (q2 : Int) := by rw [IntKind.wrap_i64]; omega
                        have ec1227 : ((a : Int)).toNat = jN1227 := by omega
                        have pc1227 : (0 : Int) ≤ (a : Int) := by omega
                        have bc1227 : (a : Int) < (d.size : Int) := by omega
                        have rc1227 : IntKind.i64.wrap ((a : Int)) = (a : Int) := by rw [IntKind.wrap_i64]; omega
                        obtain ⟨x1227, hx1227⟩ : ∃ x, x = dk2[q2]! := ⟨_, rfl⟩
                        obtain ⟨y1227, hy1227⟩ : ∃ x, x = dk2[a]! := ⟨_, rfl⟩
                        have SF2 : Aside (SW enc w0 blk off (swp dk2 (q2) (a)) ((we2.setCell ⟨blk, off + iN1227, none⟩ (enc y1227)).setCell ⟨blk, off + jN1227, none⟩ (enc x1227)).drew) := by rw [hiN1227, hjN1227, hx1227, hy1227]; exact SE2.out.swapped R (q2) (a) (by omega) (by omega)
                        have c1227a := SE2.out.c1 R (by omega) (q2) (by omega)
                        have c1227b := SE2.out.c1 R (by omega) (a) (by omega)
                        have f1227a := SE2.out.f1 R (by omega) (q2) (by omega)
                        have f1227b := SE2.out.f1 R (by omega) (a) (by omega)
                        obtain ⟨u1227, c1227c⟩ := SE2.out.c2 R (by omega) (q2) (a) (by omega) (by omega) (enc y1227)
                        rw [← hjN1227, ← hiN1227] at c1227c
                        rw [← hx1227, ← hiN1227] at c1227a
                        rw [← hy1227, ← hjN1227] at c1227b
                        rw [← hiN1227] at f1227a
                        rw [← hjN1227] at f1227b
                        clear SE2 hx1227 hy1227 hiN1227 hjN1227
                        go_wp2_with fail
                        go_big_region_o
                        clear c1227a c1227b c1227c f1227a f1227b
                        generalize ((we2.setCell ⟨blk, off + iN1227, none⟩ (enc y1227)).setCell ⟨blk, off + jN1227, none⟩ (enc x1227)).drew = wf2 at SF2 ⊢
                        clear ea1227 ec1227
                        go_wp2
                        go_ret2
                        have e := part_break (ltOf cf) a i2 j2 dk2 hi22.out hj22.out (by omega)
                        rw [PF.out, ← AE.out, e]
                        exact ⟨rfl, SF2.out⟩
          · -- it stops: i > j (the guard is false: 'cmp' is not called)
            have hj21 : Hid (q1 = Sort.scanDown (fun x => !(ltOf cf) x dk1[a]!) dk1 p1 j1) := (scanDown_end (fun x => !(ltOf cf) x dk1[a]!) dk1 p1 q1 (Or.inl hle21)).symm.trans hsd1.out
            have hgd1 : decide ((p1 : Int) ≤ (q1 : Int)) = false := decide_eq_false (by omega)
            have hgt1 : decide ((q1 : Int) < (p1 : Int)) = true := decide_eq_true (by omega)
            have hgn1 : decide (q1 < p1) = true := decide_eq_true (by omega)
            clear hsd1
            go_wp2_with fail
            go_big_region_o
            have SE1 : Aside (SW enc w0 blk off dk1 wr.drew) := SD1.out.drew
            clear SD1
            generalize wr.drew = we1 at SE1 ⊢
            go_wp2_with fail
            obtain ⟨iN1233, hiN1233⟩ : ∃ q, q = q1 := ⟨_, rfl⟩
            obtain ⟨jN1233, hjN1233⟩ : ∃ q, q = a := ⟨_, rfl⟩
            have ea1233 : ((q1 : Int)).toNat = iN1233 := by omega
            have pa1233 : (0 : Int) ≤ (q1 : Int) := by omega
            have ba1233 : (q1 : Int) < (d.size : Int) := by omega
            have ra1233 : IntKind.i64.wrap ((q1 : Int)) = (q1 : Int) := by rw [IntKind.wrap_i64]; omega
            have ec1233 : ((a : Int)).toNat = jN1233 := by omega
            have pc1233 : (0 : Int) ≤ (a : Int) := by omega
            have bc1233 : (a : Int) < (d.size : Int) := by omega
            have rc1233 : IntKind.i64.wrap ((a : Int)) = (a : Int) := by rw [IntKind.wrap_i64]; omega
            obtain ⟨x1233, hx1233⟩ : ∃ x, x = dk1[q1]! := ⟨_, rfl⟩
            obtain ⟨y1233, hy1233⟩ : ∃ x, x = dk1[a]! := ⟨_, rfl⟩
            have SF1 : Aside (SW enc w0 blk off (swp dk1 (q1) (a)) ((we1.setCell ⟨blk, off + iN1233, none⟩ (enc y1233)).setCell ⟨blk, off + jN1233, none⟩ (enc x1233)).drew) := by rw [hiN1233, hjN1233, hx1233, hy1233]; exact SE1.out.swapped R (q1) (a) (by omega) (by omega)
            have c1233a := SE1.out.c1 R (by omega) (q1) (by omega)
            have c1233b := SE1.out.c1 R (by omega) (a) (by omega)
            have f1233a := SE1.out.f1 R (by omega) (q1) (by omega)
            have f1233b := SE1.out.f1 R (by omega) (a) (by omega)
            obtain ⟨u1233, c1233c⟩ := SE1.out.c2 R (by omega) (q1) (a) (by omega) (by omega) (enc y1233)
            rw [← hjN1233, ← hiN1233] at c1233c
            rw [← hx1233, ← hiN1233] at c1233a
            rw [← hy1233, ← hjN1233] at c1233b
            rw [← hiN1233] at f1233a
            rw [← hjN1233] at f1233b
            clear SE1 hx1233 hy1233 hiN1233 hjN1233
            go_wp2_with fail
            go_big_region_o
            clear c1233a c1233b c1233c f1233a f1233b
            generalize ((we1.setCell ⟨blk, off + iN1233, none⟩ (enc y1233)).setCell ⟨blk, off + jN1233, none⟩ (enc x1233)).drew = wf1 at SF1 ⊢
            clear ea1233 ec1233
            go_wp2
            go_ret2
            have e := part_first_break (ltOf cf) d a b pivot Hi.out Hj.out Hdk.out hi21.out hj21.out (by omega)
            rw [e]
            exact ⟨rfl, SF1.out⟩
    · -- it stops: i > j (the guard is false)
      have hi21 : Hid (p1 = Sort.scanUp (fun x => (ltOf cf) x dk1[a]!) dk1 j1 i1) := (scanUp_end (fun x => (ltOf cf) x dk1[a]!) dk1 j1 p1 (Or.inl hle1)).symm.trans hsc1.out
      have hgu1 : decide ((p1 : Int) ≤ (j1 : Int)) = false := decide_eq_false (by omega)
      clear hsc1
      go_wp2_with fail
      go_big_region_o
      have SV1 : Aside (SW enc w0 blk off dk1 wr.drew) := SU1.out.drew
      clear SU1
      generalize wr.drew = wv1 at SV1 ⊢
      go_wp2
      -- THE DOWNWARD SCAN
      go_loopw [13] (fun vj w2 => ∃ (q1 : Nat), vj = .int .i64 q1 ∧ q1 ≤ j1 ∧ p1 ≤ q1 + 1 ∧ Aside (SW enc w0 blk off dk1 w2) ∧
          Hid (Sort.scanDown (fun x => !(ltOf cf) x dk1[a]!) dk1 p1 q1 = Sort.scanDown (fun x => !(ltOf cf) x dk1[a]!) dk1 p1 j1))
        (fun vj _ => (intOf vj).toNat)
      case atStart => exact ⟨j1, rfl, Nat.le_refl _, hij'1, SV1, rfl⟩
      case round =>
        clear SV1
        obtain ⟨q1, rfl, hjj1, hij21, SD1, hsd1⟩ := hrel
        by_cases hle21 : p1 ≤ q1
        · exfalso; omega      -- the upward scan has run past j, and j' ≤ j
        · -- it stops: i > j (the guard is false: 'cmp' is not called)
          have hj21 : Hid (q1 = Sort.scanDown (fun x => !(ltOf cf) x dk1[a]!) dk1 p1 j1) := (scanDown_end (fun x => !(ltOf cf) x dk1[a]!) dk1 p1 q1 (Or.inl hle21)).symm.trans hsd1.out
          have hgd1 : decide ((p1 : Int) ≤ (q1 : Int)) = false := decide_eq_false (by omega)
          have hgt1 : decide ((q1 : Int) < (p1 : Int)) = true := decide_eq_true (by omega)
          have hgn1 : decide (q1 < p1) = true := decide_eq_true (by omega)
          clear hsd1
          go_wp2_with fail
          go_big_region_o
          have SE1 : Aside (SW enc w0 blk off dk1 wr.drew) := SD1.out.drew
          clear SD1
          generalize wr.drew = we1 at SE1 ⊢
          go_wp2_with fail
          obtain ⟨iN1234, hiN1234⟩ : ∃ q, q = q1 := ⟨_, rfl⟩
          obtain ⟨jN1234, hjN1234⟩ : ∃ q, q = a := ⟨_, rfl⟩
          have ea1234 : ((q1 : Int)).toNat = iN1234 := by omega
          have pa1234 : (0 : Int) ≤ (q1 : Int) := by omega
          have ba1234 : (q1 : Int) < (d.size : Int) := by omega
          have ra1234 : IntKind.i64.wrap ((q1 : Int)) = (q1 : Int) := by rw [IntKind.wrap_i64]; omega
          have ec1234 : ((a : Int)).toNat = jN1234 := by omega
          have pc1234 : (0 : Int) ≤ (a : Int) := by omega
          have bc1234 : (a : Int) < (d.size : Int) := by omega
          have rc1234 : IntKind.i64.wrap ((a : Int)) = (a : Int) := by rw [IntKind.wrap_i64]; omega
          obtain ⟨x1234, hx1234⟩ : ∃ x, x = dk1[q1]! := ⟨_, rfl⟩
          obtain ⟨y1234, hy1234⟩ : ∃ x, x = dk1[a]! := ⟨_, rfl⟩
          have SF1 : Aside (SW enc w0 blk off (swp dk1 (q1) (a)) ((we1.setCell ⟨blk, off + iN1234, none⟩ (enc y1234)).setCell ⟨blk, off + jN1234, none⟩ (enc x1234)).drew) := by rw [hiN1234, hjN1234, hx1234, hy1234]; exact SE1.out.swapped R (q1) (a) (by omega) (by omega)
          have c1234a := SE1.out.c1 R (by omega) (q1) (by omega)
          have c1234b := SE1.out.c1 R (by omega) (a) (by omega)
          have f1234a := SE1.out.f1 R (by omega) (q1) (by omega)
          have f1234b := SE1.out.f1 R (by omega) (a) (by omega)
          obtain ⟨u1234, c1234c⟩ := SE1.out.c2 R (by omega) (q1) (a) (by omega) (by omega) (enc y1234)
          rw [← hjN1234, ← hiN1234] at c1234c
          rw [← hx1234, ← hiN1234] at c1234a
          rw [← hy1234, ← hjN1234] at c1234b
          rw [← hiN1234] at f1234a
          rw [← hjN1234] at f1234b
          clear SE1 hx1234 hy1234 hiN1234 hjN1234
          go_wp2_with fail
          go_big_region_o
          clear c1234a c1234b c1234c f1234a f1234b
          generalize ((we1.setCell ⟨blk, off + iN1234, none⟩ (enc y1234)).setCell ⟨blk, off + jN1234, none⟩ (enc x1234)).drew = wf1 at SF1 ⊢
          clear ea1234 ec1234
          go_wp2
          go_ret2
          have e := part_first_break (ltOf cf) d a b pivot Hi.out Hj.out Hdk.out hi21.out hj21.out (by omega)
          rw [e]
          exact ⟨rfl, SF1.out⟩
end
section
open Go.Shelf Go.RowKit Go.Lib Go.Sort
variable {P : Program} {ρ : Ren} {α : Type} [Inhabited α]

set_option maxHeartbeats 32000000 in
set_option maxRecDepth 1000000 in
theorem Any.partitionEqualCmpFunc (L : SlLaysF.n26 P ρ) (enc : α → Value) (cf : α → α → Int) (g : Nat) (fv : Value) (blk off cap a b pivot : Nat) (d0 d : Array α) (w0 w : World)
    (eg : ∀ args w, (callFunc g args).run P w = .ok (.enter g args) w) (hcmp : CmpLays1 P g fv enc cf blk off d0.size w0) (R : Row1 enc w0 blk off d0) (hs : d0.size = d.size) (S : SW enc w0 blk off d w) (hap : a ≤ pivot) (hpb : pivot < b) (hb : b ≤ d.size) (hsz : d.size < 4611686018427387904) :
    Calls P (ρ.f 26) #[.slice (some ⟨blk, off, none⟩) d.size cap, .int .i64 a, .int .i64 b, .int .i64 pivot, .func (.func g) #[fv] #[]] w fun e w' =>
      e = .returned (.int .i64 (Sort.partitionEqual (ltOf cf) d a b pivot).1) ∧ SW enc w0 blk off (Sort.partitionEqual (ltOf cf) d a b pivot).2 w' := by
  have mixed := L.mixed; have t0 := L.t0; have a0 := L.a0; have z0 := L.z0; have v0 := L.v0; have t3 := L.t3; have a3 := L.a3; have z3 := L.z3; have v3 := L.v3; have t4 := L.t4; have a4 := L.a4; have z4 := L.z4; have v4 := L.v4; have t22 := L.t22; have a22 := L.a22; have z22 := L.z22; have v22 := L.v22; have t25 := L.t25; have a25 := L.a25; have z25 := L.z25; have v25 := L.v25
  have a24 := L.a24; have z24 := L.z24
  have u22 := run_underlying L.t22
  have hcl0 := R.hO.cells
  simp only [Value.cells] at hcl0
  have hst := R.hO.store P
  obtain ⟨_, _, FG⟩ := L.f26
  have HC : Aside _ := hcmp
  have S0 : Aside (SW enc w0 blk off d w) := S
  clear S
  clear hcmp
  go_enter FG, SlBodyF.n26_ntmps ρ
  go_wp2_with fail
  obtain ⟨iN1215, hiN1215⟩ : ∃ q, q = a := ⟨_, rfl⟩
  obtain ⟨jN1215, hjN1215⟩ : ∃ q, q = pivot := ⟨_, rfl⟩
  have ea1215 : ((a : Int)).toNat = iN1215 := by omega
  have pa1215 : (0 : Int) ≤ (a : Int) := by omega
  have ba1215 : (a : Int) < (d.size : Int) := by omega
  have ra1215 : IntKind.i64.wrap ((a : Int)) = (a : Int) := by rw [IntKind.wrap_i64]; omega
  have ec1215 : ((pivot : Int)).toNat = jN1215 := by omega
  have pc1215 : (0 : Int) ≤ (pivot : Int) := by omega
  have bc1215 : (pivot : Int) < (d.size : Int) := by omega
  have rc1215 : IntKind.i64.wrap ((pivot : Int)) = (pivot : Int) := by rw [IntKind.wrap_i64]; omega
  obtain ⟨x1215, hx1215⟩ : ∃ x, x = d[a]! := ⟨_, rfl⟩
  obtain ⟨y1215, hy1215⟩ : ∃ x, x = d[pivot]! := ⟨_, rfl⟩
  have S1 : Aside (SW enc w0 blk off (swp d (a) (pivot)) ((w.setCell ⟨blk, off + iN1215, none⟩ (enc y1215)).setCell ⟨blk, off + jN1215, none⟩ (enc x1215)).drew) := by rw [hiN1215, hjN1215, hx1215, hy1215]; exact S0.out.swapped R (a) (pivot) (by omega) (by omega)
  have c1215a := S0.out.c1 R (by omega) (a) (by omega)
  have c1215b := S0.out.c1 R (by omega) (pivot) (by omega)
  have f1215a := S0.out.f1 R (by omega) (a) (by omega)
  have f1215b := S0.out.f1 R (by omega) (pivot) (by omega)
  obtain ⟨u1215, c1215c⟩ := S0.out.c2 R (by omega) (a) (pivot) (by omega) (by omega) (enc y1215)
  rw [← hjN1215, ← hiN1215] at c1215c
  rw [← hx1215, ← hiN1215] at c1215a
  rw [← hy1215, ← hjN1215] at c1215b
  rw [← hiN1215] at f1215a
  rw [← hjN1215] at f1215b
  clear S0 hx1215 hy1215 hiN1215 hjN1215
  go_wp2_with fail
  go_big_region_o
  clear c1215a c1215b c1215c f1215a f1215b
  generalize ((w.setCell ⟨blk, off + iN1215, none⟩ (enc y1215)).setCell ⟨blk, off + jN1215, none⟩ (enc x1215)).drew = w1 at S1 ⊢
  clear ea1215 ec1215
  go_wp2
  -- THE 'for {'
  go_loopw [11, 12] (fun vi vj wr => ∃ (i j : Nat) (dk : Array α), vi = .int .i64 i ∧ vj = .int .i64 j ∧ a < i ∧ i ≤ j + 1 ∧ j < b ∧ dk.size = d.size ∧ Aside (SW enc w0 blk off dk wr) ∧
      Sort.partEqLoop (ltOf cf) a i j dk = Sort.partEqLoop (ltOf cf) a (a + 1) (b - 1) (Sort.swp d a pivot))
    (fun vi vj _ => (intOf vj).toNat + 1 - (intOf vi).toNat)
  case atStart => exact ⟨a + 1, b - 1, Sort.swp d a pivot, by go_num, by go_num, by omega, by omega, by omega, size_swp _ _ _, S1, rfl⟩
  case round =>
    clear S1
    obtain ⟨i, j, dk, rfl, rfl, hai, hij, hjb, hs', S1, heq⟩ := hrel
    have AE : Hid (Sort.partEqLoop (ltOf cf) a i j dk = Sort.partEqLoop (ltOf cf) a (a + 1) (b - 1) (Sort.swp d a pivot)) := heq
    clear heq
    go_wp2
    -- THE UPWARD SCAN
    go_loopw [11] (fun vi w1 => ∃ (i' : Nat), vi = .int .i64 i' ∧ i ≤ i' ∧ i' ≤ j + 1 ∧ Aside (SW enc w0 blk off dk w1) ∧
        Hid (Sort.scanUp (fun x => !(ltOf cf) dk[a]! x) dk j i' = Sort.scanUp (fun x => !(ltOf cf) dk[a]! x) dk j i))
      (fun vi _ => j + 1 - (intOf vi).toNat)
    case atStart => exact ⟨i, rfl, Nat.le_refl _, hij, S1, rfl⟩
    case round =>
      clear S1
      obtain ⟨i', rfl, hii, hij', SU, hsc⟩ := hrel
      by_cases hle : i' ≤ j
      · have hgu : decide ((i' : Int) ≤ (j : Int)) = true := decide_eq_true (by omega)
        cases hlv : (ltOf cf) dk[a]! dk[i']! with
        | false =>
          -- it goes on: i++
          obtain ⟨iN1216, hiN1216⟩ : ∃ q, q = a := ⟨_, rfl⟩
          obtain ⟨jN1216, hjN1216⟩ : ∃ q, q = i' := ⟨_, rfl⟩
          have ea1216 : ((a : Int)).toNat = iN1216 := by omega
          have pa1216 : (0 : Int) ≤ (a : Int) := by omega
          have ba1216 : (a : Int) < (d.size : Int) := by omega
          have ra1216 : IntKind.i64.wrap ((a : Int)) = (a : Int) := by rw [IntKind.wrap_i64]; omega
          have ec1216 : ((i' : Int)).toNat = jN1216 := by omega
          have pc1216 : (0 : Int) ≤ (i' : Int) := by omega
          have bc1216 : (i' : Int) < (d.size : Int) := by omega
          have rc1216 : IntKind.i64.wrap ((i' : Int)) = (i' : Int) := by rw [IntKind.wrap_i64]; omega
          obtain ⟨x1216, hx1216⟩ : ∃ x, x = dk[a]! := ⟨_, rfl⟩
          obtain ⟨y1216, hy1216⟩ : ∃ x, x = dk[i']! := ⟨_, rfl⟩
          have l1216a := SU.out.cl R (by omega) (a) (by omega)
          have l1216b := SU.out.cl R (by omega) (i') (by omega)
          rw [← hx1216, ← hiN1216] at l1216a
          rw [← hy1216, ← hjN1216] at l1216b
          have hc1216 := cmpF SU.out HC.out (by omega) x1216 y1216
          have hv1216 : ¬ cf x1216 y1216 < 0 := by rw [hx1216, hy1216]; exact of_decide_eq_false hlv
          have hd1216 : decide (cf x1216 y1216 < 0) = false := decide_eq_false hv1216
          clear hx1216 hy1216 hiN1216 hjN1216
          go_wp2_with fail
          go_quiet_grown (first | (go_at_fn g; refine Calls.grown_of (hc1216 _ _)))
          have SU2 : Aside (SW enc w0 blk off dk (grow (wr.drewN nq) osq)) := SU.out.grown nq osq
          clear l1216a l1216b hc1216 SU
          generalize grow (wr.drewN nq) osq = wu2 at SU2 ⊢
          clear nq osq
          clear ea1216 ec1216
          go_wp2
          go_roundw
          case rel => exact ⟨i' + 1, by go_num, by omega, by omega, SU2, (scanUp_go (fun x => !(ltOf cf) dk[a]! x) dk j i' hle (by simp [hlv])).symm.trans hsc.out⟩
          case measure => simp [intOf]; omega
        | true =>
          -- it stops: the test has failed
          have hi2 : Hid (i' = Sort.scanUp (fun x => !(ltOf cf) dk[a]! x) dk j i) := (scanUp_end (fun x => !(ltOf cf) dk[a]! x) dk j i' (Or.inr (by simp [hlv]))).symm.trans hsc.out
          clear hsc
          obtain ⟨iN1217, hiN1217⟩ : ∃ q, q = a := ⟨_, rfl⟩
          obtain ⟨jN1217, hjN1217⟩ : ∃ q, q = i' := ⟨_, rfl⟩
          have ea1217 : ((a : Int)).toNat = iN1217 := by omega
          have pa1217 : (0 : Int) ≤ (a : Int) := by omega
          have ba1217 : (a : Int) < (d.size : Int) := by omega
          have ra1217 : IntKind.i64.wrap ((a : Int)) = (a : Int) := by rw [IntKind.wrap_i64]; omega
          have ec1217 : ((i' : Int)).toNat = jN1217 := by omega
          have pc1217 : (0 : Int) ≤ (i' : Int) := by omega
          have bc1217 : (i' : Int) < (d.size : Int) := by omega
          have rc1217 : IntKind.i64.wrap ((i' : Int)) = (i' : Int) := by rw [IntKind.wrap_i64]; omega
          obtain ⟨x1217, hx1217⟩ : ∃ x, x = dk[a]! := ⟨_, rfl⟩
          obtain ⟨y1217, hy1217⟩ : ∃ x, x = dk[i']! := ⟨_, rfl⟩
          have l1217a := SU.out.cl R (by omega) (a) (by omega)
          have l1217b := SU.out.cl R (by omega) (i') (by omega)
          rw [← hx1217, ← hiN1217] at l1217a
          rw [← hy1217, ← hjN1217] at l1217b
          have hc1217 := cmpF SU.out HC.out (by omega) x1217 y1217
          have hv1217 : cf x1217 y1217 < 0 := by rw [hx1217, hy1217]; exact of_decide_eq_true hlv
          have hd1217 : decide (cf x1217 y1217 < 0) = true := decide_eq_true hv1217
          clear hx1217 hy1217 hiN1217 hjN1217
          go_wp2_with fail
          go_quiet_grown (first | (go_at_fn g; refine Calls.grown_of (hc1217 _ _)))
          have SU2 : Aside (SW enc w0 blk off dk (grow (wr.drewN nq) osq)) := SU.out.grown nq osq
          clear l1217a l1217b hc1217 SU
          generalize grow (wr.drewN nq) osq = wu2 at SU2 ⊢
          clear nq osq
          clear ea1217 ec1217
          go_wp2
          -- THE DOWNWARD SCAN
          go_loopw [12] (fun vj w2 => ∃ (j' : Nat), vj = .int .i64 j' ∧ j' ≤ j ∧ i' ≤ j' + 1 ∧ Aside (SW enc w0 blk off dk w2) ∧
              Hid (Sort.scanDown (fun x => (ltOf cf) dk[a]! x) dk i' j' = Sort.scanDown (fun x => (ltOf cf) dk[a]! x) dk i' j))
            (fun vj _ => (intOf vj).toNat)
          case atStart => exact ⟨j, rfl, Nat.le_refl _, hij', SU2, rfl⟩
          case round =>
            clear SU2
            obtain ⟨j', rfl, hjj, hij2, SD, hsd⟩ := hrel
            by_cases hle2 : i' ≤ j'
            · have hgd : decide ((i' : Int) ≤ (j' : Int)) = true := decide_eq_true (by omega)
              cases hlv2 : (ltOf cf) dk[a]! dk[j']! with
              | true =>
                -- it goes on: j--
                obtain ⟨iN1218, hiN1218⟩ : ∃ q, q = a := ⟨_, rfl⟩
                obtain ⟨jN1218, hjN1218⟩ : ∃ q, q = j' := ⟨_, rfl⟩
                have ea1218 : ((a : Int)).toNat = iN1218 := by omega
                have pa1218 : (0 : Int) ≤ (a : Int) := by omega
                have ba1218 : (a : Int) < (d.size : Int) := by omega
                have ra1218 : IntKind.i64.wrap ((a : Int)) = (a : Int) := by rw [IntKind.wrap_i64]; omega
                have ec1218 : ((j' : Int)).toNat = jN1218 := by omega
                have pc1218 : (0 : Int) ≤ (j' : Int) := by omega
                have bc1218 : (j' : Int) < (d.size : Int) := by omega
                have rc1218 : IntKind.i64.wrap ((j' : Int)) = (j' : Int) := by rw [IntKind.wrap_i64]; omega
                obtain ⟨x1218, hx1218⟩ : ∃ x, x = dk[a]! := ⟨_, rfl⟩
                obtain ⟨y1218, hy1218⟩ : ∃ x, x = dk[j']! := ⟨_, rfl⟩
                have l1218a := SD.out.cl R (by omega) (a) (by omega)
                have l1218b := SD.out.cl R (by omega) (j') (by omega)
                rw [← hx1218, ← hiN1218] at l1218a
                rw [← hy1218, ← hjN1218] at l1218b
                have hc1218 := cmpF SD.out HC.out (by omega) x1218 y1218
                have hv1218 : cf x1218 y1218 < 0 := by rw [hx1218, hy1218]; exact of_decide_eq_true hlv2
                have hd1218 : decide (cf x1218 y1218 < 0) = true := decide_eq_true hv1218
                clear hx1218 hy1218 hiN1218 hjN1218
                go_wp2_with fail
                go_quiet_grown (first | (go_at_fn g; refine Calls.grown_of (hc1218 _ _)))
                have SD2 : Aside (SW enc w0 blk off dk (grow (wr.drewN nq) osq)) := SD.out.grown nq osq
                clear l1218a l1218b hc1218 SD
                generalize grow (wr.drewN nq) osq = wd2 at SD2 ⊢
                clear nq osq
                clear ea1218 ec1218
                go_wp2
                go_roundw
                case rel => exact ⟨j' - 1, by go_num, by omega, by omega, SD2, (scanDown_go (fun x => (ltOf cf) dk[a]! x) dk i' j' hle2 (by omega) hlv2).symm.trans hsd.out⟩
                case measure => simp [intOf]; omega
              | false =>
                -- it stops: the exchange; i++; j--
                have hj2 : Hid (j' = Sort.scanDown (fun x => (ltOf cf) dk[a]! x) dk i' j) := (scanDown_end (fun x => (ltOf cf) dk[a]! x) dk i' j' (Or.inr hlv2)).symm.trans hsd.out
                have hlt3 := scans_lt (ltOf cf) a i j dk (by omega) hi2.out hj2.out hle2
                clear hsd
                obtain ⟨iN1219, hiN1219⟩ : ∃ q, q = a := ⟨_, rfl⟩
                obtain ⟨jN1219, hjN1219⟩ : ∃ q, q = j' := ⟨_, rfl⟩
                have ea1219 : ((a : Int)).toNat = iN1219 := by omega
                have pa1219 : (0 : Int) ≤ (a : Int) := by omega
                have ba1219 : (a : Int) < (d.size : Int) := by omega
                have ra1219 : IntKind.i64.wrap ((a : Int)) = (a : Int) := by rw [IntKind.wrap_i64]; omega
                have ec1219 : ((j' : Int)).toNat = jN1219 := by omega
                have pc1219 : (0 : Int) ≤ (j' : Int) := by omega
                have bc1219 : (j' : Int) < (d.size : Int) := by omega
                have rc1219 : IntKind.i64.wrap ((j' : Int)) = (j' : Int) := by rw [IntKind.wrap_i64]; omega
                obtain ⟨x1219, hx1219⟩ : ∃ x, x = dk[a]! := ⟨_, rfl⟩
                obtain ⟨y1219, hy1219⟩ : ∃ x, x = dk[j']! := ⟨_, rfl⟩
                have l1219a := SD.out.cl R (by omega) (a) (by omega)
                have l1219b := SD.out.cl R (by omega) (j') (by omega)
                rw [← hx1219, ← hiN1219] at l1219a
                rw [← hy1219, ← hjN1219] at l1219b
                have hc1219 := cmpF SD.out HC.out (by omega) x1219 y1219
                have hv1219 : ¬ cf x1219 y1219 < 0 := by rw [hx1219, hy1219]; exact of_decide_eq_false hlv2
                have hd1219 : decide (cf x1219 y1219 < 0) = false := decide_eq_false hv1219
                clear hx1219 hy1219 hiN1219 hjN1219
                go_wp2_with fail
                go_quiet_grown (first | (go_at_fn g; refine Calls.grown_of (hc1219 _ _)))
                have SD2 : Aside (SW enc w0 blk off dk (grow (wr.drewN nq) osq)) := SD.out.grown nq osq
                clear l1219a l1219b hc1219 SD
                generalize grow (wr.drewN nq) osq = wd2 at SD2 ⊢
                clear nq osq
                clear ea1219 ec1219
                go_wp2_with fail
                obtain ⟨iN1220, hiN1220⟩ : ∃ q, q = i' := ⟨_, rfl⟩
                obtain ⟨jN1220, hjN1220⟩ : ∃ q, q = j' := ⟨_, rfl⟩
                have ea1220 : ((i' : Int)).toNat = iN1220 := by omega
                have pa1220 : (0 : Int) ≤ (i' : Int) := by omega
                have ba1220 : (i' : Int) < (d.size : Int) := by omega
                have ra1220 : IntKind.i64.wrap ((i' : Int)) = (i' : Int) := by rw [IntKind.wrap_i64]; omega
                have ec1220 : ((j' : Int)).toNat = jN1220 := by omega
                have pc1220 : (0 : Int) ≤ (j' : Int) := by omega
                have bc1220 : (j' : Int) < (d.size : Int) := by omega
                have rc1220 : IntKind.i64.wrap ((j' : Int)) = (j' : Int) := by rw [IntKind.wrap_i64]; omega
                obtain ⟨x1220, hx1220⟩ : ∃ x, x = dk[i']! := ⟨_, rfl⟩
                obtain ⟨y1220, hy1220⟩ : ∃ x, x = dk[j']! := ⟨_, rfl⟩
                have SD3 : Aside (SW enc w0 blk off (swp dk (i') (j')) ((wd2.setCell ⟨blk, off + iN1220, none⟩ (enc y1220)).setCell ⟨blk, off + jN1220, none⟩ (enc x1220)).drew) := by rw [hiN1220, hjN1220, hx1220, hy1220]; exact SD2.out.swapped R (i') (j') (by omega) (by omega)
                have c1220a := SD2.out.c1 R (by omega) (i') (by omega)
                have c1220b := SD2.out.c1 R (by omega) (j') (by omega)
                have f1220a := SD2.out.f1 R (by omega) (i') (by omega)
                have f1220b := SD2.out.f1 R (by omega) (j') (by omega)
                obtain ⟨u1220, c1220c⟩ := SD2.out.c2 R (by omega) (i') (j') (by omega) (by omega) (enc y1220)
                rw [← hjN1220, ← hiN1220] at c1220c
                rw [← hx1220, ← hiN1220] at c1220a
                rw [← hy1220, ← hjN1220] at c1220b
                rw [← hiN1220] at f1220a
                rw [← hjN1220] at f1220b
                clear SD2 hx1220 hy1220 hiN1220 hjN1220
                go_wp2_with fail
                go_big_region_o
                clear c1220a c1220b c1220c f1220a f1220b
                generalize ((wd2.setCell ⟨blk, off + iN1220, none⟩ (enc y1220)).setCell ⟨blk, off + jN1220, none⟩ (enc x1220)).drew = wd3 at SD3 ⊢
                clear ea1220 ec1220
                go_wp2
                go_roundw
                case rel =>
                  refine ⟨i' + 1, j' - 1, Sort.swp dk i' j', by go_num, by go_num, by omega, by omega, by omega, by rw [size_swp]; exact hs', SD3, ?_⟩
                  rw [← AE.out]; exact (partEq_go (ltOf cf) a i j dk hi2.out hj2.out (by omega)).symm
                case measure => simp [intOf]; omega
            · -- it stops: i > j: break; return i (the guard is false: 'cmp' is not called)
              have hj2 : Hid (j' = Sort.scanDown (fun x => (ltOf cf) dk[a]! x) dk i' j) := (scanDown_end (fun x => (ltOf cf) dk[a]! x) dk i' j' (Or.inl hle2)).symm.trans hsd.out
              have hgd : decide ((i' : Int) ≤ (j' : Int)) = false := decide_eq_false (by omega)
              clear hsd
              go_wp2_with fail
              go_big_region_o
              have SD2 : Aside (SW enc w0 blk off dk wr.drew) := SD.out.drew
              clear SD
              generalize wr.drew = wd2 at SD2 ⊢
              go_wp2
              go_ret
              have e := partEq_break (ltOf cf) a i j dk hi2.out hj2.out (by omega)
              refine ⟨?_, ?_⟩
              · unfold Sort.partitionEqual; rw [← AE.out, e]; rfl
              · unfold Sort.partitionEqual; rw [← AE.out, e]; exact SD2.out
      · -- it stops: i > j (the guard is false)
        have hi2 : Hid (i' = Sort.scanUp (fun x => !(ltOf cf) dk[a]! x) dk j i) := (scanUp_end (fun x => !(ltOf cf) dk[a]! x) dk j i' (Or.inl hle)).symm.trans hsc.out
        have hgu : decide ((i' : Int) ≤ (j : Int)) = false := decide_eq_false (by omega)
        clear hsc
        go_wp2_with fail
        go_big_region_o
        have SU2 : Aside (SW enc w0 blk off dk wr.drew) := SU.out.drew
        clear SU
        generalize wr.drew = wu2 at SU2 ⊢
        go_wp2
        -- THE DOWNWARD SCAN
        go_loopw [12] (fun vj w2 => ∃ (j' : Nat), vj = .int .i64 j' ∧ j' ≤ j ∧ i' ≤ j' + 1 ∧ Aside (SW enc w0 blk off dk w2) ∧
            Hid (Sort.scanDown (fun x => (ltOf cf) dk[a]! x) dk i' j' = Sort.scanDown (fun x => (ltOf cf) dk[a]! x) dk i' j))
          (fun vj _ => (intOf vj).toNat)
        case atStart => exact ⟨j, rfl, Nat.le_refl _, hij', SU2, rfl⟩
        case round =>
          clear SU2
          obtain ⟨j', rfl, hjj, hij2, SD, hsd⟩ := hrel
          by_cases hle2 : i' ≤ j'
          · exfalso; omega      -- the upward scan has run past j, and j' ≤ j
          · -- it stops: i > j: break; return i (the guard is false: 'cmp' is not called)
            have hj2 : Hid (j' = Sort.scanDown (fun x => (ltOf cf) dk[a]! x) dk i' j) := (scanDown_end (fun x => (ltOf cf) dk[a]! x) dk i' j' (Or.inl hle2)).symm.trans hsd.out
            have hgd : decide ((i' : Int) ≤ (j' : Int)) = false := decide_eq_false (by omega)
            clear hsd
            go_wp2_with fail
            go_big_region_o
            have SD2 : Aside (SW enc w0 blk off dk wr.drew) := SD.out.drew
            clear SD
            generalize wr.drew = wd2 at SD2 ⊢
            go_wp2
            go_ret
            have e := partEq_break (ltOf cf) a i j dk hi2.out hj2.out (by omega)
            refine ⟨?_, ?_⟩
            · unfold Sort.partitionEqual; rw [← AE.out, e]; rfl
            · unfold Sort.partitionEqual; rw [← AE.out, e]; exact SD2.out
end
end Go.Proofs.Ytdeiinfljfgmeaa
