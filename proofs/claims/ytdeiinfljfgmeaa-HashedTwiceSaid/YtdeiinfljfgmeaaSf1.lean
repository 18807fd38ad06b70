/-
  slices.SortFunc by a function value whose first arguments are bound: the walks of the shelf, turned. (Printed by mksortf.py.)
-/
import Derived.Shelf.SlSortCmp.Kit1
import Derived.Shelf.SlSortCmp.Insertion1
import Derived.Shelf.SlSortCmp.SiftDown1
import Derived.Shelf.SlSortCmp.HeapSort1
namespace Go.Proofs.Ytdeiinfljfgmeaa
open Go.Proofs
section
open Go.Shelf Go.RowKit Go.Lib Go.Sort
variable {P : Program} {α : Type} [Inhabited α] {enc : α → Value} {w0 W : World} {blk off : Nat} {dk : Array α}

def CmpLays1 (P : Program) (g : Nat) (fv : Value) (enc : α → Value) (cf : α → α → Int) (blk off size : Nat) (w : World) : Prop :=
  ∀ (m : Nat) (os : Array Obj) (dk : Array α), dk.size = size → ∀ x y : α,
    Calls P g (#[fv, enc x, enc y]) (sortWorld enc w blk off m dk os) fun e w' => e = .returned (.int .i64 (cf x y)) ∧ ∃ q os', w' = grow ((sortWorld enc w blk off m dk os).drewN q) os'
variable {d0 : Array α}

theorem cmpF {g : Nat} {fv : Value} {cf : α → α → Int} {size : Nat} (h : SW enc w0 blk off dk W) (hC : CmpLays1 P g fv enc cf blk off size w0) (hs : dk.size = size) (x y : α) (n : Nat) (os : Array Obj) :
    Calls P g (#[fv, enc x, enc y]) (grow (W.drewN n) os) fun e w' => e = .returned (.int .i64 (cf x y)) ∧ ∃ q os', w' = grow ((grow (W.drewN n) os).drewN q) os' := by
  obtain ⟨m, os0, hw⟩ := h.grown n os
  rw [hw]
  exact hC m os0 dk hs x y
end
section
open Go.Shelf Go.RowKit Go.Lib Go.Sort
variable {P : Program} {ρ : Ren} {α : Type} [Inhabited α]

set_option maxHeartbeats 16000000 in
set_option maxRecDepth 1000000 in
theorem Any.insertionSortCmpFunc_s (L : SlLaysF.n20 P ρ) (enc : α → Value) (cf : α → α → Int) (g : Nat) (fv : Value) (blk off cap a b : Nat) (d0 d : Array α) (w0 w : World)
    (eg : ∀ args w, (callFunc g args).run P w = .ok (.enter g args) w) (hcmp : CmpLays1 P g fv enc cf blk off d0.size w0) (R : Row1 enc w0 blk off d0) (hs : d0.size = d.size) (S : SW enc w0 blk off d w) (hab : a ≤ b) (hb : b ≤ d.size) (hsz : d.size < 4611686018427387904) :
    Calls P (ρ.f 20) #[.slice (some ⟨blk, off, none⟩) d.size cap, .int .i64 a, .int .i64 b, .func (.func g) #[fv] #[]] w fun e w' => e = .returned (.tuple #[]) ∧ SW enc w0 blk off (Sort.insertionSort (ltOf cf) d a b) w' := by
  have mixed := L.mixed; have t0 := L.t0; have a0 := L.a0; have z0 := L.z0; have v0 := L.v0; have t3 := L.t3; have a3 := L.a3; have z3 := L.z3; have v3 := L.v3; have t4 := L.t4; have a4 := L.a4; have z4 := L.z4; have v4 := L.v4; have t22 := L.t22; have a22 := L.a22; have z22 := L.z22; have v22 := L.v22; have t25 := L.t25; have a25 := L.a25; have z25 := L.z25; have v25 := L.v25
  have a24 := L.a24; have z24 := L.z24
  have u22 := run_underlying L.t22
  have hcl0 := R.hO.cells
  simp only [Value.cells] at hcl0
  have hst := R.hO.store P
  obtain ⟨_, _, FG⟩ := L.f20
  have HC : Aside _ := hcmp
  have S0 : Aside (SW enc w0 blk off d w) := S
  clear S
  clear hcmp
  go_enter FG, SlBodyF.n20_ntmps ρ
  go_wp2
  go_loopg [8] (b - a) (fun g1 vi wr => ∃ (i : Nat) (dk : Array α), vi = .int .i64 i ∧ a < i ∧ i ≤ b + 1 ∧ b + 1 - i ≤ g1 + 1 ∧ dk.size = d.size ∧ Aside (SW enc w0 blk off dk wr) ∧ Hid (insOuter (ltOf cf) a b i dk = insOuter (ltOf cf) a b (a + 1) d))
  case atStart => exact ⟨a + 1, d, by go_num, by omega, by omega, by omega, rfl, S0, rfl⟩
  case round =>
    clear S0
    obtain ⟨i, dk, rfl, hai, hib, hg1, hsk, S1, HO⟩ := hrel
    by_cases hlt : i < b
    · have hltz : (i : Int) < (b : Int) := by omega
      go_wp2
      -- the inner loop
      go_loopg [9] i (fun g2 vj wr2 => ∃ (j : Nat) (dj : Array α), vj = .int .i64 j ∧ a ≤ j ∧ j ≤ i ∧ j ≤ g2 ∧ dj.size = d.size ∧ Aside (SW enc w0 blk off dj wr2) ∧ Hid (insInner (ltOf cf) a j dj = insInner (ltOf cf) a i dk))
      case atStart => exact ⟨i, dk, rfl, by omega, Nat.le_refl _, Nat.le_refl _, hsk, S1, rfl⟩
      case round =>
        clear S1
        obtain ⟨j, dj, rfl, haj, hji, hg2, hsj, SJ, HI⟩ := hrel
        have out : (j ≤ a ∨ (ltOf cf) dj[j]! dj[j - 1]! = false) → Hid (insOuter (ltOf cf) a b (i + 1) dj = insOuter (ltOf cf) a b (a + 1) d) := fun hs => by
          show _ = _
          rw [← HO.out, insOuter_go _ _ _ _ _ hlt, ← HI.out, insInner_stop _ _ _ _ hs]
        have OUT : Aside _ := out
        clear out
        by_cases hja : a < j
        · have hjaz : (a : Int) < (j : Int) := by omega
          obtain ⟨jp, hjp⟩ : ∃ q, q + 1 = j := ⟨j - 1, by omega⟩
          have zjp : (j : Int) = (jp : Int) + 1 := by omega
          have hjad : decide ((jp : Int) + 1 > (a : Int)) = true := decide_eq_true (by omega)
          have hjaz' : (a : Int) < (jp : Int) + 1 := by omega
          cases hlv : (ltOf cf) dj[j]! dj[j - 1]! with
          | true =>
            obtain ⟨iN1193, hiN1193⟩ : ∃ q, q = j := ⟨_, rfl⟩
            obtain ⟨jN1193, hjN1193⟩ : ∃ q, q = j - 1 := ⟨_, rfl⟩
            have ea1193 : ((jp : Int) + 1).toNat = iN1193 := by omega
            have pa1193 : (0 : Int) ≤ (jp : Int) + 1 := by omega
            have ba1193 : (jp : Int) + 1 < (d.size : Int) := by omega
            have ra1193 : IntKind.i64.wrap ((jp : Int) + 1) = (jp : Int) + 1 := by rw [IntKind.wrap_i64]; omega
            have ec1193 : ((jp : Int)).toNat = jN1193 := by omega
            have pc1193 : (0 : Int) ≤ (jp : Int) := by omega
            have bc1193 : (jp : Int) < (d.size : Int) := by omega
            have rc1193 : IntKind.i64.wrap ((jp : Int)) = (jp : Int) := by rw [IntKind.wrap_i64]; omega
            obtain ⟨x1193, hx1193⟩ : ∃ x, x = dj[j]! := ⟨_, rfl⟩
            obtain ⟨y1193, hy1193⟩ : ∃ x, x = dj[j - 1]! := ⟨_, rfl⟩
            have l1193a := SJ.out.cl R (by omega) (j) (by omega)
            have l1193b := SJ.out.cl R (by omega) (j - 1) (by omega)
            rw [← hx1193, ← hiN1193] at l1193a
            rw [← hy1193, ← hjN1193] at l1193b
            have hc1193 := cmpF SJ.out HC.out (by omega) x1193 y1193
            have hv1193 : cf x1193 y1193 < 0 := by rw [hx1193, hy1193]; exact of_decide_eq_true hlv
            have hd1193 : decide (cf x1193 y1193 < 0) = true := decide_eq_true hv1193
            clear hx1193 hy1193 hiN1193 hjN1193
            go_wp2_with fail
            go_quiet_grown (first | (go_at_fn g; refine Calls.grown_of (hc1193 _ _)))
            have S2 : Aside (SW enc w0 blk off dj (grow (wr.drewN nq) osq)) := SJ.out.grown nq osq
            clear l1193a l1193b hc1193 SJ
            generalize grow (wr.drewN nq) osq = w2 at S2 ⊢
            clear nq osq
            clear ea1193 ec1193
            go_wp2_with fail
            obtain ⟨iN1194, hiN1194⟩ : ∃ q, q = j := ⟨_, rfl⟩
            obtain ⟨jN1194, hjN1194⟩ : ∃ q, q = j - 1 := ⟨_, rfl⟩
            have ea1194 : ((jp : Int) + 1).toNat = iN1194 := by omega
            have pa1194 : (0 : Int) ≤ (jp : Int) + 1 := by omega
            have ba1194 : (jp : Int) + 1 < (d.size : Int) := by omega
            have ra1194 : IntKind.i64.wrap ((jp : Int) + 1) = (jp : Int) + 1 := by rw [IntKind.wrap_i64]; omega
            have ec1194 : ((jp : Int)).toNat = jN1194 := by omega
            have pc1194 : (0 : Int) ≤ (jp : Int) := by omega
            have bc1194 : (jp : Int) < (d.size : Int) := by omega
            have rc1194 : IntKind.i64.wrap ((jp : Int)) = (jp : Int) := by rw [IntKind.wrap_i64]; omega
            obtain ⟨x1194, hx1194⟩ : ∃ x, x = dj[j]! := ⟨_, rfl⟩
            obtain ⟨y1194, hy1194⟩ : ∃ x, x = dj[j - 1]! := ⟨_, rfl⟩
            have S3 : Aside (SW enc w0 blk off (swp dj (j) (j - 1)) ((w2.setCell ⟨blk, off + iN1194, none⟩ (enc y1194)).setCell ⟨blk, off + jN1194, none⟩ (enc x1194)).drew) := by rw [hiN1194, hjN1194, hx1194, hy1194]; exact S2.out.swapped R (j) (j - 1) (by omega) (by omega)
            have c1194a := S2.out.c1 R (by omega) (j) (by omega)
            have c1194b := S2.out.c1 R (by omega) (j - 1) (by omega)
            have f1194a := S2.out.f1 R (by omega) (j) (by omega)
            have f1194b := S2.out.f1 R (by omega) (j - 1) (by omega)
            obtain ⟨u1194, c1194c⟩ := S2.out.c2 R (by omega) (j) (j - 1) (by omega) (by omega) (enc y1194)
            rw [← hjN1194, ← hiN1194] at c1194c
            rw [← hx1194, ← hiN1194] at c1194a
            rw [← hy1194, ← hjN1194] at c1194b
            rw [← hiN1194] at f1194a
            rw [← hjN1194] at f1194b
            clear S2 hx1194 hy1194 hiN1194 hjN1194
            go_wp2_with fail
            go_big_region_o
            clear c1194a c1194b c1194c f1194a f1194b
            generalize ((w2.setCell ⟨blk, off + iN1194, none⟩ (enc y1194)).setCell ⟨blk, off + jN1194, none⟩ (enc x1194)).drew = w3 at S3 ⊢
            clear ea1194 ec1194
            go_wp2
            go_roundg (j - 1)
            case measure => omega
            case rel => exact ⟨j - 1, swp dj j (j - 1), by first | rfl | go_num | (congr 1; omega), by omega, by omega, Nat.le_refl _, by rw [size_swp]; exact hsj, S3, (show Hid _ from by rw [← HI.out, insInner_go (ltOf cf) a j dj hja hlv]; exact rfl)⟩
          | false =>
            obtain ⟨iN1195, hiN1195⟩ : ∃ q, q = j := ⟨_, rfl⟩
            obtain ⟨jN1195, hjN1195⟩ : ∃ q, q = j - 1 := ⟨_, rfl⟩
            have ea1195 : ((jp : Int) + 1).toNat = iN1195 := by omega
            have pa1195 : (0 : Int) ≤ (jp : Int) + 1 := by omega
            have ba1195 : (jp : Int) + 1 < (d.size : Int) := by omega
            have ra1195 : IntKind.i64.wrap ((jp : Int) + 1) = (jp : Int) + 1 := by rw [IntKind.wrap_i64]; omega
            have ec1195 : ((jp : Int)).toNat = jN1195 := by omega
            have pc1195 : (0 : Int) ≤ (jp : Int) := by omega
            have bc1195 : (jp : Int) < (d.size : Int) := by omega
            have rc1195 : IntKind.i64.wrap ((jp : Int)) = (jp : Int) := by rw [IntKind.wrap_i64]; omega
            obtain ⟨x1195, hx1195⟩ : ∃ x, x = dj[j]! := ⟨_, rfl⟩
            obtain ⟨y1195, hy1195⟩ : ∃ x, x = dj[j - 1]! := ⟨_, rfl⟩
            have l1195a := SJ.out.cl R (by omega) (j) (by omega)
            have l1195b := SJ.out.cl R (by omega) (j - 1) (by omega)
            rw [← hx1195, ← hiN1195] at l1195a
            rw [← hy1195, ← hjN1195] at l1195b
            have hc1195 := cmpF SJ.out HC.out (by omega) x1195 y1195
            have hv1195 : ¬ cf x1195 y1195 < 0 := by rw [hx1195, hy1195]; exact of_decide_eq_false hlv
            have hd1195 : decide (cf x1195 y1195 < 0) = false := decide_eq_false hv1195
            clear hx1195 hy1195 hiN1195 hjN1195
            go_wp2_with fail
            go_quiet_grown (first | (go_at_fn g; refine Calls.grown_of (hc1195 _ _)))
            have S2 : Aside (SW enc w0 blk off dj (grow (wr.drewN nq) osq)) := SJ.out.grown nq osq
            clear l1195a l1195b hc1195 SJ
            generalize grow (wr.drewN nq) osq = w2 at S2 ⊢
            clear nq osq
            clear ea1195 ec1195
            go_wp2
            go_roundg (b - (i + 1))
            case measure => omega
            case rel => exact ⟨i + 1, dj, by go_num, by omega, by omega, by omega, hsj, S2, OUT.out (Or.inr hlv)⟩
        · -- j = a: out of the inner loop (the guard is false: 'cmp' is not called)
          have hjaz : decide ((j : Int) > (a : Int)) = false := decide_eq_false (by omega)
          have hjaz' : ¬ (a : Int) < (j : Int) := by omega
          go_wp2_with fail
          go_big_region_o
          have S2 : Aside (SW enc w0 blk off dj wr.drew) := SJ.out.drew
          clear SJ
          generalize wr.drew = w2 at S2 ⊢
          go_wp2
          go_roundg (b - (i + 1))
          case measure => omega
          case rel => exact ⟨i + 1, dj, by go_num, by omega, by omega, by omega, hsj, S2, OUT.out (Or.inl (by omega))⟩
    · -- the outer loop is at its end
      have hltz : ¬ (i : Int) < (b : Int) := by omega
      go_wp2
      go_end0
      exact ⟨rfl, by unfold Sort.insertionSort; rw [← HO.out, insOuter_stop _ _ _ _ _ hlt]; exact S1.out⟩
end
section
open Go.Shelf Go.RowKit Go.Lib Go.Sort
variable {P : Program} {ρ : Ren} {α : Type} [Inhabited α]

set_option maxHeartbeats 8000000 in
set_option maxRecDepth 1000000 in
theorem Any.siftDownCmpFunc (L : SlLaysF.n46 P ρ) (enc : α → Value) (cf : α → α → Int) (g : Nat) (fv : Value) (blk off cap lo hi first : Nat) (d0 d : Array α) (w0 w : World)
    (eg : ∀ args w, (callFunc g args).run P w = .ok (.enter g args) w) (hcmp : CmpLays1 P g fv enc cf blk off d0.size w0) (R : Row1 enc w0 blk off d0) (hs : d0.size = d.size) (S : SW enc w0 blk off d w) (hlo : lo ≤ hi) (hb : first + hi ≤ d.size) (hsz : d.size < 4611686018427387904) :
    Calls P (ρ.f 46) #[.slice (some ⟨blk, off, none⟩) d.size cap, .int .i64 lo, .int .i64 hi, .int .i64 first, .func (.func g) #[fv] #[]] w fun e w' =>
      e = .returned (.tuple #[]) ∧ SW enc w0 blk off (siftDown (ltOf cf) hi first lo d) w' := by
  have mixed := L.mixed; have t0 := L.t0; have a0 := L.a0; have z0 := L.z0; have v0 := L.v0; have t3 := L.t3; have a3 := L.a3; have z3 := L.z3; have v3 := L.v3; have t4 := L.t4; have a4 := L.a4; have z4 := L.z4; have v4 := L.v4; have t22 := L.t22; have a22 := L.a22; have z22 := L.z22; have v22 := L.v22; have t25 := L.t25; have a25 := L.a25; have z25 := L.z25; have v25 := L.v25
  have a24 := L.a24; have z24 := L.z24
  have u22 := run_underlying L.t22
  have hcl0 := R.hO.cells
  simp only [Value.cells] at hcl0
  have hst := R.hO.store P
  obtain ⟨_, _, FG⟩ := L.f46
  have HC : Aside _ := hcmp
  have S0 : Aside _ := S
  clear hcmp S
  go_enter FG, SlBodyF.n46_ntmps ρ
  go_wp2
  go_loopg [10] (hi - lo) (fun kx s10 wr => ∃ (root : Nat) (dk : Array α), s10 = .int .i64 root ∧ root ≤ hi ∧ hi - root ≤ kx ∧ dk.size = d.size ∧ Aside (SW enc w0 blk off dk wr) ∧ Hid (siftDown (ltOf cf) hi first root dk = siftDown (ltOf cf) hi first lo d))
  case atStart => exact ⟨lo, d, rfl, hlo, Nat.le_refl _, rfl, S0, rfl⟩
  case round =>
    obtain ⟨root, dk, rfl, hr, hkx, hds, S1, HE⟩ := hrel
    clear S0
    by_cases h0 : hi ≤ 2 * root + 1
    · -- no child: the loop is left
      have h0z : (hi : Int) ≤ 2 * (root : Int) + 1 := by omega
      go_wp2
      go_end0
      refine ⟨rfl, ?_⟩
      rw [← HE.out, sd_end (ltOf cf) dk h0]
      exact S1.out
    · have h0z : ¬ ((hi : Int) ≤ 2 * (root : Int) + 1) := by omega
      have rch : IntKind.i64.wrap (2 * (root : Int) + 1 + 1) = 2 * (root : Int) + 1 + 1 := by rw [IntKind.wrap_i64]; omega
      by_cases h1 : 2 * root + 2 < hi
      · -- there is a right child: 'cmp(data[first+child], data[first+child+1]) < 0'
        have h1z : 2 * (root : Int) + 1 + 1 < (hi : Int) := by omega
        cases hL : ltOf cf dk[first + (2 * root + 1)]! dk[first + (2 * root + 2)]! with
        | true =>
          obtain ⟨iN1182, hiN1182⟩ : ∃ q, q = first + (2 * root + 1) := ⟨_, rfl⟩
          obtain ⟨jN1182, hjN1182⟩ : ∃ q, q = first + (2 * root + 2) := ⟨_, rfl⟩
          have ea1182 : ((first : Int) + (2 * (root : Int) + 1)).toNat = iN1182 := by omega
          have pa1182 : (0 : Int) ≤ (first : Int) + (2 * (root : Int) + 1) := by omega
          have ba1182 : (first : Int) + (2 * (root : Int) + 1) < (d.size : Int) := by omega
          have ra1182 : IntKind.i64.wrap ((first : Int) + (2 * (root : Int) + 1)) = (first : Int) + (2 * (root : Int) + 1) := by rw [IntKind.wrap_i64]; omega
          have ec1182 : ((first : Int) + (2 * (root : Int) + 1) + 1).toNat = jN1182 := by omega
          have pc1182 : (0 : Int) ≤ (first : Int) + (2 * (root : Int) + 1) + 1 := by omega
          have bc1182 : (first : Int) + (2 * (root : Int) + 1) + 1 < (d.size : Int) := by omega
          have rc1182 : IntKind.i64.wrap ((first : Int) + (2 * (root : Int) + 1) + 1) = (first : Int) + (2 * (root : Int) + 1) + 1 := by rw [IntKind.wrap_i64]; omega
          obtain ⟨x1182, hx1182⟩ : ∃ x, x = dk[first + (2 * root + 1)]! := ⟨_, rfl⟩
          obtain ⟨y1182, hy1182⟩ : ∃ x, x = dk[first + (2 * root + 2)]! := ⟨_, rfl⟩
          have l1182a := S1.out.cl R (by omega) (first + (2 * root + 1)) (by omega)
          have l1182b := S1.out.cl R (by omega) (first + (2 * root + 2)) (by omega)
          rw [← hx1182, ← hiN1182] at l1182a
          rw [← hy1182, ← hjN1182] at l1182b
          have hc1182 := cmpF S1.out HC.out (by omega) x1182 y1182
          have hv1182 : cf x1182 y1182 < 0 := by rw [hx1182, hy1182]; exact of_decide_eq_true hL
          have hd1182 : decide (cf x1182 y1182 < 0) = true := decide_eq_true hv1182
          clear hx1182 hy1182 hiN1182 hjN1182
          go_wp2_with fail
          go_quiet_grown (first | (go_at_fn g; refine Calls.grown_of (hc1182 _ _)))
          have S2 : Aside (SW enc w0 blk off dk (grow (wr.drewN nq) osq)) := S1.out.grown nq osq
          clear l1182a l1182b hc1182 S1
          generalize grow (wr.drewN nq) osq = w2 at S2 ⊢
          clear nq osq
          clear ea1182 ec1182
          go_wp2_with fail
          cases hG : ltOf cf dk[first + root]! dk[first + (2 * root + 2)]! with
          | true =>
            obtain ⟨iN1183, hiN1183⟩ : ∃ q, q = first + root := ⟨_, rfl⟩
            obtain ⟨jN1183, hjN1183⟩ : ∃ q, q = first + (2 * root + 2) := ⟨_, rfl⟩
            have ea1183 : ((first : Int) + (root : Int)).toNat = iN1183 := by omega
            have pa1183 : (0 : Int) ≤ (first : Int) + (root : Int) := by omega
            have ba1183 : (first : Int) + (root : Int) < (d.size : Int) := by omega
            have ra1183 : IntKind.i64.wrap ((first : Int) + (root : Int)) = (first : Int) + (root : Int) := by rw [IntKind.wrap_i64]; omega
            have ec1183 : ((first : Int) + (2 * (root : Int) + 1 + 1)).toNat = jN1183 := by omega
            have pc1183 : (0 : Int) ≤ (first : Int) + (2 * (root : Int) + 1 + 1) := by omega
            have bc1183 : (first : Int) + (2 * (root : Int) + 1 + 1) < (d.size : Int) := by omega
            have rc1183 : IntKind.i64.wrap ((first : Int) + (2 * (root : Int) + 1 + 1)) = (first : Int) + (2 * (root : Int) + 1 + 1) := by rw [IntKind.wrap_i64]; omega
            obtain ⟨x1183, hx1183⟩ : ∃ x, x = dk[first + root]! := ⟨_, rfl⟩
            obtain ⟨y1183, hy1183⟩ : ∃ x, x = dk[first + (2 * root + 2)]! := ⟨_, rfl⟩
            have l1183a := S2.out.cl R (by omega) (first + root) (by omega)
            have l1183b := S2.out.cl R (by omega) (first + (2 * root + 2)) (by omega)
            rw [← hx1183, ← hiN1183] at l1183a
            rw [← hy1183, ← hjN1183] at l1183b
            have hc1183 := cmpF S2.out HC.out (by omega) x1183 y1183
            have hv1183 : cf x1183 y1183 < 0 := by rw [hx1183, hy1183]; exact of_decide_eq_true hG
            have hd1183 : decide (cf x1183 y1183 < 0) = true := decide_eq_true hv1183
            clear hx1183 hy1183 hiN1183 hjN1183
            go_wp2_with fail
            go_quiet_grown (first | (go_at_fn g; refine Calls.grown_of (hc1183 _ _)))
            have S3 : Aside (SW enc w0 blk off dk (grow (w2.drewN nq) osq)) := S2.out.grown nq osq
            clear l1183a l1183b hc1183 S2
            generalize grow (w2.drewN nq) osq = w3 at S3 ⊢
            clear nq osq
            clear ea1183 ec1183
            obtain ⟨iN1184, hiN1184⟩ : ∃ q, q = first + root := ⟨_, rfl⟩
            obtain ⟨jN1184, hjN1184⟩ : ∃ q, q = first + (2 * root + 2) := ⟨_, rfl⟩
            have ea1184 : ((first : Int) + (root : Int)).toNat = iN1184 := by omega
            have pa1184 : (0 : Int) ≤ (first : Int) + (root : Int) := by omega
            have ba1184 : (first : Int) + (root : Int) < (d.size : Int) := by omega
            have ra1184 : IntKind.i64.wrap ((first : Int) + (root : Int)) = (first : Int) + (root : Int) := by rw [IntKind.wrap_i64]; omega
            have ec1184 : ((first : Int) + (2 * (root : Int) + 1 + 1)).toNat = jN1184 := by omega
            have pc1184 : (0 : Int) ≤ (first : Int) + (2 * (root : Int) + 1 + 1) := by omega
            have bc1184 : (first : Int) + (2 * (root : Int) + 1 + 1) < (d.size : Int) := by omega
            have rc1184 : IntKind.i64.wrap ((first : Int) + (2 * (root : Int) + 1 + 1)) = (first : Int) + (2 * (root : Int) + 1 + 1) := by rw [IntKind.wrap_i64]; omega
            obtain ⟨x1184, hx1184⟩ : ∃ x, x = dk[first + root]! := ⟨_, rfl⟩
            obtain ⟨y1184, hy1184⟩ : ∃ x, x = dk[first + (2 * root + 2)]! := ⟨_, rfl⟩
            have S4 : Aside (SW enc w0 blk off (swp dk (first + root) (first + (2 * root + 2))) ((w3.setCell ⟨blk, off + iN1184, none⟩ (enc y1184)).setCell ⟨blk, off + jN1184, none⟩ (enc x1184)).drew) := by rw [hiN1184, hjN1184, hx1184, hy1184]; exact S3.out.swapped R (first + root) (first + (2 * root + 2)) (by omega) (by omega)
            have c1184a := S3.out.c1 R (by omega) (first + root) (by omega)
            have c1184b := S3.out.c1 R (by omega) (first + (2 * root + 2)) (by omega)
            have f1184a := S3.out.f1 R (by omega) (first + root) (by omega)
            have f1184b := S3.out.f1 R (by omega) (first + (2 * root + 2)) (by omega)
            obtain ⟨u1184, c1184c⟩ := S3.out.c2 R (by omega) (first + root) (first + (2 * root + 2)) (by omega) (by omega) (enc y1184)
            rw [← hjN1184, ← hiN1184] at c1184c
            rw [← hx1184, ← hiN1184] at c1184a
            rw [← hy1184, ← hjN1184] at c1184b
            rw [← hiN1184] at f1184a
            rw [← hjN1184] at f1184b
            clear S3 hx1184 hy1184 hiN1184 hjN1184
            go_wp2_with fail
            go_big_region_o
            clear c1184a c1184b c1184c f1184a f1184b
            generalize ((w3.setCell ⟨blk, off + iN1184, none⟩ (enc y1184)).setCell ⟨blk, off + jN1184, none⟩ (enc x1184)).drew = w4 at S4 ⊢
            clear ea1184 ec1184
            go_wp2
            go_roundg (hi - (2 * root + 2))
            case measure => omega
            case rel => exact ⟨2 * root + 2, swp dk (first + root) (first + (2 * root + 2)), by go_num, by omega, Nat.le_refl _, by rw [size_swp]; exact hds, S4, (show Hid _ from by rw [← HE.out, sd_right_go (ltOf cf) dk h1 hL hG]; exact rfl)⟩
          | false =>
            obtain ⟨iN1185, hiN1185⟩ : ∃ q, q = first + root := ⟨_, rfl⟩
            obtain ⟨jN1185, hjN1185⟩ : ∃ q, q = first + (2 * root + 2) := ⟨_, rfl⟩
            have ea1185 : ((first : Int) + (root : Int)).toNat = iN1185 := by omega
            have pa1185 : (0 : Int) ≤ (first : Int) + (root : Int) := by omega
            have ba1185 : (first : Int) + (root : Int) < (d.size : Int) := by omega
            have ra1185 : IntKind.i64.wrap ((first : Int) + (root : Int)) = (first : Int) + (root : Int) := by rw [IntKind.wrap_i64]; omega
            have ec1185 : ((first : Int) + (2 * (root : Int) + 1 + 1)).toNat = jN1185 := by omega
            have pc1185 : (0 : Int) ≤ (first : Int) + (2 * (root : Int) + 1 + 1) := by omega
            have bc1185 : (first : Int) + (2 * (root : Int) + 1 + 1) < (d.size : Int) := by omega
            have rc1185 : IntKind.i64.wrap ((first : Int) + (2 * (root : Int) + 1 + 1)) = (first : Int) + (2 * (root : Int) + 1 + 1) := by rw [IntKind.wrap_i64]; omega
            obtain ⟨x1185, hx1185⟩ : ∃ x, x = dk[first + root]! := ⟨_, rfl⟩
            obtain ⟨y1185, hy1185⟩ : ∃ x, x = dk[first + (2 * root + 2)]! := ⟨_, rfl⟩
            have l1185a := S2.out.cl R (by omega) (first + root) (by omega)
            have l1185b := S2.out.cl R (by omega) (first + (2 * root + 2)) (by omega)
            rw [← hx1185, ← hiN1185] at l1185a
            rw [← hy1185, ← hjN1185] at l1185b
            have hc1185 := cmpF S2.out HC.out (by omega) x1185 y1185
            have hv1185 : ¬ cf x1185 y1185 < 0 := by rw [hx1185, hy1185]; exact of_decide_eq_false hG
            have hd1185 : decide (cf x1185 y1185 < 0) = false := decide_eq_false hv1185
            clear hx1185 hy1185 hiN1185 hjN1185
            go_wp2_with fail
            go_quiet_grown (first | (go_at_fn g; refine Calls.grown_of (hc1185 _ _)))
            have S3 : Aside (SW enc w0 blk off dk (grow (w2.drewN nq) osq)) := S2.out.grown nq osq
            clear l1185a l1185b hc1185 S2
            generalize grow (w2.drewN nq) osq = w3 at S3 ⊢
            clear nq osq
            clear ea1185 ec1185
            go_wp2
            (try simp only [Exit.inBlock, Exit.then]); refine bodyPost_ret (results_none rfl _ _ _) rfl ?_
            refine ⟨rfl, ?_⟩
            rw [← HE.out, sd_right_stop (ltOf cf) dk h1 hL hG]
            exact S3.out
        | false =>
          obtain ⟨iN1186, hiN1186⟩ : ∃ q, q = first + (2 * root + 1) := ⟨_, rfl⟩
          obtain ⟨jN1186, hjN1186⟩ : ∃ q, q = first + (2 * root + 2) := ⟨_, rfl⟩
          have ea1186 : ((first : Int) + (2 * (root : Int) + 1)).toNat = iN1186 := by omega
          have pa1186 : (0 : Int) ≤ (first : Int) + (2 * (root : Int) + 1) := by omega
          have ba1186 : (first : Int) + (2 * (root : Int) + 1) < (d.size : Int) := by omega
          have ra1186 : IntKind.i64.wrap ((first : Int) + (2 * (root : Int) + 1)) = (first : Int) + (2 * (root : Int) + 1) := by rw [IntKind.wrap_i64]; omega
          have ec1186 : ((first : Int) + (2 * (root : Int) + 1) + 1).toNat = jN1186 := by omega
          have pc1186 : (0 : Int) ≤ (first : Int) + (2 * (root : Int) + 1) + 1 := by omega
          have bc1186 : (first : Int) + (2 * (root : Int) + 1) + 1 < (d.size : Int) := by omega
          have rc1186 : IntKind.i64.wrap ((first : Int) + (2 * (root : Int) + 1) + 1) = (first : Int) + (2 * (root : Int) + 1) + 1 := by rw [IntKind.wrap_i64]; omega
          obtain ⟨x1186, hx1186⟩ : ∃ x, x = dk[first + (2 * root + 1)]! := ⟨_, rfl⟩
          obtain ⟨y1186, hy1186⟩ : ∃ x, x = dk[first + (2 * root + 2)]! := ⟨_, rfl⟩
          have l1186a := S1.out.cl R (by omega) (first + (2 * root + 1)) (by omega)
          have l1186b := S1.out.cl R (by omega) (first + (2 * root + 2)) (by omega)
          rw [← hx1186, ← hiN1186] at l1186a
          rw [← hy1186, ← hjN1186] at l1186b
          have hc1186 := cmpF S1.out HC.out (by omega) x1186 y1186
          have hv1186 : ¬ cf x1186 y1186 < 0 := by rw [hx1186, hy1186]; exact of_decide_eq_false hL
          have hd1186 : decide (cf x1186 y1186 < 0) = false := decide_eq_false hv1186
          clear hx1186 hy1186 hiN1186 hjN1186
          go_wp2_with fail
          go_quiet_grown (first | (go_at_fn g; refine Calls.grown_of (hc1186 _ _)))
          have S2 : Aside (SW enc w0 blk off dk (grow (wr.drewN nq) osq)) := S1.out.grown nq osq
          clear l1186a l1186b hc1186 S1
          generalize grow (wr.drewN nq) osq = w2 at S2 ⊢
          clear nq osq
          clear ea1186 ec1186
          go_wp2_with fail
          cases hG : ltOf cf dk[first + root]! dk[first + (2 * root + 1)]! with
          | true =>
            obtain ⟨iN1187, hiN1187⟩ : ∃ q, q = first + root := ⟨_, rfl⟩
            obtain ⟨jN1187, hjN1187⟩ : ∃ q, q = first + (2 * root + 1) := ⟨_, rfl⟩
            have ea1187 : ((first : Int) + (root : Int)).toNat = iN1187 := by omega
            have pa1187 : (0 : Int) ≤ (first : Int) + (root : Int) := by omega
            have ba1187 : (first : Int) + (root : Int) < (d.size : Int) := by omega
            have ra1187 : IntKind.i64.wrap ((first : Int) + (root : Int)) = (first : Int) + (root : Int) := by rw [IntKind.wrap_i64]; omega
            have ec1187 : ((first : Int) + (2 * (root : Int) + 1)).toNat = jN1187 := by omega
            have pc1187 : (0 : Int) ≤ (first : Int) + (2 * (root : Int) + 1) := by omega
            have bc1187 : (first : Int) + (2 * (root : Int) + 1) < (d.size : Int) := by omega
            have rc1187 : IntKind.i64.wrap ((first : Int) + (2 * (root : Int) + 1)) = (first : Int) + (2 * (root : Int) + 1) := by rw [IntKind.wrap_i64]; omega
            obtain ⟨x1187, hx1187⟩ : ∃ x, x = dk[first + root]! := ⟨_, rfl⟩
            obtain ⟨y1187, hy1187⟩ : ∃ x, x = dk[first + (2 * root + 1)]! := ⟨_, rfl⟩
            have l1187a := S2.out.cl R (by omega) (first + root) (by omega)
            have l1187b := S2.out.cl R (by omega) (first + (2 * root + 1)) (by omega)
            rw [← hx1187, ← hiN1187] at l1187a
            rw [← hy1187, ← hjN1187] at l1187b
            have hc1187 := cmpF S2.out HC.out (by omega) x1187 y1187
            have hv1187 : cf x1187 y1187 < 0 := by rw [hx1187, hy1187]; exact of_decide_eq_true hG
            have hd1187 : decide (cf x1187 y1187 < 0) = true := decide_eq_true hv1187
            clear hx1187 hy1187 hiN1187 hjN1187
            go_wp2_with fail
            go_quiet_grown (first | (go_at_fn g; refine Calls.grown_of (hc1187 _ _)))
            have S3 : Aside (SW enc w0 blk off dk (grow (w2.drewN nq) osq)) := S2.out.grown nq osq
            clear l1187a l1187b hc1187 S2
            generalize grow (w2.drewN nq) osq = w3 at S3 ⊢
            clear nq osq
            clear ea1187 ec1187
            obtain ⟨iN1188, hiN1188⟩ : ∃ q, q = first + root := ⟨_, rfl⟩
            obtain ⟨jN1188, hjN1188⟩ : ∃ q, q = first + (2 * root + 1) := ⟨_, rfl⟩
            have ea1188 : ((first : Int) + (root : Int)).toNat = iN1188 := by omega
            have pa1188 : (0 : Int) ≤ (first : Int) + (root : Int) := by omega
            have ba1188 : (first : Int) + (root : Int) < (d.size : Int) := by omega
            have ra1188 : IntKind.i64.wrap ((first : Int) + (root : Int)) = (first : Int) + (root : Int) := by rw [IntKind.wrap_i64]; omega
            have ec1188 : ((first : Int) + (2 * (root : Int) + 1)).toNat = jN1188 := by omega
            have pc1188 : (0 : Int) ≤ (first : Int) + (2 * (root : Int) + 1) := by omega
            have bc1188 : (first : Int) + (2 * (root : Int) + 1) < (d.size : Int) := by omega
            have rc1188 : IntKind.i64.wrap ((first : Int) + (2 * (root : Int) + 1)) = (first : Int) + (2 * (root : Int) + 1) := by rw [IntKind.wrap_i64]; omega
            obtain ⟨x1188, hx1188⟩ : ∃ x, x = dk[first + root]! := ⟨_, rfl⟩
            obtain ⟨y1188, hy1188⟩ : ∃ x, x = dk[first + (2 * root + 1)]! := ⟨_, rfl⟩
            have S4 : Aside (SW enc w0 blk off (swp dk (first + root) (first + (2 * root + 1))) ((w3.setCell ⟨blk, off + iN1188, none⟩ (enc y1188)).setCell ⟨blk, off + jN1188, none⟩ (enc x1188)).drew) := by rw [hiN1188, hjN1188, hx1188, hy1188]; exact S3.out.swapped R (first + root) (first + (2 * root + 1)) (by omega) (by omega)
            have c1188a := S3.out.c1 R (by omega) (first + root) (by omega)
            have c1188b := S3.out.c1 R (by omega) (first + (2 * root + 1)) (by omega)
            have f1188a := S3.out.f1 R (by omega) (first + root) (by omega)
            have f1188b := S3.out.f1 R (by omega) (first + (2 * root + 1)) (by omega)
            obtain ⟨u1188, c1188c⟩ := S3.out.c2 R (by omega) (first + root) (first + (2 * root + 1)) (by omega) (by omega) (enc y1188)
            rw [← hjN1188, ← hiN1188] at c1188c
            rw [← hx1188, ← hiN1188] at c1188a
            rw [← hy1188, ← hjN1188] at c1188b
            rw [← hiN1188] at f1188a
            rw [← hjN1188] at f1188b
            clear S3 hx1188 hy1188 hiN1188 hjN1188
            go_wp2_with fail
            go_big_region_o
            clear c1188a c1188b c1188c f1188a f1188b
            generalize ((w3.setCell ⟨blk, off + iN1188, none⟩ (enc y1188)).setCell ⟨blk, off + jN1188, none⟩ (enc x1188)).drew = w4 at S4 ⊢
            clear ea1188 ec1188
            go_wp2
            go_roundg (hi - (2 * root + 1))
            case measure => omega
            case rel => exact ⟨2 * root + 1, swp dk (first + root) (first + (2 * root + 1)), by go_num, by omega, Nat.le_refl _, by rw [size_swp]; exact hds, S4, (show Hid _ from by rw [← HE.out, sd_left_go (ltOf cf) dk (by omega) (fun _ => hL) hG]; exact rfl)⟩
          | false =>
            obtain ⟨iN1189, hiN1189⟩ : ∃ q, q = first + root := ⟨_, rfl⟩
            obtain ⟨jN1189, hjN1189⟩ : ∃ q, q = first + (2 * root + 1) := ⟨_, rfl⟩
            have ea1189 : ((first : Int) + (root : Int)).toNat = iN1189 := by omega
            have pa1189 : (0 : Int) ≤ (first : Int) + (root : Int) := by omega
            have ba1189 : (first : Int) + (root : Int) < (d.size : Int) := by omega
            have ra1189 : IntKind.i64.wrap ((first : Int) + (root : Int)) = (first : Int) + (root : Int) := by rw [IntKind.wrap_i64]; omega
            have ec1189 : ((first : Int) + (2 * (root : Int) + 1)).toNat = jN1189 := by omega
            have pc1189 : (0 : Int) ≤ (first : Int) + (2 * (root : Int) + 1) := by omega
            have bc1189 : (first : Int) + (2 * (root : Int) + 1) < (d.size : Int) := by omega
            have rc1189 : IntKind.i64.wrap ((first : Int) + (2 * (root : Int) + 1)) = (first : Int) + (2 * (root : Int) + 1) := by rw [IntKind.wrap_i64]; omega
            obtain ⟨x1189, hx1189⟩ : ∃ x, x = dk[first + root]! := ⟨_, rfl⟩
            obtain ⟨y1189, hy1189⟩ : ∃ x, x = dk[first + (2 * root + 1)]! := ⟨_, rfl⟩
            have l1189a := S2.out.cl R (by omega) (first + root) (by omega)
            have l1189b := S2.out.cl R (by omega) (first + (2 * root + 1)) (by omega)
            rw [← hx1189, ← hiN1189] at l1189a
            rw [← hy1189, ← hjN1189] at l1189b
            have hc1189 := cmpF S2.out HC.out (by omega) x1189 y1189
            have hv1189 : ¬ cf x1189 y1189 < 0 := by rw [hx1189, hy1189]; exact of_decide_eq_false hG
            have hd1189 : decide (cf x1189 y1189 < 0) = false := decide_eq_false hv1189
            clear hx1189 hy1189 hiN1189 hjN1189
            go_wp2_with fail
            go_quiet_grown (first | (go_at_fn g; refine Calls.grown_of (hc1189 _ _)))
            have S3 : Aside (SW enc w0 blk off dk (grow (w2.drewN nq) osq)) := S2.out.grown nq osq
            clear l1189a l1189b hc1189 S2
            generalize grow (w2.drewN nq) osq = w3 at S3 ⊢
            clear nq osq
            clear ea1189 ec1189
            go_wp2
            (try simp only [Exit.inBlock, Exit.then]); refine bodyPost_ret (results_none rfl _ _ _) rfl ?_
            refine ⟨rfl, ?_⟩
            rw [← HE.out, sd_left_stop (ltOf cf) dk (by omega) (fun _ => hL) hG]
            exact S3.out
      · -- no right child: the guard is false: 'cmp' is not called
        have h1z : ¬ (2 * (root : Int) + 1 + 1 < (hi : Int)) := by omega
        have h1d : decide (2 * (root : Int) + 1 + 1 < (hi : Int)) = false := decide_eq_false h1z
        go_wp2_with fail
        go_big_region_o
        have S2 : Aside (SW enc w0 blk off dk wr.drew) := S1.out.drew
        clear S1
        generalize wr.drew = w2 at S2 ⊢
        go_wp2_with fail
        cases hG : ltOf cf dk[first + root]! dk[first + (2 * root + 1)]! with
        | true =>
          obtain ⟨iN1190, hiN1190⟩ : ∃ q, q = first + root := ⟨_, rfl⟩
          obtain ⟨jN1190, hjN1190⟩ : ∃ q, q = first + (2 * root + 1) := ⟨_, rfl⟩
          have ea1190 : ((first : Int) + (root : Int)).toNat = iN1190 := by omega
          have pa1190 : (0 : Int) ≤ (first : Int) + (root : Int) := by omega
          have ba1190 : (first : Int) + (root : Int) < (d.size : Int) := by omega
          have ra1190 : IntKind.i64.wrap ((first : Int) + (root : Int)) = (first : Int) + (root : Int) := by rw [IntKind.wrap_i64]; omega
          have ec1190 : ((first : Int) + (2 * (root : Int) + 1)).toNat = jN1190 := by omega
          have pc1190 : (0 : Int) ≤ (first : Int) + (2 * (root : Int) + 1) := by omega
          have bc1190 : (first : Int) + (2 * (root : Int) + 1) < (d.size : Int) := by omega
          have rc1190 : IntKind.i64.wrap ((first : Int) + (2 * (root : Int) + 1)) = (first : Int) + (2 * (root : Int) + 1) := by rw [IntKind.wrap_i64]; omega
          obtain ⟨x1190, hx1190⟩ : ∃ x, x = dk[first + root]! := ⟨_, rfl⟩
          obtain ⟨y1190, hy1190⟩ : ∃ x, x = dk[first + (2 * root + 1)]! := ⟨_, rfl⟩
          have l1190a := S2.out.cl R (by omega) (first + root) (by omega)
          have l1190b := S2.out.cl R (by omega) (first + (2 * root + 1)) (by omega)
          rw [← hx1190, ← hiN1190] at l1190a
          rw [← hy1190, ← hjN1190] at l1190b
          have hc1190 := cmpF S2.out HC.out (by omega) x1190 y1190
          have hv1190 : cf x1190 y1190 < 0 := by rw [hx1190, hy1190]; exact of_decide_eq_true hG
          have hd1190 : decide (cf x1190 y1190 < 0) = true := decide_eq_true hv1190
          clear hx1190 hy1190 hiN1190 hjN1190
          go_wp2_with fail
          go_quiet_grown (first | (go_at_fn g; refine Calls.grown_of (hc1190 _ _)))
          have S3 : Aside (SW enc w0 blk off dk (grow (w2.drewN nq) osq)) := S2.out.grown nq osq
          clear l1190a l1190b hc1190 S2
          generalize grow (w2.drewN nq) osq = w3 at S3 ⊢
          clear nq osq
          clear ea1190 ec1190
          obtain ⟨iN1191, hiN1191⟩ : ∃ q, q = first + root := ⟨_, rfl⟩
          obtain ⟨jN1191, hjN1191⟩ : ∃ q, q = first + (2 * root + 1) := ⟨_, rfl⟩
          have ea1191 : ((first : Int) + (root : Int)).toNat = iN1191 := by omega
          have pa1191 : (0 : Int) ≤ (first : Int) + (root : Int) := by omega
          have ba1191 : (first : Int) + (root : Int) < (d.size : Int) := by omega
          have ra1191 : IntKind.i64.wrap ((first : Int) + (root : Int)) = (first : Int) + (root : Int) := by rw [IntKind.wrap_i64]; omega
          have ec1191 : ((first : Int) + (2 * (root : Int) + 1)).toNat = jN1191 := by omega
          have pc1191 : (0 : Int) ≤ (first : Int) + (2 * (root : Int) + 1) := by omega
          have bc1191 : (first : Int) + (2 * (root : Int) + 1) < (d.size : Int) := by omega
          have rc1191 : IntKind.i64.wrap ((first : Int) + (2 * (root : Int) + 1)) = (first : Int) + (2 * (root : Int) + 1) := by rw [IntKind.wrap_i64]; omega
          obtain ⟨x1191, hx1191⟩ : ∃ x, x = dk[first + root]! := ⟨_, rfl⟩
          obtain ⟨y1191, hy1191⟩ : ∃ x, x = dk[first + (2 * root + 1)]! := ⟨_, rfl⟩
          have S4 : Aside (SW enc w0 blk off (swp dk (first + root) (first + (2 * root + 1))) ((w3.setCell ⟨blk, off + iN1191, none⟩ (enc y1191)).setCell ⟨blk, off + jN1191, none⟩ (enc x1191)).drew) := by rw [hiN1191, hjN1191, hx1191, hy1191]; exact S3.out.swapped R (first + root) (first + (2 * root + 1)) (by omega) (by omega)
          have c1191a := S3.out.c1 R (by omega) (first + root) (by omega)
          have c1191b := S3.out.c1 R (by omega) (first + (2 * root + 1)) (by omega)
          have f1191a := S3.out.f1 R (by omega) (first + root) (by omega)
          have f1191b := S3.out.f1 R (by omega) (first + (2 * root + 1)) (by omega)
          obtain ⟨u1191, c1191c⟩ := S3.out.c2 R (by omega) (first + root) (first + (2 * root + 1)) (by omega) (by omega) (enc y1191)
          rw [← hjN1191, ← hiN1191] at c1191c
          rw [← hx1191, ← hiN1191] at c1191a
          rw [← hy1191, ← hjN1191] at c1191b
          rw [← hiN1191] at f1191a
          rw [← hjN1191] at f1191b
          clear S3 hx1191 hy1191 hiN1191 hjN1191
          go_wp2_with fail
          go_big_region_o
          clear c1191a c1191b c1191c f1191a f1191b
          generalize ((w3.setCell ⟨blk, off + iN1191, none⟩ (enc y1191)).setCell ⟨blk, off + jN1191, none⟩ (enc x1191)).drew = w4 at S4 ⊢
          clear ea1191 ec1191
          go_wp2
          go_roundg (hi - (2 * root + 1))
          case measure => omega
          case rel => exact ⟨2 * root + 1, swp dk (first + root) (first + (2 * root + 1)), by go_num, by omega, Nat.le_refl _, by rw [size_swp]; exact hds, S4, (show Hid _ from by rw [← HE.out, sd_left_go (ltOf cf) dk (by omega) (fun h => absurd h h1) hG]; exact rfl)⟩
        | false =>
          obtain ⟨iN1192, hiN1192⟩ : ∃ q, q = first + root := ⟨_, rfl⟩
          obtain ⟨jN1192, hjN1192⟩ : ∃ q, q = first + (2 * root + 1) := ⟨_, rfl⟩
          have ea1192 : ((first : Int) + (root : Int)).toNat = iN1192 := by omega
          have pa1192 : (0 : Int) ≤ (first : Int) + (root : Int) := by omega
          have ba1192 : (first : Int) + (root : Int) < (d.size : Int) := by omega
          have ra1192 : IntKind.i64.wrap ((first : Int) + (root : Int)) = (first : Int) + (root : Int) := by rw [IntKind.wrap_i64]; omega
          have ec1192 : ((first : Int) + (2 * (root : Int) + 1)).toNat = jN1192 := by omega
          have pc1192 : (0 : Int) ≤ (first : Int) + (2 * (root : Int) + 1) := by omega
          have bc1192 : (first : Int) + (2 * (root : Int) + 1) < (d.size : Int) := by omega
          have rc1192 : IntKind.i64.wrap ((first : Int) + (2 * (root : Int) + 1)) = (first : Int) + (2 * (root : Int) + 1) := by rw [IntKind.wrap_i64]; omega
          obtain ⟨x1192, hx1192⟩ : ∃ x, x = dk[first + root]! := ⟨_, rfl⟩
          obtain ⟨y1192, hy1192⟩ : ∃ x, x = dk[first + (2 * root + 1)]! := ⟨_, rfl⟩
          have l1192a := S2.out.cl R (by omega) (first + root) (by omega)
          have l1192b := S2.out.cl R (by omega) (first + (2 * root + 1)) (by omega)
          rw [← hx1192, ← hiN1192] at l1192a
          rw [← hy1192, ← hjN1192] at l1192b
          have hc1192 := cmpF S2.out HC.out (by omega) x1192 y1192
          have hv1192 : ¬ cf x1192 y1192 < 0 := by rw [hx1192, hy1192]; exact of_decide_eq_false hG
          have hd1192 : decide (cf x1192 y1192 < 0) = false := decide_eq_false hv1192
          clear hx1192 hy1192 hiN1192 hjN1192
          go_wp2_with fail
          go_quiet_grown (first | (go_at_fn g; refine Calls.grown_of (hc1192 _ _)))
          have S3 : Aside (SW enc w0 blk off dk (grow (w2.drewN nq) osq)) := S2.out.grown nq osq
          clear l1192a l1192b hc1192 S2
          generalize grow (w2.drewN nq) osq = w3 at S3 ⊢
          clear nq osq
          clear ea1192 ec1192
          go_wp2
          (try simp only [Exit.inBlock, Exit.then]); refine bodyPost_ret (results_none rfl _ _ _) rfl ?_
          refine ⟨rfl, ?_⟩
          rw [← HE.out, sd_left_stop (ltOf cf) dk (by omega) (fun h => absurd h h1) hG]
          exact S3.out
end
section
open Go.Shelf Go.RowKit Go.Lib Go.Sort
variable {P : Program} {ρ : Ren} {α : Type} [Inhabited α]

set_option maxHeartbeats 8000000 in
set_option maxRecDepth 1000000 in
theorem Any.heapSortCmpFunc (L : SlLaysF.n21 P ρ) (enc : α → Value) (cf : α → α → Int) (g : Nat) (fv : Value) (blk off cap a b : Nat) (d0 d : Array α) (w0 w : World)
    (eg : ∀ args w, (callFunc g args).run P w = .ok (.enter g args) w) (hcmp : CmpLays1 P g fv enc cf blk off d0.size w0) (R : Row1 enc w0 blk off d0) (hs : d0.size = d.size) (S : SW enc w0 blk off d w) (hab : a ≤ b) (hb : b ≤ d.size) (hsz : d.size < 4611686018427387904) :
    Calls P (ρ.f 21) #[.slice (some ⟨blk, off, none⟩) d.size cap, .int .i64 a, .int .i64 b, .func (.func g) #[fv] #[]] w fun e w' =>
      e = .returned (.tuple #[]) ∧ SW enc w0 blk off (heapSort (ltOf cf) d a b) w' := by
  have mixed := L.mixed; have t0 := L.t0; have a0 := L.a0; have z0 := L.z0; have v0 := L.v0; have t3 := L.t3; have a3 := L.a3; have z3 := L.z3; have v3 := L.v3; have t4 := L.t4; have a4 := L.a4; have z4 := L.z4; have v4 := L.v4; have t22 := L.t22; have a22 := L.a22; have z22 := L.z22; have v22 := L.v22; have t25 := L.t25; have a25 := L.a25; have z25 := L.z25; have v25 := L.v25
  have a24 := L.a24; have z24 := L.z24
  have u22 := run_underlying L.t22
  have hcl0 := R.hO.cells
  simp only [Value.cells] at hcl0
  have hst := R.hO.store P
  obtain ⟨_, _, FG⟩ := L.f21
  have HC : Aside _ := hcmp
  have S0 : Aside _ := S
  clear S
  have e46 : ∀ args w, (callFunc (ρ.f 46) args).run P w = .ok (.enter (ρ.f 46) args) w := L.f46.enters rfl
  have ecast : ((b - a : Nat) : Int) = (b : Int) - (a : Int) := by omega
  go_enter FG, SlBodyF.n21_ntmps ρ
  go_wp2
  go_loopg [11] ((b - a - 1) / 2 + 1) (fun kx s11 wr => s11 = .int .i64 ((kx : Int) - 1) ∧ kx ≤ (b - a - 1) / 2 + 1 ∧ ∃ (dk : Array α), dk.size = d.size ∧ Aside (SW enc w0 blk off dk wr) ∧
    Hid (heapBuild (ltOf cf) (b - a) a kx dk = heapBuild (ltOf cf) (b - a) a ((b - a - 1) / 2 + 1) d))
  case atStart => exact ⟨by rw [half_start hab], Nat.le_refl _, d, rfl, S0, rfl⟩
  case round =>
    clear S0
    obtain ⟨rfl, hkk, dk, hds, S1, HE⟩ := hrel
    cases gk with
    | zero =>
      -- THE HEAP IS BUILT; NOW THE GREATEST IS TAKEN OFF, TIME AND AGAIN
      have hB : dk = heapBuild (ltOf cf) (b - a) a ((b - a - 1) / 2 + 1) d := HE.out
      clear HE hkk
      go_wp2
      go_loopg [12] (b - a) (fun kx s12 wr2 => s12 = .int .i64 ((kx : Int) - 1) ∧ kx ≤ b - a ∧ ∃ (dj : Array α), dj.size = d.size ∧ Aside (SW enc w0 blk off dj wr2) ∧ Hid (heapPop (ltOf cf) a kx dj = heapPop (ltOf cf) a (b - a) dk))
      case atStart => exact ⟨by rw [ecast], Nat.le_refl _, dk, hds, S1, rfl⟩
      case round =>
        clear S1
        obtain ⟨rfl, hkk, dj, hdj, S1, HE2⟩ := hrel
        cases gk with
        | zero =>
          go_wp2
          go_end0
          have e : dj = heapSort (ltOf cf) d a b := by rw [heapSort, ← hB, ← HE2.out]; rfl
          rw [← e]
          exact ⟨rfl, S1.out⟩
        | succ kx =>
          -- 'data[first], data[first+i] = data[first+i], data[first]'; 'siftDownCmpFunc(data, lo, i, first, cmp)'
          have ekx : ((kx + 1 : Nat) : Int) - 1 = (kx : Int) := by omega
          go_wp2_with fail
          obtain ⟨iN1196, hiN1196⟩ : ∃ q, q = a := ⟨_, rfl⟩
          obtain ⟨jN1196, hjN1196⟩ : ∃ q, q = a + kx := ⟨_, rfl⟩
          have ea1196 : ((a : Int)).toNat = iN1196 := by omega
          have pa1196 : (0 : Int) ≤ (a : Int) := by omega
          have ba1196 : (a : Int) < (d.size : Int) := by omega
          have ra1196 : IntKind.i64.wrap ((a : Int)) = (a : Int) := by rw [IntKind.wrap_i64]; omega
          have ec1196 : ((a : Int) + (kx : Int)).toNat = jN1196 := by omega
          have pc1196 : (0 : Int) ≤ (a : Int) + (kx : Int) := by omega
          have bc1196 : (a : Int) + (kx : Int) < (d.size : Int) := by omega
          have rc1196 : IntKind.i64.wrap ((a : Int) + (kx : Int)) = (a : Int) + (kx : Int) := by rw [IntKind.wrap_i64]; omega
          obtain ⟨x1196, hx1196⟩ : ∃ x, x = dj[a]! := ⟨_, rfl⟩
          obtain ⟨y1196, hy1196⟩ : ∃ x, x = dj[a + kx]! := ⟨_, rfl⟩
          have S2 : Aside (SW enc w0 blk off (swp dj (a) (a + kx)) ((wr.setCell ⟨blk, off + iN1196, none⟩ (enc y1196)).setCell ⟨blk, off + jN1196, none⟩ (enc x1196)).drew) := by rw [hiN1196, hjN1196, hx1196, hy1196]; exact S1.out.swapped R (a) (a + kx) (by omega) (by omega)
          have c1196a := S1.out.c1 R (by omega) (a) (by omega)
          have c1196b := S1.out.c1 R (by omega) (a + kx) (by omega)
          have f1196a := S1.out.f1 R (by omega) (a) (by omega)
          have f1196b := S1.out.f1 R (by omega) (a + kx) (by omega)
          obtain ⟨u1196, c1196c⟩ := S1.out.c2 R (by omega) (a) (a + kx) (by omega) (by omega) (enc y1196)
          rw [← hjN1196, ← hiN1196] at c1196c
          rw [← hx1196, ← hiN1196] at c1196a
          rw [← hy1196, ← hjN1196] at c1196b
          rw [← hiN1196] at f1196a
          rw [← hjN1196] at f1196b
          clear S1 hx1196 hy1196 hiN1196 hjN1196
          go_wp2_with fail
          go_big_region_o
          clear c1196a c1196b c1196c f1196a f1196b
          generalize ((wr.setCell ⟨blk, off + iN1196, none⟩ (enc y1196)).setCell ⟨blk, off + jN1196, none⟩ (enc x1196)).drew = w2 at S2 ⊢
          clear ea1196 ec1196
          have hd2 : (swp dj a (a + kx)).size = d.size := by rw [size_swp]; exact hdj
          have hcall := Any.siftDownCmpFunc (P := P) (ρ := ρ) { L with } enc cf g fv blk off cap 0 kx a d0 (swp dj a (a + kx)) w0 w2 eg HC.out R (by omega) S2.out (Nat.zero_le _) (by omega) (by omega)
          rw [hd2] at hcall
          clear S2
          go_wp2_with (go_at_fn (ρ.f 46); refine hcall.mono ?_; rintro e w1 ⟨rfl, S3⟩)
          go_roundg kx
          case measure => omega
          case rel =>
            have hss : (siftDown (ltOf cf) kx a 0 (swp dj a (a + kx))).size = (swp dj a (a + kx)).size := size_siftDown (ltOf cf) _ _ _ _ _ (Nat.le_refl _)
            exact ⟨by simp, by omega, siftDown (ltOf cf) kx a 0 (swp dj a (a + kx)), by rw [hss, hd2], S3, HE2⟩
    | succ kx =>
      have hcall := Any.siftDownCmpFunc (P := P) (ρ := ρ) { L with } enc cf g fv blk off cap kx (b - a) a d0 dk w0 wr eg HC.out R (by omega) S1.out (by omega) (by omega) (by omega)
      rw [ecast, hds] at hcall
      clear S1
      go_wp2_with (go_at_fn (ρ.f 46); refine hcall.mono ?_; rintro e w1 ⟨rfl, S3⟩)
      go_roundg kx
      case measure => omega
      case rel =>
        have hss : (siftDown (ltOf cf) (b - a) a kx dk).size = dk.size := size_siftDown (ltOf cf) _ _ _ _ _ (Nat.le_refl _)
        exact ⟨by simp, by omega, siftDown (ltOf cf) (b - a) a kx dk, by rw [hss, hds], S3, HE⟩
end
end Go.Proofs.Ytdeiinfljfgmeaa
