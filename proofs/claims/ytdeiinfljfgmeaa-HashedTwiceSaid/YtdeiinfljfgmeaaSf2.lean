/-
  slices.SortFunc by a function value whose first arguments are bound: the walks of the shelf, turned. (Printed by mksortf.py.)
-/
import Derived.Test.YtdeiinfljfgmeaaSf1
import Derived.Shelf.SlSortCmp.Median1
import Derived.Shelf.SlSortCmp.Pivot1
import Derived.Shelf.SlSortCmp.ReverseRange1
import Derived.Shelf.SlSortCmp.BreakPatterns1
namespace Go.Proofs.Ytdeiinfljfgmeaa
open Go.Proofs
section
open Go.Shelf Go.RowKit Go.Lib Go.Sort
variable {P : Program} {ρ : Ren} {α : Type} [Inhabited α]

set_option maxHeartbeats 4000000 in
set_option maxRecDepth 1000000 in
theorem Any.order2CmpFunc (L : SlLaysF.n57 P ρ) (enc : α → Value) (cf : α → α → Int) (g : Nat) (fv : Value) (blk off cap a b c s : Nat) (d0 d : Array α) (w0 W : World)
    (eg : ∀ args w, (callFunc g args).run P w = .ok (.enter g args) w) (hcmp : CmpLays1 P g fv enc cf blk off d0.size w0) (R : Row1 enc w0 blk off d0) (hs : d0.size = d.size) (C : Cnt1 enc w0 blk off d c s W) (ha : a < d.size) (hb : b < d.size) (hsz : d.size < 4611686018427387904) (hss : s < 4611686018427387904) :
    Calls P (ρ.f 57) #[.slice (some ⟨blk, off, none⟩) d.size cap, .int .i64 a, .int .i64 b, .pointer (some ⟨c, 0, none⟩), .func (.func g) #[fv] #[]] W fun e w' =>
      e = .returned (.tuple #[.int .i64 (order2 (ltOf cf) d a b s).1, .int .i64 (order2 (ltOf cf) d a b s).2.1]) ∧ Cnt1 enc w0 blk off d c (order2 (ltOf cf) d a b s).2.2 w' := by
  have mixed := L.mixed; have t0 := L.t0; have a0 := L.a0; have z0 := L.z0; have v0 := L.v0; have t3 := L.t3; have a3 := L.a3; have z3 := L.z3; have v3 := L.v3; have t4 := L.t4; have a4 := L.a4; have z4 := L.z4; have v4 := L.v4; have t22 := L.t22; have a22 := L.a22; have z22 := L.z22; have v22 := L.v22; have t25 := L.t25; have a25 := L.a25; have z25 := L.z25; have v25 := L.v25; have t70 := L.t70; have a70 := L.a70; have z70 := L.z70; have v70 := L.v70
  have a24 := L.a24; have z24 := L.z24
  have u22 := run_underlying L.t22
  have hcl0 := R.hO.cells
  simp only [Value.cells] at hcl0
  have hst := R.hO.store P
  obtain ⟨_, _, FG⟩ := L.f57
  have HC : Aside _ := hcmp
  have C1 : Aside (Cnt1 enc w0 blk off d c s W) := C
  have S1 : Aside (SW enc w0 blk off d W) := C.1
  clear hcmp C
  go_enter FG, SlBodyF.n57_ntmps ρ
  cases hlv : ltOf cf d[b]! d[a]! with
  | true =>
    have e2 : order2 (ltOf cf) d a b s = (b, a, s + 1) := by simp [order2, hlv]
    obtain ⟨iN1197, hiN1197⟩ : ∃ q, q = b := ⟨_, rfl⟩
    obtain ⟨jN1197, hjN1197⟩ : ∃ q, q = a := ⟨_, rfl⟩
    have ea1197 : ((b : Int)).toNat = iN1197 := by omega
    have pa1197 : (0 : Int) ≤ (b : Int) := by omega
    have ba1197 : (b : Int) < (d.size : Int) := by omega
    have ra1197 : IntKind.i64.wrap ((b : Int)) = (b : Int) := by rw [IntKind.wrap_i64]; omega
    have ec1197 : ((a : Int)).toNat = jN1197 := by omega
    have pc1197 : (0 : Int) ≤ (a : Int) := by omega
    have bc1197 : (a : Int) < (d.size : Int) := by omega
    have rc1197 : IntKind.i64.wrap ((a : Int)) = (a : Int) := by rw [IntKind.wrap_i64]; omega
    obtain ⟨x1197, hx1197⟩ : ∃ x, x = d[b]! := ⟨_, rfl⟩
    obtain ⟨y1197, hy1197⟩ : ∃ x, x = d[a]! := ⟨_, rfl⟩
    have l1197a := S1.out.cl R (by omega) (b) (by omega)
    have l1197b := S1.out.cl R (by omega) (a) (by omega)
    rw [← hx1197, ← hiN1197] at l1197a
    rw [← hy1197, ← hjN1197] at l1197b
    have hc1197 := cmpF S1.out HC.out (by omega) x1197 y1197
    have hv1197 : cf x1197 y1197 < 0 := by rw [hx1197, hy1197]; exact of_decide_eq_true hlv
    have hd1197 : decide (cf x1197 y1197 < 0) = true := decide_eq_true hv1197
    clear hx1197 hy1197 hiN1197 hjN1197
    go_wp2_with fail
    go_quiet_grown (first | (go_at_fn g; refine Calls.grown_of (hc1197 _ _)))
    have C2 : Aside (Cnt1 enc w0 blk off d c s (grow (W.drewN nq) osq)) := C1.out.grown nq osq
    have S2 : Aside (SW enc w0 blk off d (grow (W.drewN nq) osq)) := S1.out.grown nq osq
    clear l1197a l1197b hc1197 S1
    generalize grow (W.drewN nq) osq = w2 at S2 C2 ⊢
    clear nq osq
    clear ea1197 ec1197
    obtain ⟨_, cc, cfz, _, _⟩ := C2.out
    go_wp2
    go_ret2
    rw [e2]
    exact ⟨rfl, by have := C2.out.bump (s + 1); simpa using this⟩
  | false =>
    have e2 : order2 (ltOf cf) d a b s = (a, b, s) := by simp [order2, hlv]
    obtain ⟨iN1198, hiN1198⟩ : ∃ q, q = b := ⟨_, rfl⟩
    obtain ⟨jN1198, hjN1198⟩ : ∃ q, q = a := ⟨_, rfl⟩
    have ea1198 : ((b : Int)).toNat = iN1198 := by omega
    have pa1198 : (0 : Int) ≤ (b : Int) := by omega
    have ba1198 : (b : Int) < (d.size : Int) := by omega
    have ra1198 : IntKind.i64.wrap ((b : Int)) = (b : Int) := by rw [IntKind.wrap_i64]; omega
    have ec1198 : ((a : Int)).toNat = jN1198 := by omega
    have pc1198 : (0 : Int) ≤ (a : Int) := by omega
    have bc1198 : (a : Int) < (d.size : Int) := by omega
    have rc1198 : IntKind.i64.wrap ((a : Int)) = (a : Int) := by rw [IntKind.wrap_i64]; omega
    obtain ⟨x1198, hx1198⟩ : ∃ x, x = d[b]! := ⟨_, rfl⟩
    obtain ⟨y1198, hy1198⟩ : ∃ x, x = d[a]! := ⟨_, rfl⟩
    have l1198a := S1.out.cl R (by omega) (b) (by omega)
    have l1198b := S1.out.cl R (by omega) (a) (by omega)
    rw [← hx1198, ← hiN1198] at l1198a
    rw [← hy1198, ← hjN1198] at l1198b
    have hc1198 := cmpF S1.out HC.out (by omega) x1198 y1198
    have hv1198 : ¬ cf x1198 y1198 < 0 := by rw [hx1198, hy1198]; exact of_decide_eq_false hlv
    have hd1198 : decide (cf x1198 y1198 < 0) = false := decide_eq_false hv1198
    clear hx1198 hy1198 hiN1198 hjN1198
    go_wp2_with fail
    go_quiet_grown (first | (go_at_fn g; refine Calls.grown_of (hc1198 _ _)))
    have C2 : Aside (Cnt1 enc w0 blk off d c s (grow (W.drewN nq) osq)) := C1.out.grown nq osq
    have S2 : Aside (SW enc w0 blk off d (grow (W.drewN nq) osq)) := S1.out.grown nq osq
    clear l1198a l1198b hc1198 S1
    generalize grow (W.drewN nq) osq = w2 at S2 C2 ⊢
    clear nq osq
    clear ea1198 ec1198
    obtain ⟨_, cc, cfz, _, _⟩ := C2.out
    go_wp2
    go_ret2
    rw [e2]
    exact ⟨rfl, C2.out⟩
set_option maxHeartbeats 2000000 in
set_option maxRecDepth 100000 in
theorem Any.medianCmpFunc (L : SlLaysF.n50 P ρ) (enc : α → Value) (cf : α → α → Int) (g : Nat) (fv : Value) (blk off cap a b c' c s : Nat) (d0 d : Array α) (w0 W : World)
    (eg : ∀ args w, (callFunc g args).run P w = .ok (.enter g args) w) (hcmp : CmpLays1 P g fv enc cf blk off d0.size w0) (R : Row1 enc w0 blk off d0) (hs : d0.size = d.size) (C : Cnt1 enc w0 blk off d c s W) (ha : a < d.size) (hb : b < d.size) (hc : c' < d.size) (hsz : d.size < 4611686018427387904) (hss : s + 3 < 4611686018427387904) :
    Calls P (ρ.f 50) #[.slice (some ⟨blk, off, none⟩) d.size cap, .int .i64 a, .int .i64 b, .int .i64 c', .pointer (some ⟨c, 0, none⟩), .func (.func g) #[fv] #[]] W fun e w' =>
      e = .returned (.int .i64 (median (ltOf cf) d a b c' s).1) ∧ Cnt1 enc w0 blk off d c (median (ltOf cf) d a b c' s).2 w' := by
  have mixed := L.mixed; have t0 := L.t0; have a0 := L.a0; have z0 := L.z0; have v0 := L.v0; have t3 := L.t3; have a3 := L.a3; have z3 := L.z3; have v3 := L.v3; have t4 := L.t4; have a4 := L.a4; have z4 := L.z4; have v4 := L.v4; have t22 := L.t22; have a22 := L.a22; have z22 := L.z22; have v22 := L.v22; have t25 := L.t25; have a25 := L.a25; have z25 := L.z25; have v25 := L.v25; have t70 := L.t70; have a70 := L.a70; have z70 := L.z70; have v70 := L.v70; have t77 := L.t77; have a77 := L.a77; have z77 := L.z77; have v77 := L.v77
  have a24 := L.a24; have z24 := L.z24
  have u22 := run_underlying L.t22
  have hcl0 := R.hO.cells
  simp only [Value.cells] at hcl0
  have hst := R.hO.store P
  obtain ⟨_, _, FG⟩ := L.f50
  have e57 : ∀ args w, (callFunc (ρ.f 57) args).run P w = .ok (.enter (ρ.f 57) args) w := L.f57.enters rfl
  have l1 := order2_lt' (ltOf cf) d s ha hb
  have s1 := order2_swaps' (ltOf cf) d a b s
  have l2 := order2_lt' (ltOf cf) d (order2 (ltOf cf) d a b s).2.2 l1.2 hc
  have s2 := order2_swaps' (ltOf cf) d (order2 (ltOf cf) d a b s).2.1 c' (order2 (ltOf cf) d a b s).2.2
  have step := fun (W' : World) (t a' b' : Nat) (C' : Cnt1 enc w0 blk off d c t W') (ha' : a' < d.size) (hb' : b' < d.size) (ht : t < 4611686018427387904) =>
    Any.order2CmpFunc (P := P) (ρ := ρ) { L with } enc cf g fv blk off cap a' b' c t d0 d w0 W' eg hcmp R hs C' ha' hb' hsz ht
  clear hcmp
  go_enter FG, SlBodyF.n50_ntmps ρ
  go_wp2_with (go_at_fn_of (ρ.f 57) (Value.int .i64 (b : Int)); refine (step _ _ _ _ C ha hb (by omega)).mono ?_; rintro e w1 ⟨rfl, C1⟩)
  go_wp2_with (go_at_fn_of (ρ.f 57) (Value.int .i64 (c' : Int)); refine (step _ _ _ _ C1 l1.2 hc (by omega)).mono ?_; rintro e w2 ⟨rfl, C2⟩)
  go_wp2_with (go_at_fn_of (ρ.f 57) (Value.int .i64 ((order2 (ltOf cf) d a b s).1 : Int)); refine (step _ _ _ _ C2 l1.1 l2.1 (by omega)).mono ?_; rintro e w3 ⟨rfl, C3⟩)
  go_ret
  exact ⟨rfl, C3⟩
set_option maxHeartbeats 2000000 in
set_option maxRecDepth 100000 in
theorem Any.medianAdjacentCmpFunc (L : SlLaysF.n49 P ρ) (enc : α → Value) (cf : α → α → Int) (g : Nat) (fv : Value) (blk off cap a c s : Nat) (d0 d : Array α) (w0 W : World)
    (eg : ∀ args w, (callFunc g args).run P w = .ok (.enter g args) w) (hcmp : CmpLays1 P g fv enc cf blk off d0.size w0) (R : Row1 enc w0 blk off d0) (hs : d0.size = d.size) (C : Cnt1 enc w0 blk off d c s W) (ha1 : 1 ≤ a) (ha2 : a + 1 < d.size) (hsz : d.size < 4611686018427387904) (hss : s + 3 < 4611686018427387904) :
    Calls P (ρ.f 49) #[.slice (some ⟨blk, off, none⟩) d.size cap, .int .i64 a, .pointer (some ⟨c, 0, none⟩), .func (.func g) #[fv] #[]] W fun e w' =>
      e = .returned (.int .i64 (medianAdjacent (ltOf cf) d a s).1) ∧ Cnt1 enc w0 blk off d c (medianAdjacent (ltOf cf) d a s).2 w' := by
  have mixed := L.mixed; have t0 := L.t0; have a0 := L.a0; have z0 := L.z0; have v0 := L.v0; have t3 := L.t3; have a3 := L.a3; have z3 := L.z3; have v3 := L.v3; have t4 := L.t4; have a4 := L.a4; have z4 := L.z4; have v4 := L.v4; have t22 := L.t22; have a22 := L.a22; have z22 := L.z22; have v22 := L.v22; have t25 := L.t25; have a25 := L.a25; have z25 := L.z25; have v25 := L.v25; have t70 := L.t70; have a70 := L.a70; have z70 := L.z70; have v70 := L.v70; have t77 := L.t77; have a77 := L.a77; have z77 := L.z77; have v77 := L.v77
  have a24 := L.a24; have z24 := L.z24
  have u22 := run_underlying L.t22
  have hcl0 := R.hO.cells
  simp only [Value.cells] at hcl0
  have hst := R.hO.store P
  obtain ⟨_, _, FG⟩ := L.f49
  have e50 : ∀ args w, (callFunc (ρ.f 50) args).run P w = .ok (.enter (ρ.f 50) args) w := L.f50.enters rfl
  have hm := Any.medianCmpFunc (P := P) (ρ := ρ) { L with } enc cf g fv blk off cap (a - 1) a (a + 1) c s d0 d w0 W eg hcmp R hs C (by omega) (by omega) ha2 hsz hss
  rw [show ((a - 1 : Nat) : Int) = (a : Int) - 1 by omega, show ((a + 1 : Nat) : Int) = (a : Int) + 1 by omega] at hm
  clear hcmp
  go_enter FG, SlBodyF.n49_ntmps ρ
  go_wp2_with (go_at_fn (ρ.f 50); refine hm.mono ?_; rintro e w1 ⟨rfl, C1⟩)
  go_ret
  exact ⟨rfl, C1⟩
end
section
open Go.Shelf Go.RowKit Go.Lib Go.Sort
variable {P : Program} {ρ : Ren} {α : Type} [Inhabited α]

set_option maxHeartbeats 4000000 in
set_option maxRecDepth 100000 in
theorem Any.choosePivotCmpFunc (L : SlLaysF.n23 P ρ) (enc : α → Value) (cf : α → α → Int) (g : Nat) (fv : Value) (blk off cap a b : Nat) (d0 d : Array α) (w0 W : World)
    (eg : ∀ args w, (callFunc g args).run P w = .ok (.enter g args) w) (hcmp : CmpLays1 P g fv enc cf blk off d0.size w0) (R : Row1 enc w0 blk off d0) (hs : d0.size = d.size) (S : SW enc w0 blk off d W) (hab : a < b) (hb : b ≤ d.size) (hsz : d.size < 4611686018427387904) :
    Calls P (ρ.f 23) #[.slice (some ⟨blk, off, none⟩) d.size cap, .int .i64 a, .int .i64 b, .func (.func g) #[fv] #[]] W fun e w' =>
      e = .returned (.tuple #[.int .i64 (choosePivot (ltOf cf) d a b).1, .int .i64 (hintCode (choosePivot (ltOf cf) d a b).2)]) ∧ SW enc w0 blk off d w' := by
  have MA := fun (W' : World) (x s : Nat) (C' : Cnt1 enc w0 blk off d W.heap.size s W') (h1 : 1 ≤ x) (h2 : x + 1 < d.size) (h3 : s + 3 < 4611686018427387904) =>
    Any.medianAdjacentCmpFunc (P := P) (ρ := ρ) { L with } enc cf g fv blk off cap x W.heap.size s d0 d w0 W' eg hcmp R hs C' h1 h2 hsz h3
  have MD := fun (W' : World) (x y z s : Nat) (C' : Cnt1 enc w0 blk off d W.heap.size s W') (hx : x < d.size) (hy : y < d.size) (hz : z < d.size) (h3 : s + 3 < 4611686018427387904) =>
    Any.medianCmpFunc (P := P) (ρ := ρ) { L with } enc cf g fv blk off cap x y z W.heap.size s d0 d w0 W' eg hcmp R hs C' hx hy hz hsz h3
  have C0 : Cnt1 enc w0 blk off d W.heap.size 0 (W.alloc (.cells #[.int .i64 0] (ρ.t 3))) := Cnt1.start S (ρ.t 3)
  clear hcmp S
  have mixed := L.mixed; have t0 := L.t0; have a0 := L.a0; have z0 := L.z0; have v0 := L.v0; have t3 := L.t3; have a3 := L.a3; have z3 := L.z3; have v3 := L.v3; have t4 := L.t4; have a4 := L.a4; have z4 := L.z4; have v4 := L.v4; have t22 := L.t22; have a22 := L.a22; have z22 := L.z22; have v22 := L.v22; have t25 := L.t25; have a25 := L.a25; have z25 := L.z25; have v25 := L.v25; have t45 := L.t45; have a45 := L.a45; have z45 := L.z45; have v45 := L.v45; have t70 := L.t70; have a70 := L.a70; have z70 := L.z70; have v70 := L.v70; have t77 := L.t77; have a77 := L.a77; have z77 := L.z77; have v77 := L.v77
  have a24 := L.a24; have z24 := L.z24
  have u22 := run_underlying L.t22
  have hcl0 := R.hO.cells
  simp only [Value.cells] at hcl0
  have hst := R.hO.store P
  obtain ⟨_, _, FG⟩ := L.f23
  have e49 : ∀ args w, (callFunc (ρ.f 49) args).run P w = .ok (.enter (ρ.f 49) args) w := L.f49.enters rfl
  have e50 : ∀ args w, (callFunc (ρ.f 50) args).run P w = .ok (.enter (ρ.f 50) args) w := L.f50.enters rfl
  rw [choosePivot_eq]
  obtain ⟨I, hI⟩ : ∃ I : Nat, I = a + (b - a) / 4 * 1 := ⟨_, rfl⟩
  obtain ⟨J, hJ⟩ : ∃ J : Nat, J = a + (b - a) / 4 * 2 := ⟨_, rfl⟩
  obtain ⟨K, hK⟩ : ∃ K : Nat, K = a + (b - a) / 4 * 3 := ⟨_, rfl⟩
  have eI : ((a : Int) + ((b : Int) - (a : Int)) / 4) = (I : Int) := by omega
  have eJ : ((a : Int) + ((b : Int) - (a : Int)) / 4 * 2) = (J : Int) := by omega
  have eK : ((a : Int) + ((b : Int) - (a : Int)) / 4 * 3) = (K : Int) := by omega
  by_cases h8 : b - a ≥ 8
  · by_cases h50 : b - a ≥ 50
    · -- THE NINTHER
      obtain ⟨i1, s1, h1⟩ : ∃ i1 s1, medianAdjacent (ltOf cf) d I 0 = (i1, s1) := ⟨_, _, rfl⟩
      obtain ⟨j1, s2, h2⟩ : ∃ j1 s2, medianAdjacent (ltOf cf) d J s1 = (j1, s2) := ⟨_, _, rfl⟩
      obtain ⟨k1, s3, h3⟩ : ∃ k1 s3, medianAdjacent (ltOf cf) d K s2 = (k1, s3) := ⟨_, _, rfl⟩
      obtain ⟨p, s, h4⟩ : ∃ p s, median (ltOf cf) d i1 j1 k1 s3 = (p, s) := ⟨_, _, rfl⟩
      have hraw : rawPivot (ltOf cf) d a b = (p, s) := by simp only [rawPivot, if_pos h8, if_pos h50, ← hI, ← hJ, ← hK, h1, h2, h3, h4]
      have m1 := medianAdjacent_mem (ltOf cf) d I 0; rw [h1] at m1
      have m2 := medianAdjacent_mem (ltOf cf) d J s1; rw [h2] at m2
      have m3 := medianAdjacent_mem (ltOf cf) d K s2; rw [h3] at m3
      have n1 := medianAdjacent_count (ltOf cf) d I 0; rw [h1] at n1
      have n2 := medianAdjacent_count (ltOf cf) d J s1; rw [h2] at n2
      have n3 := medianAdjacent_count (ltOf cf) d K s2; rw [h3] at n3
      simp only [] at m1 m2 m3 n1 n2 n3
      have c1 : Calls P (ρ.f 49) #[.slice (some ⟨blk, off, none⟩) d.size cap, .int .i64 (I : Int), .pointer (some ⟨W.heap.size, 0, none⟩), .func (.func g) #[fv] #[]] (W.alloc (.cells #[.int .i64 0] (ρ.t 3))) fun e w' => e = .returned (.int .i64 (i1 : Int)) ∧ Cnt1 enc w0 blk off d W.heap.size s1 w' := by
        have h := MA _ I 0 C0 (by omega) (by omega) (by omega); rw [h1] at h; exact h
      have c2 : ∀ W', Cnt1 enc w0 blk off d W.heap.size s1 W' → Calls P (ρ.f 49) #[.slice (some ⟨blk, off, none⟩) d.size cap, .int .i64 (J : Int), .pointer (some ⟨W.heap.size, 0, none⟩), .func (.func g) #[fv] #[]] W' fun e w' => e = .returned (.int .i64 (j1 : Int)) ∧ Cnt1 enc w0 blk off d W.heap.size s2 w' := fun W' C' => by
        have h := MA W' J s1 C' (by omega) (by omega) (by omega); rw [h2] at h; exact h
      have c3 : ∀ W', Cnt1 enc w0 blk off d W.heap.size s2 W' → Calls P (ρ.f 49) #[.slice (some ⟨blk, off, none⟩) d.size cap, .int .i64 (K : Int), .pointer (some ⟨W.heap.size, 0, none⟩), .func (.func g) #[fv] #[]] W' fun e w' => e = .returned (.int .i64 (k1 : Int)) ∧ Cnt1 enc w0 blk off d W.heap.size s3 w' := fun W' C' => by
        have h := MA W' K s2 C' (by omega) (by omega) (by omega); rw [h3] at h; exact h
      have c4 : ∀ W', Cnt1 enc w0 blk off d W.heap.size s3 W' → Calls P (ρ.f 50) #[.slice (some ⟨blk, off, none⟩) d.size cap, .int .i64 (i1 : Int), .int .i64 (j1 : Int), .int .i64 (k1 : Int), .pointer (some ⟨W.heap.size, 0, none⟩), .func (.func g) #[fv] #[]] W' fun e w' => e = .returned (.int .i64 (p : Int)) ∧ Cnt1 enc w0 blk off d W.heap.size s w' := fun W' C' => by
        have h := MD W' i1 j1 k1 s3 C' (by omega) (by omega) (by omega) (by omega); rw [h4] at h; exact h
      rw [hraw]
      obtain ⟨Hc, hHc⟩ : ∃ Hc : Int, Hc = hintCode (hintOf s) := ⟨_, rfl⟩
      have hh0 : s = 0 → Hc = 1 := fun h => by rw [hHc, h]; rfl
      have hh12 : s = 12 → Hc = 2 := fun h => by rw [hHc, h]; rfl
      have hhx : s ≠ 0 → s ≠ 12 → Hc = 0 := fun h1 h2 => by rw [hHc]; unfold hintOf; rw [if_neg h1, if_neg h2]; rfl
      show Calls P (ρ.f 23) _ W fun e w' => e = .returned (.tuple #[.int .i64 (p : Int), .int .i64 (hintCode (hintOf s))]) ∧ SW enc w0 blk off d w'
      rw [← hHc]
      clear hHc hraw
      clear h1 h2 h3 h4 MA MD hI hJ hK m1 m2 m3 C0
      go_enter FG, SlBodyF.n23_ntmps ρ
      go_wp2_with (go_at_fn_of (ρ.f 49) (Value.int .i64 (I : Int)); refine c1.mono ?_; rintro e w1 ⟨rfl, C1⟩)
      go_wp2_with (go_at_fn_of (ρ.f 49) (Value.int .i64 (J : Int)); refine (c2 _ C1).mono ?_; rintro e w2 ⟨rfl, C2⟩)
      go_wp2_with (go_at_fn_of (ρ.f 49) (Value.int .i64 (K : Int)); refine (c3 _ C2).mono ?_; rintro e w3 ⟨rfl, C3⟩)
      go_wp2_with (go_at_fn (ρ.f 50); refine (c4 _ C3).mono ?_; rintro e w4 ⟨rfl, S4, cc, cfz, _, _⟩)
      all_goals
        go_ret2
        refine ⟨?_, S4⟩
        first
          | (have e0 : (s : Int) = 0 := of_beq_int (by assumption)
             rw [hh0 (by omega)]; rfl)
          | (have e1 : (s : Int) = 12 := of_beq_int (by assumption)
             rw [hh12 (by omega)]; rfl)
          | (have e0 : (s : Int) ≠ 0 := of_bne_int (by assumption)
             have e1 : (s : Int) ≠ 12 := of_bne_int (by assumption)
             rw [hhx (by omega) (by omega)]; rfl)
          | (rw [hh0 (by omega)]; rfl)
    · -- THE MEDIAN OF THREE
      obtain ⟨p, s, h4⟩ : ∃ p s, median (ltOf cf) d I J K 0 = (p, s) := ⟨_, _, rfl⟩
      have hraw : rawPivot (ltOf cf) d a b = (p, s) := by simp only [rawPivot, if_pos h8, if_neg h50, ← hI, ← hJ, ← hK, h4]
      have c4 : Calls P (ρ.f 50) #[.slice (some ⟨blk, off, none⟩) d.size cap, .int .i64 (I : Int), .int .i64 (J : Int), .int .i64 (K : Int), .pointer (some ⟨W.heap.size, 0, none⟩), .func (.func g) #[fv] #[]] (W.alloc (.cells #[.int .i64 0] (ρ.t 3))) fun e w' => e = .returned (.int .i64 (p : Int)) ∧ Cnt1 enc w0 blk off d W.heap.size s w' := by
        have h := MD _ I J K 0 C0 (by omega) (by omega) (by omega) (by omega); rw [h4] at h; exact h
      rw [hraw]
      obtain ⟨Hc, hHc⟩ : ∃ Hc : Int, Hc = hintCode (hintOf s) := ⟨_, rfl⟩
      have hh0 : s = 0 → Hc = 1 := fun h => by rw [hHc, h]; rfl
      have hh12 : s = 12 → Hc = 2 := fun h => by rw [hHc, h]; rfl
      have hhx : s ≠ 0 → s ≠ 12 → Hc = 0 := fun h1 h2 => by rw [hHc]; unfold hintOf; rw [if_neg h1, if_neg h2]; rfl
      show Calls P (ρ.f 23) _ W fun e w' => e = .returned (.tuple #[.int .i64 (p : Int), .int .i64 (hintCode (hintOf s))]) ∧ SW enc w0 blk off d w'
      rw [← hHc]
      clear hHc hraw
      clear h4 MA MD hI hJ hK C0
      go_enter FG, SlBodyF.n23_ntmps ρ
      go_wp2_with (go_at_fn (ρ.f 50); refine c4.mono ?_; rintro e w4 ⟨rfl, S4, cc, cfz, _, _⟩)
      all_goals
        go_ret2
        refine ⟨?_, S4⟩
        first
          | (have e0 : (s : Int) = 0 := of_beq_int (by assumption)
             rw [hh0 (by omega)]; rfl)
          | (have e1 : (s : Int) = 12 := of_beq_int (by assumption)
             rw [hh12 (by omega)]; rfl)
          | (have e0 : (s : Int) ≠ 0 := of_bne_int (by assumption)
             have e1 : (s : Int) ≠ 12 := of_bne_int (by assumption)
             rw [hhx (by omega) (by omega)]; rfl)
          | (rw [hh0 (by omega)]; rfl)
  · -- FEWER THAN EIGHT: the middle; nothing is counted
    obtain ⟨p, hp⟩ : ∃ p : Nat, p = J := ⟨_, rfl⟩
    obtain ⟨s, hs0⟩ : ∃ s : Nat, s = 0 := ⟨_, rfl⟩
    have hraw : rawPivot (ltOf cf) d a b = (p, s) := by simp only [rawPivot, if_neg h8, ← hJ, hp, hs0]
    rw [hraw]
    obtain ⟨Hc, hHc⟩ : ∃ Hc : Int, Hc = hintCode (hintOf s) := ⟨_, rfl⟩
    have hh0 : s = 0 → Hc = 1 := fun h => by rw [hHc, h]; rfl
    have hh12 : s = 12 → Hc = 2 := fun h => by rw [hHc, h]; rfl
    have hhx : s ≠ 0 → s ≠ 12 → Hc = 0 := fun h1 h2 => by rw [hHc]; unfold hintOf; rw [if_neg h1, if_neg h2]; rfl
    show Calls P (ρ.f 23) _ W fun e w' => e = .returned (.tuple #[.int .i64 (p : Int), .int .i64 (hintCode (hintOf s))]) ∧ SW enc w0 blk off d w'
    rw [← hHc]
    clear hHc hraw
    subst hp
    clear MA MD hI hJ hK
    have S4 := C0.1
    clear C0
    go_enter FG, SlBodyF.n23_ntmps ρ
    go_wp2
    all_goals
      go_ret2
      refine ⟨?_, S4⟩
      first
        | (have e0 : (s : Int) = 0 := of_beq_int (by assumption)
           rw [hh0 (by omega)]; rfl)
        | (have e1 : (s : Int) = 12 := of_beq_int (by assumption)
           rw [hh12 (by omega)]; rfl)
        | (have e0 : (s : Int) ≠ 0 := of_bne_int (by assumption)
           have e1 : (s : Int) ≠ 12 := of_bne_int (by assumption)
           rw [hhx (by omega) (by omega)]; rfl)
        | (rw [hh0 (by omega)]; rfl)
end
section
open Go.Shelf Go.RowKit Go.Lib Go.Sort
variable {P : Program} {ρ : Ren} {α : Type} [Inhabited α]

set_option maxHeartbeats 4000000 in
set_option maxRecDepth 1000000 in
theorem Any.reverseRangeCmpFunc (L : SlLaysF.n24 P ρ) (enc : α → Value) (g : Nat) (fv : Value) (blk off cap a b : Nat) (d0 d : Array α) (w0 w : World)
    (R : Row1 enc w0 blk off d0) (hs : d0.size = d.size) (S : SW enc w0 blk off d w) (hab : a ≤ b) (hb : b ≤ d.size) (hsz : d.size < 4611686018427387904) :
    Calls P (ρ.f 24) #[.slice (some ⟨blk, off, none⟩) d.size cap, .int .i64 a, .int .i64 b, .func (.func g) #[fv] #[]] w fun e w' => e = .returned (.tuple #[]) ∧ SW enc w0 blk off (reverseRange d a b) w' := by
  have mixed := L.mixed; have t0 := L.t0; have a0 := L.a0; have z0 := L.z0; have v0 := L.v0; have t3 := L.t3; have a3 := L.a3; have z3 := L.z3; have v3 := L.v3; have t4 := L.t4; have a4 := L.a4; have z4 := L.z4; have v4 := L.v4; have t22 := L.t22; have a22 := L.a22; have z22 := L.z22; have v22 := L.v22; have t25 := L.t25; have a25 := L.a25; have z25 := L.z25; have v25 := L.v25
  have a24 := L.a24; have z24 := L.z24
  have u22 := run_underlying L.t22
  have hcl0 := R.hO.cells
  simp only [Value.cells] at hcl0
  have hst := R.hO.store P
  obtain ⟨_, _, FG⟩ := L.f24
  have S0 : Aside (SW enc w0 blk off d w) := S
  clear S
  go_enter FG, SlBodyF.n24_ntmps ρ
  go_wp2
  go_loopg [8, 9] (b - a) (fun kx s8 s9 wr => ∃ (i jn : Nat) (jz : Int) (dk : Array α), s8 = .int .i64 i ∧ s9 = .int .i64 jz ∧ ((i : Int) < jz → jz = jn ∧ jn < d.size) ∧ (¬ (i : Int) < jz → ¬ i < jn) ∧ jn - i ≤ kx ∧
    dk.size = d.size ∧ Aside (SW enc w0 blk off dk wr) ∧ reverseLoop i jn dk = reverseLoop a (b - 1) d)
  case atStart => exact ⟨a, b - 1, (b : Int) - 1, d, rfl, rfl, fun h => ⟨by omega, by omega⟩, fun h => by omega, by omega, rfl, S0, rfl⟩
  case round =>
    clear S0
    obtain ⟨i, jn, jz, dk, rfl, rfl, h1, h2, hkx, hds, S1, heq⟩ := hrel
    by_cases hlt : (i : Int) < jz
    · obtain ⟨rfl, hjn⟩ := h1 hlt
      have hij : i < jn := by omega
      clear h1 h2
      go_wp2_with fail
      obtain ⟨iN1199, hiN1199⟩ : ∃ q, q = i := ⟨_, rfl⟩
      obtain ⟨jN1199, hjN1199⟩ : ∃ q, q = jn := ⟨_, rfl⟩
      have ea1199 : ((i : Int)).toNat = iN1199 := by omega
      have pa1199 : (0 : Int) ≤ (i : Int) := by omega
      have ba1199 : (i : Int) < (d.size : Int) := by omega
      have ra1199 : IntKind.i64.wrap ((i : Int)) = (i : Int) := by rw [IntKind.wrap_i64]; omega
      have ec1199 : ((jn : Int)).toNat = jN1199 := by omega
      have pc1199 : (0 : Int) ≤ (jn : Int) := by omega
      have bc1199 : (jn : Int) < (d.size : Int) := by omega
      have rc1199 : IntKind.i64.wrap ((jn : Int)) = (jn : Int) := by rw [IntKind.wrap_i64]; omega
      obtain ⟨x1199, hx1199⟩ : ∃ x, x = dk[i]! := ⟨_, rfl⟩
      obtain ⟨y1199, hy1199⟩ : ∃ x, x = dk[jn]! := ⟨_, rfl⟩
      have S2 : Aside (SW enc w0 blk off (swp dk (i) (jn)) ((wr.setCell ⟨blk, off + iN1199, none⟩ (enc y1199)).setCell ⟨blk, off + jN1199, none⟩ (enc x1199)).drew) := by rw [hiN1199, hjN1199, hx1199, hy1199]; exact S1.out.swapped R (i) (jn) (by omega) (by omega)
      have c1199a := S1.out.c1 R (by omega) (i) (by omega)
      have c1199b := S1.out.c1 R (by omega) (jn) (by omega)
      have f1199a := S1.out.f1 R (by omega) (i) (by omega)
      have f1199b := S1.out.f1 R (by omega) (jn) (by omega)
      obtain ⟨u1199, c1199c⟩ := S1.out.c2 R (by omega) (i) (jn) (by omega) (by omega) (enc y1199)
      rw [← hjN1199, ← hiN1199] at c1199c
      rw [← hx1199, ← hiN1199] at c1199a
      rw [← hy1199, ← hjN1199] at c1199b
      rw [← hiN1199] at f1199a
      rw [← hjN1199] at f1199b
      clear S1 hx1199 hy1199 hiN1199 hjN1199
      go_wp2_with fail
      go_big_region_o
      clear c1199a c1199b c1199c f1199a f1199b
      generalize ((wr.setCell ⟨blk, off + iN1199, none⟩ (enc y1199)).setCell ⟨blk, off + jN1199, none⟩ (enc x1199)).drew = w2 at S2 ⊢
      clear ea1199 ec1199
      go_wp2
      go_roundg (jn - 1 - (i + 1))
      case measure => omega
      case rel =>
        rw [reverseLoop, if_pos hij] at heq
        exact ⟨i + 1, jn - 1, (jn : Int) - 1, swp dk i jn, by simp, rfl, fun h => ⟨by omega, by omega⟩, fun h => by omega, Nat.le_refl _, by rw [size_swp]; exact hds, S2, heq⟩
    · have hnot := h2 hlt
      go_wp2
      go_end0
      refine ⟨rfl, ?_⟩
      rw [reverseLoop, if_neg hnot] at heq
      rw [reverseRange, ← heq]
      exact S1.out
end
section
open Go.Shelf Go.RowKit Go.Lib Go.Sort
variable {P : Program} {ρ : Ren} {α : Type} [Inhabited α]

set_option maxHeartbeats 8000000 in
set_option maxRecDepth 1000000 in
theorem Any.breakPatternsCmpFunc_go (L' : SlLaysF.n22 P ρ) (enc : α → Value) (g : Nat) (fv : Value) (blk off cap a L : Nat) (d0 d : Array α) (w0 w : World)
    (R : Row1 enc w0 blk off d0) (hs : d0.size = d.size) (S : SW enc w0 blk off d w) (hb : a + L ≤ d.size) (hsz : d.size < 4611686018427387904) (h8 : 8 ≤ L) :
    Calls P (ρ.f 22) #[.slice (some ⟨blk, off, none⟩) d.size cap, .int .i64 a, .int .i64 ((a + L : Nat) : Int), .func (.func g) #[fv] #[]] w fun e w' => e = .returned (.tuple #[]) ∧ SW enc w0 blk off (breakPatterns d a (a + L)) w' := by
  have mixed := L'.mixed; have t0 := L'.t0; have a0 := L'.a0; have z0 := L'.z0; have v0 := L'.v0; have t3 := L'.t3; have a3 := L'.a3; have z3 := L'.z3; have v3 := L'.v3; have t4 := L'.t4; have a4 := L'.a4; have z4 := L'.z4; have v4 := L'.v4; have t5 := L'.t5; have a5 := L'.a5; have z5 := L'.z5; have v5 := L'.v5; have t9 := L'.t9; have a9 := L'.a9; have z9 := L'.z9; have v9 := L'.v9; have t22 := L'.t22; have a22 := L'.a22; have z22 := L'.z22; have v22 := L'.v22; have t25 := L'.t25; have a25 := L'.a25; have z25 := L'.z25; have v25 := L'.v25; have t39 := L'.t39; have a39 := L'.a39; have z39 := L'.z39; have v39 := L'.v39; have t53 := L'.t53; have a53 := L'.a53; have z53 := L'.z53; have v53 := L'.v53; have t55 := L'.t55; have a55 := L'.a55; have z55 := L'.z55; have v55 := L'.v55; have t66 := L'.t66; have a66 := L'.a66; have z66 := L'.z66; have v66 := L'.v66; have t76 := L'.t76; have a76 := L'.a76; have z76 := L'.z76; have v76 := L'.v76
  have a24 := L'.a24; have z24 := L'.z24
  have u22 := run_underlying L'.t22
  have hcl0 := R.hO.cells
  simp only [Value.cells] at hcl0
  have hst := R.hO.store P
  obtain ⟨_, _, FG⟩ := L'.f22
  have e47 : ∀ args w, (callFunc (ρ.f 47) args).run P w = .ok (.enter (ρ.f 47) args) w := enters_of L'.f47 (by kernel_rfl) rfl
  have e48 : ∀ args w, (callFunc (ρ.f 48) args).run P w = .ok (.enter (ρ.f 48) args) w := enters_of L'.f48 (by kernel_rfl) rfl
  rw [breakPatterns_eq d a L h8]
  obtain ⟨M, hM⟩ : ∃ M : Nat, M = 1 <<< bitsLen L := ⟨_, rfl⟩
  have hM1 : 1 ≤ M := by rw [hM, Nat.one_shiftLeft]; exact Nat.two_pow_pos _
  have hM2 : M ≤ 2 * L := by rw [hM, Nat.one_shiftLeft]; exact two_pow_bitsLen_le (by omega)
  have hNP : ∀ w, Calls P (ρ.f 47) #[.int .i64 (L : Int)] w fun e w' => e = .returned (.int .u64 (M : Int)) ∧ w' = w := by rw [hM]; exact fun w => AnyF.nextPowerOfTwo { L' with } L (by omega) w
  rw [← hM]
  clear hM
  have hLz : ((a : Int) + (L : Int) - (a : Int)) = (L : Int) := by omega
  have h8z : (8 : Int) ≤ (L : Int) := by omega
  have hne : w.heap.size ≠ blk := by have := S.lt R.hblk; omega
  have hle0 : w0.heap.size ≤ w.heap.size := S.le
  have S0 : Aside (SW enc w0 blk off d w) := S
  clear S
  go_enter FG, SlBodyF.n22_ntmps ρ
  go_wp2_with (first | (go_at_fn (ρ.f 47); refine (hNP _).mono ?_; rintro e w' ⟨rfl, rfl⟩))
  go_loopg [11] 3 (fun g1 vi wr => ∃ (t : Nat) (r : UInt64) (dk : Array α), vi = .int .i64 ((a : Int) + (L : Int) / 4 * 2 - 1 + (t : Int)) ∧ t ≤ 3 ∧ 3 - t ≤ g1 ∧ dk.size = d.size ∧ Aside (SW enc w0 blk off dk wr) ∧
      wr.cell? ⟨w.heap.size, 0, none⟩ = some (.int .u64 (r.toNat : Int)) ∧ wr.frozen? ⟨w.heap.size, 0, none⟩ = false ∧
      Hid (bpRest a L M (a + L / 4 * 2 - 1) (3 - t) t (r, dk) = bpRest a L M (a + L / 4 * 2 - 1) 3 0 (UInt64.ofNat L, d)))
  case atStart =>
    refine ⟨0, UInt64.ofNat L, d, by simp, by omega, by omega, rfl, S0.out.alloc _, ?_, by simp, rfl⟩
    rw [show (UInt64.ofNat L).toNat = L from by simp; omega]
    simp
  case round =>
    clear S0
    obtain ⟨t, r, dk, rfl, ht, hg1, hds, S1, cR, fR, HR⟩ := hrel
    by_cases ht3 : t < 3
    · have hle : (a : Int) + (L : Int) / 4 * 2 - 1 + (t : Int) ≤ (a : Int) + (L : Int) / 4 * 2 + 1 := by omega
      obtain ⟨R0, hRr⟩ : ∃ R0 : Nat, R0 = r.toNat := ⟨_, rfl⟩
      have lR : R0 < 18446744073709551616 := by rw [hRr]; exact r.toNat_lt
      obtain ⟨R', hR'⟩ : ∃ R' : Nat, R' = xorNextN R0 := ⟨_, rfl⟩
      have lR' : R' < 18446744073709551616 := by rw [hR']; exact xorNextN_lt R0 lR
      obtain ⟨O, hO⟩ : ∃ O : Nat, O = R' &&& (M - 1) := ⟨_, rfl⟩
      have lO : O ≤ M - 1 := by rw [hO]; exact Nat.and_le_right
      have eAnd : bits .and .u64 (R' : Int) ((M : Int) - 1) = (O : Int) := by
        rw [show ((M : Int) - 1) = ((M - 1 : Nat) : Int) by omega, bits_and_u64_nat _ _ lR' (by omega), hO]
      rw [← hRr] at cR
      have hNext : Calls P (ρ.f 48) #[.pointer (some ⟨w.heap.size, 0, none⟩)] wr fun e w' => e = .returned (.int .u64 (R' : Int)) ∧ w' = (wr.setCell ⟨w.heap.size, 0, none⟩ (.int .u64 (R' : Int))).drewN 3 := by
        rw [hR']; exact AnyF.xorshift_Next { L' with } _ _ R0 lR wr cR fR
      have HN : Hid (R' = (xorNext r).toNat ∧ O = (xorNext r).toNat &&& (M - 1)) := by
        have e : R' = (xorNext r).toNat := by rw [hR', hRr, xorNext_toNat]
        exact ⟨e, by rw [hO, e]⟩
      clear hRr hR' hO
      have S2 : Aside (SW enc w0 blk off dk ((wr.setCell ⟨w.heap.size, 0, none⟩ (.int .u64 (R' : Int))).drewN 3)) := (S1.out.setCell_new w.heap.size 0 (.int .u64 (R' : Int)) hle0).drewN 3
      have cR' : ((wr.setCell ⟨w.heap.size, 0, none⟩ (.int .u64 (R' : Int))).drewN 3).cell? ⟨w.heap.size, 0, none⟩ = some (.int .u64 (R' : Int)) := by
        rw [World.cell?_drewN]; exact World.cell?_setCell_same _ _ _ cR
      have fR' : ((wr.setCell ⟨w.heap.size, 0, none⟩ (.int .u64 (R' : Int))).drewN 3).frozen? ⟨w.heap.size, 0, none⟩ = false := by
        rw [World.frozen?_drewN]; simpa using fR
      generalize (wr.setCell ⟨w.heap.size, 0, none⟩ (.int .u64 (R' : Int))).drewN 3 = w2 at hNext S2 cR' fR'
      clear cR fR S1
      by_cases hLO : L ≤ O
      · -- other >= length: other -= length
        have hLOz : (L : Int) ≤ (O : Int) := by omega
        go_wp2_with (go_at_fn (ρ.f 48); refine hNext.mono ?_; rintro e w' ⟨rfl, hw'⟩; obtain rfl : w2 = w' := hw'.symm)
        obtain ⟨iN1236, hiN1236⟩ : ∃ q, q = a + L / 4 * 2 - 1 + t := ⟨_, rfl⟩
        obtain ⟨jN1236, hjN1236⟩ : ∃ q, q = a + (O - L) := ⟨_, rfl⟩
        have ea1236 : ((a : Int) + (L : Int) / 4 * 2 - 1 + (t : Int)).toNat = iN1236 := by omega
        have pa1236 : (0 : Int) ≤ (a : Int) + (L : Int) / 4 * 2 - 1 + (t : Int) := by omega
        have ba1236 : (a : Int) + (L : Int) / 4 * 2 - 1 + (t : Int) < (d.size : Int) := by omega
        have ra1236 : IntKind.i64.wrap ((a : Int) + (L : Int) / 4 * 2 - 1 + (t : Int)) = (a : Int) + (L : Int) / 4 * 2 - 1 + (t : Int) := by rw [IntKind.wrap_i64]; omega
        have ec1236 : ((a : Int) + ((O : Int) - (L : Int))).toNat = jN1236 := by omega
        have pc1236 : (0 : Int) ≤ (a : Int) + ((O : Int) - (L : Int)) := by omega
        have bc1236 : (a : Int) + ((O : Int) - (L : Int)) < (d.size : Int) := by omega
        have rc1236 : IntKind.i64.wrap ((a : Int) + ((O : Int) - (L : Int))) = (a : Int) + ((O : Int) - (L : Int)) := by rw [IntKind.wrap_i64]; omega
        obtain ⟨x1236, hx1236⟩ : ∃ x, x = dk[a + L / 4 * 2 - 1 + t]! := ⟨_, rfl⟩
        obtain ⟨y1236, hy1236⟩ : ∃ x, x = dk[a + (O - L)]! := ⟨_, rfl⟩
        have S3 : Aside (SW enc w0 blk off (swp dk (a + L / 4 * 2 - 1 + t) (a + (O - L))) ((w2.setCell ⟨blk, off + iN1236, none⟩ (enc y1236)).setCell ⟨blk, off + jN1236, none⟩ (enc x1236)).drew) := by rw [hiN1236, hjN1236, hx1236, hy1236]; exact S2.out.swapped R (a + L / 4 * 2 - 1 + t) (a + (O - L)) (by omega) (by omega)
        have c1236a := S2.out.c1 R (by omega) (a + L / 4 * 2 - 1 + t) (by omega)
        have c1236b := S2.out.c1 R (by omega) (a + (O - L)) (by omega)
        have f1236a := S2.out.f1 R (by omega) (a + L / 4 * 2 - 1 + t) (by omega)
        have f1236b := S2.out.f1 R (by omega) (a + (O - L)) (by omega)
        obtain ⟨u1236, c1236c⟩ := S2.out.c2 R (by omega) (a + L / 4 * 2 - 1 + t) (a + (O - L)) (by omega) (by omega) (enc y1236)
        rw [← hjN1236, ← hiN1236] at c1236c
        rw [← hx1236, ← hiN1236] at c1236a
        rw [← hy1236, ← hjN1236] at c1236b
        rw [← hiN1236] at f1236a
        rw [← hjN1236] at f1236b
        clear S2 hx1236 hy1236 hiN1236 hjN1236
        go_wp2_with fail
        go_big_region_o
        clear c1236a c1236b c1236c f1236a f1236b
        have k1 := box_kept_swap1 (W := w2) (blk := blk) hne cR' fR' (off + iN1236) (off + jN1236) (enc y1236) (enc x1236)
        generalize ((w2.setCell ⟨blk, off + iN1236, none⟩ (enc y1236)).setCell ⟨blk, off + jN1236, none⟩ (enc x1236)).drew = w3 at S3 k1 ⊢
        clear ea1236 ec1236
        go_wp2
        go_roundg (3 - (t + 1))
        case measure => omega
        case rel => exact ⟨t + 1, xorNext r, swp dk (a + L / 4 * 2 - 1 + t) (a + (O - L)), by congr 1; push_cast; omega, by omega, Nat.le_refl _, by rw [size_swp]; exact hds, S3, by rw [← HN.out.1]; exact k1.1, k1.2,
          (show Hid _ from by rw [← HR.out, bp_step a L M _ t r dk (O - L) ht3 (by rw [← HN.out.2, if_pos (by omega)])]; exact rfl)⟩
      · have hLOz : ¬ (L : Int) ≤ (O : Int) := by omega
        go_wp2_with (go_at_fn (ρ.f 48); refine hNext.mono ?_; rintro e w' ⟨rfl, hw'⟩; obtain rfl : w2 = w' := hw'.symm)
        obtain ⟨iN1237, hiN1237⟩ : ∃ q, q = a + L / 4 * 2 - 1 + t := ⟨_, rfl⟩
        obtain ⟨jN1237, hjN1237⟩ : ∃ q, q = a + O := ⟨_, rfl⟩
        have ea1237 : ((a : Int) + (L : Int) / 4 * 2 - 1 + (t : Int)).toNat = iN1237 := by omega
        have pa1237 : (0 : Int) ≤ (a : Int) + (L : Int) / 4 * 2 - 1 + (t : Int) := by omega
        have ba1237 : (a : Int) + (L : Int) / 4 * 2 - 1 + (t : Int) < (d.size : Int) := by omega
        have ra1237 : IntKind.i64.wrap ((a : Int) + (L : Int) / 4 * 2 - 1 + (t : Int)) = (a : Int) + (L : Int) / 4 * 2 - 1 + (t : Int) := by rw [IntKind.wrap_i64]; omega
        have ec1237 : ((a : Int) + (O : Int)).toNat = jN1237 := by omega
        have pc1237 : (0 : Int) ≤ (a : Int) + (O : Int) := by omega
        have bc1237 : (a : Int) + (O : Int) < (d.size : Int) := by omega
        have rc1237 : IntKind.i64.wrap ((a : Int) + (O : Int)) = (a : Int) + (O : Int) := by rw [IntKind.wrap_i64]; omega
        obtain ⟨x1237, hx1237⟩ : ∃ x, x = dk[a + L / 4 * 2 - 1 + t]! := ⟨_, rfl⟩
        obtain ⟨y1237, hy1237⟩ : ∃ x, x = dk[a + O]! := ⟨_, rfl⟩
        have S3 : Aside (SW enc w0 blk off (swp dk (a + L / 4 * 2 - 1 + t) (a + O)) ((w2.setCell ⟨blk, off + iN1237, none⟩ (enc y1237)).setCell ⟨blk, off + jN1237, none⟩ (enc x1237)).drew) := by rw [hiN1237, hjN1237, hx1237, hy1237]; exact S2.out.swapped R (a + L / 4 * 2 - 1 + t) (a + O) (by omega) (by omega)
        have c1237a := S2.out.c1 R (by omega) (a + L / 4 * 2 - 1 + t) (by omega)
        have c1237b := S2.out.c1 R (by omega) (a + O) (by omega)
        have f1237a := S2.out.f1 R (by omega) (a + L / 4 * 2 - 1 + t) (by omega)
        have f1237b := S2.out.f1 R (by omega) (a + O) (by omega)
        obtain ⟨u1237, c1237c⟩ := S2.out.c2 R (by omega) (a + L / 4 * 2 - 1 + t) (a + O) (by omega) (by omega) (enc y1237)
        rw [← hjN1237, ← hiN1237] at c1237c
        rw [← hx1237, ← hiN1237] at c1237a
        rw [← hy1237, ← hjN1237] at c1237b
        rw [← hiN1237] at f1237a
        rw [← hjN1237] at f1237b
        clear S2 hx1237 hy1237 hiN1237 hjN1237
        go_wp2_with fail
        go_big_region_o
        clear c1237a c1237b c1237c f1237a f1237b
        have k1 := box_kept_swap1 (W := w2) (blk := blk) hne cR' fR' (off + iN1237) (off + jN1237) (enc y1237) (enc x1237)
        generalize ((w2.setCell ⟨blk, off + iN1237, none⟩ (enc y1237)).setCell ⟨blk, off + jN1237, none⟩ (enc x1237)).drew = w3 at S3 k1 ⊢
        clear ea1237 ec1237
        go_wp2
        go_roundg (3 - (t + 1))
        case measure => omega
        case rel => exact ⟨t + 1, xorNext r, swp dk (a + L / 4 * 2 - 1 + t) (a + O), by congr 1; push_cast; omega, by omega, Nat.le_refl _, by rw [size_swp]; exact hds, S3, by rw [← HN.out.1]; exact k1.1, k1.2,
          (show Hid _ from by rw [← HR.out, bp_step a L M _ t r dk O ht3 (by rw [← HN.out.2, if_neg (by omega)])]; exact rfl)⟩
    · -- three rounds are done
      obtain rfl : t = 3 := by omega
      have hle : ¬ ((a : Int) + (L : Int) / 4 * 2 - 1 + ((3 : Nat) : Int) ≤ (a : Int) + (L : Int) / 4 * 2 + 1) := by omega
      go_wp2
      go_end0
      refine ⟨rfl, ?_⟩
      rw [← HR.out]
      exact S1.out
set_option maxHeartbeats 2000000 in
theorem Any.breakPatternsCmpFunc (L' : SlLaysF.n22 P ρ) (enc : α → Value) (g : Nat) (fv : Value) (blk off cap a b : Nat) (d0 d : Array α) (w0 w : World)
    (R : Row1 enc w0 blk off d0) (hs : d0.size = d.size) (S : SW enc w0 blk off d w) (hab : a ≤ b) (hb : b ≤ d.size) (hsz : d.size < 4611686018427387904) :
    Calls P (ρ.f 22) #[.slice (some ⟨blk, off, none⟩) d.size cap, .int .i64 a, .int .i64 b, .func (.func g) #[fv] #[]] w fun e w' => e = .returned (.tuple #[]) ∧ SW enc w0 blk off (breakPatterns d a b) w' := by
  obtain ⟨L, rfl⟩ : ∃ L, b = a + L := ⟨b - a, by omega⟩
  by_cases h8 : 8 ≤ L
  · exact Any.breakPatternsCmpFunc_go L' enc g fv blk off cap a L d0 d w0 w R hs S hb hsz h8
  · have hv : breakPatterns d a (a + L) = d := by unfold breakPatterns; simp only [Nat.add_sub_cancel_left]; rw [if_neg h8]
    rw [hv]
    have mixed := L'.mixed; have t0 := L'.t0; have a0 := L'.a0; have z0 := L'.z0; have v0 := L'.v0; have t3 := L'.t3; have a3 := L'.a3; have z3 := L'.z3; have v3 := L'.v3; have t4 := L'.t4; have a4 := L'.a4; have z4 := L'.z4; have v4 := L'.v4; have t5 := L'.t5; have a5 := L'.a5; have z5 := L'.z5; have v5 := L'.v5; have t9 := L'.t9; have a9 := L'.a9; have z9 := L'.z9; have v9 := L'.v9; have t22 := L'.t22; have a22 := L'.a22; have z22 := L'.z22; have v22 := L'.v22; have t25 := L'.t25; have a25 := L'.a25; have z25 := L'.z25; have v25 := L'.v25; have t39 := L'.t39; have a39 := L'.a39; have z39 := L'.z39; have v39 := L'.v39; have t53 := L'.t53; have a53 := L'.a53; have z53 := L'.z53; have v53 := L'.v53; have t55 := L'.t55; have a55 := L'.a55; have z55 := L'.z55; have v55 := L'.v55; have t66 := L'.t66; have a66 := L'.a66; have z66 := L'.z66; have v66 := L'.v66; have t76 := L'.t76; have a76 := L'.a76; have z76 := L'.z76; have v76 := L'.v76
    have a24 := L'.a24; have z24 := L'.z24
    have u22 := run_underlying L'.t22
    have hcl0 := R.hO.cells
    simp only [Value.cells] at hcl0
    have hst := R.hO.store P
    obtain ⟨_, _, FG⟩ := L'.f22
    have hLz : ((a : Int) + (L : Int) - (a : Int)) = (L : Int) := by omega
    have h8z : ¬ (8 : Int) ≤ (L : Int) := by omega
    have S0 : Aside (SW enc w0 blk off d w) := S
    clear S
    go_enter FG, SlBodyF.n22_ntmps ρ
    go_wp2
    go_end0
    exact ⟨rfl, S0.out⟩
end
end Go.Proofs.Ytdeiinfljfgmeaa
