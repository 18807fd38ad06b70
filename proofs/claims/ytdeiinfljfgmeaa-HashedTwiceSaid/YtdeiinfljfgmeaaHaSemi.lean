/-
  hashed.Semi, walked.
-/
import Derived.Deep.RegionHeld3
import Derived.Deep.RegionLaw
import Derived.Deep.DeepCutAuto
import Derived.Test.YtdeiinfljfgmeaaHaJoin
namespace Go.Proofs.Ytdeiinfljfgmeaa
open Go.RowKit
set_option linter.unusedVariables false
set_option linter.unusedSimpArgs false

/-- Whether a row has a mate. -/
def mateB (P Q : List Int) (ls : List (List Int)) (x : List Int) : Bool := decide (0 < (grpL ls Q (keyL (cellsL x P))).length)
def semiL (A B : Rl) : Rl := ⟨A.vars, ofL (A.rows.filter (mateB (placesL A.vars (sharedL A B)) (placesL B.vars (sharedL A B)) B.rows))⟩
structure SemiR (A B : Rl) (base : Nat) (w' : World) (v1 v2 : Value) (no : Int) : Prop where
  wrong : (rightB A && rightB B) = false → no = 350 ∧ v1 = .slice none 0 0 ∧ v2 = .slice none 0 0
  ok : rightB A = true → rightB B = true → no = 0 ∧ OwnRl base w' v1 v2 (semiL A B)
set_option maxRecDepth 100000 in
set_option maxHeartbeats 2000000 in
theorem semi1_any {X Y b base : Nat} {w0 W : World} {pv rv : Value} {P Q r : List Int} {ls : List (List Int)} (hX : W.heap[X]? = some (.cells #[.map (some b)] 75 (0, 0))) (hY : W.heap[Y]? = some (.cells #[pv] 22 (0, 0))) (hp : SlI .i64 W pv P) (hm : HashB w0 base b ls Q W) (hr : SlI .u64 W rv r) (hPl : P.length ≤ 1048576) (hin : ∀ x ∈ P, 0 ≤ x ∧ x < r.length) (hll : ls.length ≤ 1048576) :
    Calls Try.prog 50 #[rv, .pointer (some ⟨X, 0, none⟩), .pointer (some ⟨Y, 0, none⟩)] W fun e w' => e = .returned (.bool (mateB P Q ls r)) ∧ Below W.heap.size W w' := by
  have cx : W.cell? ⟨X, 0, none⟩ = some (.map (some b)) := by simpa using box_cell (i := 0) hX
  have cy : W.cell? ⟨Y, 0, none⟩ = some pv := by simpa using box_cell (i := 0) hY
  have lX := lt_of_block hX
  have lY := lt_of_block hY
  have hck : ∀ z ∈ cellsL r P, (Lit.int .u64 z).wf = true := fun z hz => by
    obtain ⟨i, hi, rfl⟩ := List.mem_map.1 hz
    have hir := hin i hi
    have hil : i.toNat < r.length := by omega
    rw [getD_at hil]
    exact hr.2 _ (List.getElem_mem hil)
  have hcl : (cellsL r P).length ≤ 1048576 := by rw [cellsL, List.length_map]; exact hPl
  have hKl : (keyL (cellsL r P)).length ≤ maxLen := by
    rw [keyL_len]
    unfold maxLen
    omega
  have HC : Hid (∀ V, Below W.heap.size W V → Calls Try.prog 39 #[rv, pv] V fun e w' => ∃ v', e = .returned v' ∧ SlI .u64 w' v' (cellsL r P) ∧ Below V.heap.size V w') := Lib.hid (fun V hb => by
    refine (cells_any rv pv r P V (SlI.later hr hb) (SlI.later hp hb) hPl hin).mono ?_
    rintro e w' ⟨v', rfl, ho, hb'⟩
    exact ⟨v', rfl, SlI.of_owns ho hck, hb'⟩)
  have HK : Hid (∀ V v, SlI .u64 V v (cellsL r P) → Calls Try.prog 51 #[v] V fun e w' => e = .returned (.string ⟨(keyL (cellsL r P)).toArray⟩) ∧ Below V.heap.size V w') := Lib.hid (fun V v h => key_any v _ V h hcl)
  have HL : Hid (∀ V, Below W.heap.size W V → ∃ a c, (Instr.lookup 75 (.map (some b)) (.string ⟨(keyL (cellsL r P)).toArray⟩) false).run Try.prog V = .ok (.slice a (grpL ls Q (keyL (cellsL r P))).length c) V) := Lib.hid (fun V hb => by
    obtain ⟨v, vs, h1, h2⟩ := (hm.later hb).look _ hKl
    obtain ⟨a, c, rfl⟩ := owns_shape2 h2.own
    rw [h2.len] at h1
    exact ⟨a, c, h1⟩)
  have HG : Hid ((grpL ls Q (keyL (cellsL r P))).length ≤ ls.length) := Lib.hid (List.length_filter_le _ _)
  have hmb : mateB P Q ls r = decide (0 < (grpL ls Q (keyL (cellsL r P))).length) := rfl
  rw [hmb]
  obtain ⟨N, hN⟩ : ∃ N, (grpL ls Q (keyL (cellsL r P))).length = N := ⟨_, rfl⟩
  rw [hN] at HL HG ⊢
  obtain ⟨L, hL⟩ : ∃ L, keyL (cellsL r P) = L := ⟨_, rfl⟩
  rw [hL] at HL HK
  obtain ⟨ar, cr, rfl, -⟩ := hr.open
  obtain ⟨ap, cp, rfl, -⟩ := hp.open
  have HX := Lib.hid hX
  have HY := Lib.hid hY
  clear hX hY hp hm hr hin hck hKl hcl hmb hN hL hPl
  go_enter Try.func50, Try.ntmps50
  go_wp2_with fail
  go_region_law (first
    | (go_simp; refine (HK.out _ _ HCC.out.1).mono ?_; rintro e wK ⟨rfl, bK⟩; have HKK := Lib.hid (later_trans HCC.out.2 bK); have cxK : wK.cell? ⟨X, 0, none⟩ = some (.map (some b)) := (by simpa using box_cell (i := 0) (kept HKK.out HX.out)); obtain ⟨ag, cg, hlk⟩ := HL.out wK HKK.out; clear bK)
    | (go_simp; refine (HC.out _ (later_drew _)).mono ?_; rintro e wC ⟨vc, rfl, hC, bC⟩; have HCC := Lib.hid (And.intro hC (later_trans (later_drew _) bC)); have cxC : wC.cell? ⟨X, 0, none⟩ = some (.map (some b)) := (by simpa using box_cell (i := 0) (kept HCC.out.2 HX.out)); clear hC bC))
  all_goals (go_wp2_with fail)
  all_goals go_ret
  all_goals exact ⟨rfl, HKK.out⟩
set_option maxRecDepth 100000 in
set_option maxHeartbeats 4000000 in
theorem Semi_any (va ra vb rb : Value) (A B : Rl) (w : World) (hA : RlR w va ra A) (hB : RlR w vb rb B) :
    Calls Try.prog 22 #[relV va ra, relV vb rb] w fun e w' => Below w.heap.size w w' ∧ ∃ v1 v2 no, e = .returned (.tuple #[relV v1 v2, .int .i64 no]) ∧ SemiR A B w.heap.size w' v1 v2 no := by
  have hE : Enters 50 := enters_of Try.func50 (by kernel_rfl) rfl
  obtain ⟨W0, hW0⟩ : ∃ W, W = ((w.alloc (.cells #[va, ra] 25)).alloc (.cells #[vb, rb] 25)).alloc (.cells #[.slice none 0 0, .slice none 0 0] 25) := ⟨_, rfl⟩
  have s0 : W0.heap.size = w.heap.size + 1 + 1 + 1 := by rw [hW0]; simp
  have b0 : Below w.heap.size w W0 := by rw [hW0]; exact later_trans (later_trans (later_alloc _ _) (later_alloc _ _)) (later_alloc _ _)
  have bA : RB W0 w.heap.size va ra := by rw [hW0]; exact box_alloc (box_alloc (box_new _ _ _) _) _
  have bB : RB W0 (w.heap.size + 1) vb rb := by
    rw [hW0]
    have h := box_new (w.alloc (.cells #[va, ra] 25)) #[vb, rb] 25
    rw [World.size_alloc] at h
    exact box_alloc h _
  have bR : RB W0 (w.heap.size + 1 + 1) (.slice none 0 0) (.slice none 0 0) := by
    rw [hW0]
    have h := box_new ((w.alloc (.cells #[va, ra] 25)).alloc (.cells #[vb, rb] 25)) #[.slice none 0 0, .slice none 0 0] 25
    rw [World.size_alloc, World.size_alloc] at h
    exact h
  have HC1 := Lib.hid (check2_any va ra vb rb A B W0 (hA.later b0) (hB.later b0))
  obtain ⟨x0, x1, -⟩ := two_of2 bA
  obtain ⟨y0, y1, -⟩ := two_of2 bB
  obtain ⟨a1, c1, e1, -⟩ := hA.vars.open
  obtain ⟨a2, c2, e2, -⟩ := hA.rows.open
  obtain ⟨a3, c3, e3, -⟩ := hB.vars.open
  obtain ⟨a4, c4, e4, -⟩ := hB.rows.open
  subst e1 e2 e3 e4
  have H0 := Lib.hid (And.intro hA (And.intro hB (And.intro bA (And.intro bB (And.intro bR (And.intro b0 s0))))))
  obtain ⟨rab, hra⟩ : ∃ b, (rightB A && rightB B) = b := ⟨_, rfl⟩
  clear bA bB bR b0 s0 hA hB
  go_enter Try.func22, Try.ntmps22
  go_wp2_with fail
  rw [← hW0]
  clear hW0
  refine HC1.out.mono ?_
  rintro e W1 ⟨no, rfl, hno, b1⟩
  rw [hra] at hno
  have HRA := Lib.hid hra
  clear hra
  have HX1 := Lib.hid (And.intro (kept b1 H0.out.2.2.1) (And.intro (kept b1 H0.out.2.2.2.1) (And.intro (kept b1 H0.out.2.2.2.2.1) (later_trans H0.out.2.2.2.2.2.1 b1))))
  have s1 := b1.size
  clear x0 x1 y0 y1 b1
  cases rab with
  | false =>
    have hn' : no = 350 := by simpa using hno
    clear hno
    subst hn'
    obtain ⟨x0, x1, lX⟩ := two_of2 HX1.out.2.2.1
    have fX0 := box_frozen (i := 0) HX1.out.2.2.1
    have fX1 := box_frozen (i := 1) HX1.out.2.2.1
    have hb3 := box_set (i := 1) (box_set (i := 0) HX1.out.2.2.1 (.slice none 0 0)) (.slice none 0 0)
    have d0 := box_cell (i := 0) hb3
    have d1 := box_cell (i := 1) hb3
    simp at d0 d1
    have hB' := below_set (i := 1) (u := .slice none 0 0) (below_set (i := 0) (u := .slice none 0 0) HX1.out.2.2.2 (show w.heap.size ≤ w.heap.size + 1 + 1 by omega)) (show w.heap.size ≤ w.heap.size + 1 + 1 by omega)
    have HB' := Lib.hid hB'
    clear hB' hb3
    go_wp2_with fail
    refine bodyPost_ret (v := .tuple #[relV (.slice none 0 0) (.slice none 0 0), .int .i64 350]) (by simp [results, Try.results22, go_sem, d0, d1]) rfl ?_
    exact ⟨HB'.out, _, _, 350, rfl, ⟨fun _ => ⟨rfl, rfl, rfl⟩, fun h1 h2 => by have := HRA.out; rw [h1, h2] at this; cases this⟩⟩
  | true =>
    have hn' : no = 0 := by simpa using hno
    clear hno
    subst hn'
    have hrA : rightB A = true ∧ rightB B = true := by simpa using HRA.out
    obtain ⟨hwA, hvA, hlA⟩ := rightB_at hrA.1
    obtain ⟨hwB, hvB, hlB⟩ := rightB_at hrA.2
    obtain ⟨x0, x1, -⟩ := two_of2 HX1.out.1
    obtain ⟨y0, y1, -⟩ := two_of2 HX1.out.2.1
    have b1w := HX1.out.2.2.2
    have HCm := Lib.hid (common_any (.slice a1 A.vars.length c1) (.slice a2 A.rows.length c2) (.slice a3 B.vars.length c3) (.slice a4 B.rows.length c4) A B W1 (H0.out.1.later b1w) (H0.out.2.1.later b1w) (by omega) (by omega))
    have hSl : (sharedL A B).length ≤ 64 := Nat.le_trans (List.length_filter_le _ _) hvA
    have hPA : ∀ x ∈ placesL A.vars (sharedL A B), 0 ≤ x ∧ x < A.vars.length := placesL_in (hasL_sub fun x hx => (List.mem_filter.1 hx).1)
    have hPB : ∀ x ∈ placesL B.vars (sharedL A B), 0 ≤ x ∧ x < B.vars.length := placesL_in (hasL_sub fun x hx => of_decide_eq_true (List.mem_filter.1 hx).2)
    have hsl : semiL A B = ⟨A.vars, ofL (A.rows.filter (mateB (placesL A.vars (sharedL A B)) (placesL B.vars (sharedL A B)) B.rows))⟩ := rfl
    obtain ⟨P, hP⟩ : ∃ P, placesL A.vars (sharedL A B) = P := ⟨_, rfl⟩
    obtain ⟨Q, hQ⟩ : ∃ Q, placesL B.vars (sharedL A B) = Q := ⟨_, rfl⟩
    have hPs : P.length = (sharedL A B).length := by rw [← hP, placesL, List.length_map]
    have hQs : Q.length = (sharedL A B).length := by rw [← hQ, placesL, List.length_map]
    rw [hP, hQ] at hsl HCm
    rw [hP] at hPA
    rw [hQ] at hPB
    rw [← hPs] at HCm hSl
    have hwP : ∀ x ∈ P, (Lit.int .i64 x).wf = true := fun x hx => WalkArith.wf_i64 ⟨by have := (hPA x hx).1; omega, by have := (hPA x hx).2; omega⟩
    have hwQ : ∀ x ∈ Q, (Lit.int .i64 x).wf = true := fun x hx => WalkArith.wf_i64 ⟨by have := (hPB x hx).1; omega, by have := (hPB x hx).2; omega⟩
    have HR := Lib.hid (And.intro hrA (And.intro hwA (And.intro hvA (And.intro hlA (And.intro hwB (And.intro hvB (And.intro hlB (And.intro hPA (And.intro hPB (And.intro hwP (And.intro hwQ (And.intro hSl (And.intro (hQs.trans hPs.symm) hsl)))))))))))))
    clear hrA hwA hvA hlA hwB hvB hlB b1w hSl hPA hPB hwP hwQ hPs hQs hP hQ hsl
    go_wp2_with fail
    refine HCm.out.mono ?_
    rintro e W2 ⟨pv, qv, ov, rfl, op, oq, oo, b2⟩
    obtain ⟨ap, cp, rfl⟩ := owns_shape2 op
    obtain ⟨W3, hW3⟩ : ∃ W, W = W2.alloc (.cells #[.slice ap P.length cp] 22) := ⟨_, rfl⟩
    have b3 : Below W2.heap.size W2 W3 := by rw [hW3]; exact later_alloc _ _
    have hT7 : W3.heap[W2.heap.size]? = some (.cells #[.slice ap P.length cp] 22 (0, 0)) := by rw [hW3]; exact box_new _ _ _
    have bw3 := later_trans (later_trans HX1.out.2.2.2 b2) b3
    obtain ⟨x0', x1', lX⟩ := two_of2 (kept b2 HX1.out.1)
    obtain ⟨y0', y1', lY⟩ := two_of2 (kept b2 HX1.out.2.1)
    have hQl : Q.length ≤ 1048576 := by have := HR.out.2.2.2.2.2.2.2.2.2.2.2.1; have := HR.out.2.2.2.2.2.2.2.2.2.2.2.2.1; omega
    have oq' : W2.ownsRow W1.heap.size 3 1 qv Q.length (Q.map (.int .i64)) := by rw [HR.out.2.2.2.2.2.2.2.2.2.2.2.2.1]; exact oq
    have HHs := Lib.hid (hashed_any (.slice a4 B.rows.length c4) qv B.rows Q W3 (H0.out.2.1.rows) bw3 (SlI.of_owns (owns_later oq' b3) HR.out.2.2.2.2.2.2.2.2.2.2.1) hQl HR.out.2.2.2.2.2.2.1 (fun r hr x hx => by rw [HR.out.2.2.2.2.1 r hr]; exact HR.out.2.2.2.2.2.2.2.2.1 x hx))
    have H3 := Lib.hid (And.intro (owns_later op b3) (And.intro hT7 (And.intro bw3 (And.intro (kept b3 (kept b2 HX1.out.1)) (And.intro (kept b3 (kept b2 HX1.out.2.2.1)) b3)))))
    have s2 := b2.size
    clear x0 x1 y0 y1 op oq oo b2 b3 hT7 bw3 oq' hQl
    go_wp2_with fail
    rw [← hW3]
    clear hW3
    refine HHs.out.mono ?_
    rintro e W4 ⟨mb, rfl, hmb, hHash, b4⟩
    have x04 := two_of2 (kept b4 H3.out.2.2.2.1)
    obtain ⟨W5, hW5⟩ : ∃ W, W = W4.alloc (.cells #[.map (some mb)] 75) := ⟨_, rfl⟩
    have b5 : Below W4.heap.size W4 W5 := by rw [hW5]; exact later_alloc _ _
    have hTm : W5.heap[W4.heap.size]? = some (.cells #[.map (some mb)] 75 (0, 0)) := by rw [hW5]; exact box_new _ _ _
    have b35 := later_trans b4 b5
    have bw5 := later_trans H3.out.2.2.1 b35
    have hT75 := kept b35 H3.out.2.1
    have hHash5 := hHash.later b5
    have op5 := SlI.of_owns (owns_later H3.out.1 b35) HR.out.2.2.2.2.2.2.2.2.2.1
    obtain ⟨x0, x1, -⟩ := two_of2 (kept b35 H3.out.2.2.2.1)
    clear x0' x1' y0' y1'
    go_wp2_with fail
    rw [← hW5]
    clear hW5
    have hK : ∀ W, Below W5.heap.size W5 W → Calls Try.prog 44 #[.slice a2 A.rows.length c2, .func (.func 50) #[] #[.pointer (some ⟨W4.heap.size, 0, none⟩), .pointer (some ⟨W2.heap.size, 0, none⟩)]] W fun e w' => ∃ v', e = .returned v' ∧ SlRK .u64 w' v' (A.rows.filter (mateB P Q B.rows)) ∧ Below W.heap.size W w' := fun W hb =>
      keptU_any hE (H0.out.1.rows.later (later_trans bw5 hb)) (by have := HR.out.2.2.2.1; omega) (fun r hr rv' W' hb' hS => semi1_any (kept hb' (kept hb hTm)) (kept hb' (kept hb hT75)) (SlI.later (SlI.later op5 hb) hb') ((hHash5.later hb).later hb') hS (by have := HR.out.2.2.2.2.2.2.2.2.2.2.2.1; omega) (fun x hx => by rw [HR.out.2.1 _ (rowN_mem hr)]; exact HR.out.2.2.2.2.2.2.2.1 x hx) HR.out.2.2.2.2.2.2.1)
    have hOf : ∀ W v', Below W5.heap.size W5 W → SlRK .u64 W v' (A.rows.filter (mateB P Q B.rows)) → Calls Try.prog 40 #[.slice a1 A.vars.length c1, v'] W fun e w' => ∃ v1 v2, e = .returned (.tuple #[relV v1 v2, .int .i64 0]) ∧ OwnRl W.heap.size w' v1 v2 (semiL A B) ∧ Below W.heap.size W w' := fun W v' hb hS => by
      have := of_any _ v' A.vars _ W (SlI.later H0.out.1.vars (later_trans bw5 hb)) hS (fun r hr => HR.out.2.1 r (List.mem_filter.1 hr).1) (by have := HR.out.2.2.1; omega) (Nat.le_trans (List.length_filter_le _ _) HR.out.2.2.2.1)
      rw [HR.out.2.2.2.2.2.2.2.2.2.2.2.2.2]
      exact this
    have HK := Lib.hid hK
    have HOf := Lib.hid hOf
    have HX2 := Lib.hid (And.intro (kept b35 H3.out.2.2.2.2.1) bw5)
    have lX5 := lt_of_block (kept b35 H3.out.2.2.2.1)
    have s5 := bw5.size
    have hmf : ∀ (fn : Fn) (first cap : Array Value) (w : World), (Instr.makeFunc fn first cap).run Try.prog w = .ok (.func fn first cap) w := fun _ _ _ _ => rfl
    clear hK hOf hTm hT75 hHash5 op5 b5 b35 bw5 b4 hHash hE HC1 HCm HHs x04
    go_region_law (first
      | (go_simp; refine (HK.out _ (later_drew _)).mono ?_; rintro e wK ⟨vk, rfl, hk, bk⟩; have c0k := cell_next bk x0; have c1k := cell_next bk x1; have sK := bk.size)
      | (go_simp; refine (HOf.out _ _ (later_trans (later_drew _) bk) hk).mono ?_; rintro e wO ⟨v1, v2, rfl, hO, bO⟩; have mX := kept bO (kept (later_trans (later_drew _) bk) HX2.out.1); obtain ⟨z0, z1, lZ⟩ := two_of2 mX; have fX0 := box_frozen (i := 0) mX; have fX1 := box_frozen (i := 1) mX; obtain ⟨o1, q1, rfl⟩ := owns_shape2 hO.vars; obtain ⟨ps, h1, h2⟩ := hO.rows; obtain ⟨o2, q2, rfl⟩ := owns_shape2 h1.own))
    all_goals (go_wp2_with fail)
    all_goals
      (have sK' : w.heap.size ≤ wK.heap.size := by
         have q := sK
         have q2 : W5.drew.heap.size = W5.heap.size := rfl
         omega
       have hb3 := box_set (i := 1) (box_set (i := 0) mX (.slice o1 (semiL A B).vars.length q1)) (.slice o2 ps.length q2)
       have d0 := box_cell (i := 0) hb3
       have d1 := box_cell (i := 1) hb3
       simp at d0 d1
       have hB' := below_set (i := 1) (u := .slice o2 ps.length q2) (below_set (i := 0) (u := .slice o1 (semiL A B).vars.length q1) (later_trans (later_trans HX2.out.2 (later_trans (later_drew _) bk)) bO) (show w.heap.size ≤ w.heap.size + 1 + 1 by omega)) (show w.heap.size ≤ w.heap.size + 1 + 1 by omega)
       have hO' := ((hO.set mX (i := 0) (.slice o1 (semiL A B).vars.length q1)).set (box_set mX _) (i := 1) (.slice o2 ps.length q2)).down sK'
       refine bodyPost_ret (v := .tuple #[relV (.slice o1 (semiL A B).vars.length q1) (.slice o2 ps.length q2), .int .i64 0]) (by simp [results, Try.results22, go_sem, d0, d1]) rfl ?_
       exact ⟨hB', _, _, 0, rfl, ⟨fun q => (by rw [HR.out.1.1, HR.out.1.2] at q; cases q), fun _ _ => ⟨rfl, hO'⟩⟩⟩)
end Go.Proofs.Ytdeiinfljfgmeaa
