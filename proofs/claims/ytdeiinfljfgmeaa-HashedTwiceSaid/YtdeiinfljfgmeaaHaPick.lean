/-
  hashed.Pick, walked.
-/
import Derived.Deep.RegionHeld3
import Derived.Deep.RegionLaw
import Derived.Deep.DeepCutAuto
import Derived.Test.YtdeiinfljfgmeaaHaKey
namespace Go.Proofs.Ytdeiinfljfgmeaa
open Go.RowKit
set_option linter.unusedVariables false
set_option linter.unusedSimpArgs false

set_option maxHeartbeats 1000000 in
theorem pickF_any {x y i : Nat} {n : Int} {rv : Value} {r : List Int} {W : World} (hx : W.heap[x]? = some (.cells #[.int .i64 (i : Int)] 3 (0, 0))) (hy : W.heap[y]? = some (.cells #[.int .u64 n] 38 (0, 0))) (h : SlI .u64 W rv r) (hi : i < r.length) :
    Calls Try.prog 45 #[rv, .pointer (some ⟨x, 0, none⟩), .pointer (some ⟨y, 0, none⟩)] W fun e w' => e = .returned (.bool (decide (r.getD i 0 = n))) ∧ Below W.heap.size W w' := by
  have cx : W.cell? ⟨x, 0, none⟩ = some (.int .i64 (i : Int)) := by simpa using box_cell (i := 0) hx
  have cy : W.cell? ⟨y, 0, none⟩ = some (.int .u64 n) := by simpa using box_cell (i := 0) hy
  obtain ⟨a, c, rfl, h1, h2, -, h4⟩ := h.open
  obtain ⟨b, o, rfl, hb, hc⟩ := h4 (by omega)
  have ci := hc i hi
  have hg : r.getD i 0 = r[i] := by simp [List.getD, hi]
  rw [hg]
  obtain ⟨z, hz⟩ : ∃ z, r[i] = z := ⟨_, rfl⟩
  rw [hz] at ci ⊢
  clear hx hy h h4 hc hg hz
  go_enter Try.func45, Try.ntmps45
  go_wp2_with fail
  go_region
  all_goals (go_wp2_with fail)
  all_goals go_ret
  exact ⟨rfl, later_drew _⟩
theorem rightB_at {R : Rl} (h : rightB R = true) : Wd R.vars.length R.rows ∧ R.vars.length ≤ 64 ∧ R.rows.length ≤ 1048576 := by
  unfold rightB colB at h
  simp only [Bool.and_eq_true, decide_eq_true_eq] at h
  obtain ⟨⟨-, h1⟩, h2, h3⟩ := h
  refine ⟨fun r hr => ?_, h1, h2⟩
  obtain ⟨i, hi, rfl⟩ := List.getElem_of_mem hr
  have := List.all_eq_true.1 h3 i (List.mem_range.2 hi)
  unfold rowAt at this
  simp only [Bool.and_eq_true, decide_eq_true_eq] at this
  rw [← rowN_at hi]
  exact this.1
def pickL (R : Rl) (x n : Int) : Rl := ⟨R.vars, ofL (R.rows.filter fun r => decide (r.getD (idxI R.vars x).toNat 0 = n))⟩
theorem idxI_lt {xs : List Int} {x : Int} (h : x ∈ xs) : ∃ i : Nat, idxI xs x = i ∧ i < xs.length := by
  unfold idxI
  rw [if_pos h]
  exact ⟨_, rfl, List.idxOf_lt_length_of_mem h⟩
theorem idxI_out {xs : List Int} {x : Int} (h : x ∉ xs) : idxI xs x = -1 := by
  unfold idxI
  rw [if_neg h]
set_option maxRecDepth 100000 in
set_option maxHeartbeats 4000000 in
theorem Pick_any (vv rv : Value) (R : Rl) (x n : Int) (w : World) (h : RlR w vv rv R) :
    Calls Try.prog 19 #[relV vv rv, .int .i64 x, .int .u64 n] w fun e w' => Below w.heap.size w w' ∧ ∃ v1 v2 no, e = .returned (.tuple #[relV v1 v2, .int .i64 no]) ∧
      (rightB R = false → no = 350 ∧ v1 = .slice none 0 0 ∧ v2 = .slice none 0 0) ∧ (rightB R = true → x ∉ R.vars → no = 4 ∧ v1 = .slice none 0 0 ∧ v2 = .slice none 0 0) ∧ (rightB R = true → x ∈ R.vars → no = 0 ∧ OwnRl w.heap.size w' v1 v2 (pickL R x n)) := by
  have hE : Enters 45 := enters_of Try.func45 (by kernel_rfl) rfl
  obtain ⟨W0, hW0⟩ : ∃ W, W = ((w.alloc (.cells #[vv, rv] 25)).alloc (.cells #[.int .u64 n] 38)).alloc (.cells #[.slice none 0 0, .slice none 0 0] 25) := ⟨_, rfl⟩
  have s0 : W0.heap.size = w.heap.size + 1 + 1 + 1 := by rw [hW0, World.size_alloc, World.size_alloc, World.size_alloc]
  have b0 : Below w.heap.size w W0 := by rw [hW0]; exact later_trans (later_trans (later_alloc _ _) (later_alloc _ _)) (later_alloc _ _)
  have bR : RB W0 w.heap.size vv rv := by rw [hW0]; exact box_alloc (box_alloc (box_new _ _ _) _) _
  have bN : W0.heap[w.heap.size + 1]? = some (.cells #[.int .u64 n] 38 (0, 0)) := by
    rw [hW0]
    have h := box_new (w.alloc (.cells #[vv, rv] 25)) #[.int .u64 n] 38
    rw [World.size_alloc] at h
    exact box_alloc h _
  have bX : RB W0 (w.heap.size + 1 + 1) (.slice none 0 0) (.slice none 0 0) := by
    rw [hW0]
    have h := box_new ((w.alloc (.cells #[vv, rv] 25)).alloc (.cells #[.int .u64 n] 38)) #[.slice none 0 0, .slice none 0 0] 25
    rw [World.size_alloc, World.size_alloc] at h
    exact h
  have hC1 := Check_any vv rv R W0 (h.later b0)
  have HC1 := Lib.hid hC1
  obtain ⟨c0, c1, -⟩ := two_of2 bR
  obtain ⟨av, cv, hvv, -⟩ := h.vars.open
  obtain ⟨ar, cr, hrv, -⟩ := h.rows.open
  subst hvv
  subst hrv
  have H0 := Lib.hid (And.intro h (And.intro bR (And.intro bN (And.intro bX b0))))
  obtain ⟨rb, hrb⟩ : ∃ b, rightB R = b := ⟨_, rfl⟩
  rw [hrb]
  clear hC1 bR bN bX b0 h
  go_enter Try.func19, Try.ntmps19
  go_wp2_with fail
  rw [← hW0]
  clear hW0
  refine HC1.out.mono ?_
  rintro e W1 ⟨rfl, b1⟩
  rw [hrb]
  have HX1 := Lib.hid (And.intro (kept b1 H0.out.2.2.2.1) (And.intro (kept b1 H0.out.2.1) (And.intro (kept b1 H0.out.2.2.1) (later_trans H0.out.2.2.2.2 b1))))
  have c0' := cell_next b1 c0
  have c1' := cell_next b1 c1
  have s1 := b1.size
  clear c0 c1
  cases rb with
  | false =>
    obtain ⟨x0, x1, lX⟩ := two_of2 HX1.out.1
    have fX0 := box_frozen (i := 0) HX1.out.1
    have fX1 := box_frozen (i := 1) HX1.out.1
    have hb3 := box_set (i := 1) (box_set (i := 0) HX1.out.1 (.slice none 0 0)) (.slice none 0 0)
    have d0 := box_cell (i := 0) hb3
    have d1 := box_cell (i := 1) hb3
    simp at d0 d1
    have hB' := below_set (i := 1) (u := .slice none 0 0) (below_set (i := 0) (u := .slice none 0 0) HX1.out.2.2.2 (show w.heap.size ≤ w.heap.size + 1 + 1 by omega)) (show w.heap.size ≤ w.heap.size + 1 + 1 by omega)
    have HB' := Lib.hid hB'
    clear hB' hb3
    go_wp2_with fail
    refine bodyPost_ret (v := .tuple #[relV (.slice none 0 0) (.slice none 0 0), .int .i64 350]) (by simp [results, Try.results19, go_sem, d0, d1]) rfl ?_
    exact ⟨HB'.out, _, _, 350, rfl, rfl, rfl, rfl⟩
  | true =>
    have hIx := Index_any (.slice av R.vars.length cv) R.vars x W1 (SlI.later H0.out.1.vars HX1.out.2.2.2)
    have HIx := Lib.hid hIx
    clear hIx
    simp only [if_true]
    go_wp2_with fail
    refine HIx.out.mono ?_
    rintro e w2 ⟨rfl, h2⟩
    rw [h2]
    clear h2 w2
    obtain ⟨x0, x1, lX⟩ := two_of2 HX1.out.1
    have fX0 := box_frozen (i := 0) HX1.out.1
    have fX1 := box_frozen (i := 1) HX1.out.1
    by_cases hin : x ∈ R.vars
    · obtain ⟨i, hi, hil⟩ := idxI_lt hin
      rw [hi]
      have hi0 : ¬ (i : Int) < 0 := by omega
      have HI := Lib.hid (And.intro hin (And.intro hi hil))
      clear hin hi hil HIx
      go_wp2_with fail
      obtain ⟨W2, hW2⟩ : ∃ W, W = W1.alloc (.cells #[.int .i64 (i : Int)] 3) := ⟨_, rfl⟩
      have b2 : Below W1.heap.size W1 W2 := by rw [hW2]; exact later_alloc _ _
      have bI : W2.heap[W1.heap.size]? = some (.cells #[.int .i64 (i : Int)] 3 (0, 0)) := by rw [hW2]; exact box_new _ _ _
      rw [← hW2]
      clear hW2
      have hRr : RlR W2 (.slice av R.vars.length cv) (.slice ar R.rows.length cr) R := (H0.out.1.later HX1.out.2.2.2).later b2
      obtain ⟨hwd, hv64, hr20⟩ := rightB_at hrb
      have hK : ∀ W, Below W2.heap.size W2 W → Calls Try.prog 44 #[.slice ar R.rows.length cr, .func (.func 45) #[] #[.pointer (some ⟨W1.heap.size, 0, none⟩), .pointer (some ⟨w.heap.size + 1, 0, none⟩)]] W fun e w' => ∃ v', e = .returned v' ∧ SlRK .u64 w' v' (R.rows.filter fun r => decide (r.getD i 0 = n)) ∧ Below W.heap.size W w' := fun W hb =>
        keptU_any hE (hRr.rows.later hb) (by omega) (fun r hr rv' W' hb' hS => pickF_any (kept hb' (kept hb bI)) (kept hb' (kept hb (kept b2 HX1.out.2.2.1))) hS (by rw [hwd _ (rowN_mem hr)]; exact HI.out.2.2))
      have hOf : ∀ W v', Below W2.heap.size W2 W → SlRK .u64 W v' (R.rows.filter fun r => decide (r.getD i 0 = n)) → Calls Try.prog 40 #[.slice av R.vars.length cv, v'] W fun e w' => ∃ v1 v2, e = .returned (.tuple #[relV v1 v2, .int .i64 0]) ∧ OwnRl W.heap.size w' v1 v2 (pickL R x n) ∧ Below W.heap.size W w' := fun W v' hb hS => by
        have := of_any _ v' R.vars _ W (SlI.later hRr.vars hb) hS (fun r hr => hwd r (List.mem_filter.1 hr).1) (by omega) (Nat.le_trans (List.length_filter_le _ _) hr20)
        unfold pickL
        rw [HI.out.2.1]
        exact this
      have HK := Lib.hid hK
      have HOf := Lib.hid hOf
      have HX2 := Lib.hid (And.intro (kept b2 HX1.out.1) (later_trans HX1.out.2.2.2 b2))
      have c0'' := cell_next b2 c0'
      have c1'' := cell_next b2 c1'
      have s2 := b2.size
      clear hK hOf hRr bI b2 x0 x1 fX0 fX1 lX c0' c1' hwd hv64 hr20 HX1 hE HC1
      go_region_law (first
        | (go_simp; refine (HK.out _ (later_drew _)).mono ?_; rintro e wK ⟨vk, rfl, hk, bk⟩; have c0k := cell_next bk c0''; have c1k := cell_next bk c1''; have sK := bk.size)
        | (go_simp; refine (HOf.out _ _ (later_trans (later_drew _) bk) hk).mono ?_; rintro e wO ⟨v1, v2, rfl, hO, bO⟩; have mX := kept bO (kept (later_trans (later_drew _) bk) HX2.out.1); obtain ⟨x0, x1, lX⟩ := two_of2 mX; have fX0 := box_frozen (i := 0) mX; have fX1 := box_frozen (i := 1) mX; obtain ⟨a1, c1, rfl⟩ := owns_shape2 hO.vars; obtain ⟨ps, h1, h2⟩ := hO.rows; obtain ⟨a2, c2, rfl⟩ := owns_shape2 h1.own))
      all_goals (go_wp2_with fail)
      all_goals
        (have sK' : w.heap.size ≤ wK.heap.size := by
           have q := sK
           have q2 : W2.drew.heap.size = W2.heap.size := rfl
           omega
         have hb3 := box_set (i := 1) (box_set (i := 0) mX (.slice a1 (pickL R x n).vars.length c1)) (.slice a2 ps.length c2)
         have d0 := box_cell (i := 0) hb3
         have d1 := box_cell (i := 1) hb3
         simp at d0 d1
         have hB' := below_set (i := 1) (u := .slice a2 ps.length c2) (below_set (i := 0) (u := .slice a1 (pickL R x n).vars.length c1) (later_trans (later_trans HX2.out.2 (later_trans (later_drew _) bk)) bO) (show w.heap.size ≤ w.heap.size + 1 + 1 by omega)) (show w.heap.size ≤ w.heap.size + 1 + 1 by omega)
         have hO' := ((hO.set mX (i := 0) (.slice a1 (pickL R x n).vars.length c1)).set (box_set mX _) (i := 1) (.slice a2 ps.length c2)).down sK'
         refine bodyPost_ret (v := .tuple #[relV (.slice a1 (pickL R x n).vars.length c1) (.slice a2 ps.length c2), .int .i64 0]) (by simp [results, Try.results19, go_sem, d0, d1]) rfl ?_
         exact ⟨hB', _, _, 0, rfl, fun h => absurd HI.out.1 h, fun _ => ⟨rfl, hO'⟩⟩)
    · rw [idxI_out hin]
      have hb3 := box_alloc (box_set (i := 1) (box_set (i := 0) HX1.out.1 (.slice none 0 0)) (.slice none 0 0)) (.cells #[.int .i64 (-1)] 3)
      have d0 := box_cell (i := 0) hb3
      have d1 := box_cell (i := 1) hb3
      simp at d0 d1
      have hB' := later_trans (below_set (i := 1) (u := .slice none 0 0) (below_set (i := 0) (u := .slice none 0 0) HX1.out.2.2.2 (show w.heap.size ≤ w.heap.size + 1 + 1 by omega)) (show w.heap.size ≤ w.heap.size + 1 + 1 by omega)) (later_alloc _ (.cells #[.int .i64 (-1)] 3))
      have HB' := Lib.hid hB'
      have HIn := Lib.hid hin
      clear hin HIx hB' hb3
      go_wp2_with fail
      refine bodyPost_ret (v := .tuple #[relV (.slice none 0 0) (.slice none 0 0), .int .i64 4]) (by simp [results, Try.results19, go_sem, d0, d1]) rfl ?_
      exact ⟨HB'.out, _, _, 4, rfl, fun _ => ⟨rfl, rfl, rfl⟩, fun h => absurd h HIn.out⟩
end Go.Proofs.Ytdeiinfljfgmeaa
