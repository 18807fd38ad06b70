/-
  hashed.All, walked: the join of at most four small relations.
-/
import Derived.Test.YtdeiinfljfgmeaaHaPl
namespace Go.Proofs.Ytdeiinfljfgmeaa
open Go.RowKit
set_option linter.unusedVariables false
set_option linter.unusedSimpArgs false

def oneL : Rl := ⟨[], [[]]⟩
def relN (Rs : List Rl) (k : Nat) : Rl := Rs.getD k ⟨[], []⟩
theorem relN_at {Rs : List Rl} {k : Nat} (h : k < Rs.length) : relN Rs k = Rs[k] := by simp [relN, List.getD, h]
/-- A row of relations. -/
def SlRl (W : World) (v : Value) (Rs : List Rl) : Prop := ∃ a cap, v = .slice a Rs.length cap ∧ Rs.length ≤ 9223372036854775807 ∧
  (0 < Rs.length → ∃ b o, a = some ⟨b, o, none⟩ ∧ ∀ k, k < Rs.length → ∃ vv rv, W.cell? ⟨b, o + k * 2, none⟩ = some vv ∧ W.cell? ⟨b, o + k * 2 + 1, none⟩ = some rv ∧ RlR W vv rv (relN Rs k))
theorem SlRl.later {W W' : World} {v : Value} {Rs : List Rl} (h : SlRl W v Rs) (hb : Below W.heap.size W W') : SlRl W' v Rs := by
  obtain ⟨a, cap, e, h1, h2⟩ := h
  refine ⟨a, cap, e, h1, fun h0 => ?_⟩
  obtain ⟨b, o, e2, h3⟩ := h2 h0
  refine ⟨b, o, e2, fun k hk => ?_⟩
  obtain ⟨vv, rv, g1, g2, g3⟩ := h3 k hk
  exact ⟨vv, rv, cell_next hb g1, cell_next hb g2, g3.later hb⟩
def allTo (Rs : List Rl) (k : Nat) : Rl := (Rs.take k).foldl joinL oneL
theorem allTo_succ {Rs : List Rl} {k : Nat} (h : k < Rs.length) : allTo Rs (k + 1) = joinL (allTo Rs k) (relN Rs k) := by
  unfold allTo
  rw [List.take_succ_eq_append_getElem h, List.foldl_append, relN_at h]
  rfl
/-- Small relations. -/
def Small (Rs : List Rl) : Prop := Rs.length ≤ 4 ∧ ∀ R ∈ Rs, R.vars.length ≤ 8 ∧ R.rows.length ≤ 6
theorem oneL_right : rightB oneL = true := by decide
theorem allTo_small {Rs : List Rl} (hs : Small Rs) : ∀ k, k ≤ Rs.length → (allTo Rs k).vars.length ≤ 8 * k ∧ (allTo Rs k).rows.length ≤ 6 ^ k := by
  intro k
  induction k with
  | zero => intro _; exact ⟨Nat.le_refl _, Nat.le_refl _⟩
  | succ k ih =>
    intro hk
    obtain ⟨h1, h2⟩ := ih (by omega)
    have hr := hs.2 (relN Rs k) (by rw [relN_at (by omega)]; exact List.getElem_mem _)
    rw [allTo_succ (by omega)]
    have j1 := joinL_vars (allTo Rs k) (relN Rs k)
    have j2 := joinL_rows (allTo Rs k) (relN Rs k)
    have j3 : (allTo Rs k).rows.length * (relN Rs k).rows.length ≤ 6 ^ k * 6 := Nat.mul_le_mul h2 hr.2
    refine ⟨by omega, ?_⟩
    rw [Nat.pow_succ]
    omega
theorem pow6 {k : Nat} (h : k ≤ 4) : 6 ^ k ≤ 1296 := by
  have := Nat.pow_le_pow_right (n := 6) (by decide) h
  simpa using this
theorem allTo_fits {Rs : List Rl} (hs : Small Rs) {k : Nat} (hk : k < Rs.length) : (allTo Rs k).vars.length + (relN Rs k).vars.length ≤ 64 ∧ (allTo Rs k).rows.length * (relN Rs k).rows.length ≤ 1048575 := by
  obtain ⟨h1, h2⟩ := allTo_small hs k (by omega)
  have hr := hs.2 (relN Rs k) (by rw [relN_at hk]; exact List.getElem_mem _)
  have hl := hs.1
  have h3 := pow6 (k := k) (by omega)
  have j3 : (allTo Rs k).rows.length * (relN Rs k).rows.length ≤ 1296 * 6 := Nat.mul_le_mul (Nat.le_trans h2 h3) hr.2
  exact ⟨by omega, by omega⟩
theorem allTo_right {Rs : List Rl} (hs : Small Rs) : ∀ k, k ≤ Rs.length → (∀ j, j < k → rightB (relN Rs j) = true) → rightB (allTo Rs k) = true := by
  intro k
  induction k with
  | zero => intro _ _; exact oneL_right
  | succ k ih =>
    intro hk h
    have hf := allTo_fits hs (k := k) (by omega)
    rw [allTo_succ (by omega)]
    exact joinL_right (ih (by omega) fun j hj => h j (by omega)) (h k (by omega)) hf.1 (by omega)
/-- What the answer is. -/
structure AllR (Rs : List Rl) (base : Nat) (w' : World) (v1 v2 : Value) (no : Int) : Prop where
  wrong : Rs.all rightB = false → no = 350 ∧ v1 = .slice none 0 0 ∧ v2 = .slice none 0 0
  ok : Rs.all rightB = true → no = 0 ∧ OwnRl base w' v1 v2 (allTo Rs Rs.length)
set_option maxRecDepth 100000 in
set_option maxHeartbeats 4000000 in
theorem All_any (v : Value) (Rs : List Rl) (w : World) (h : SlRl w v Rs) (hs : Small Rs) :
    Calls Try.prog 26 #[v] w fun e w' => Below w.heap.size w w' ∧ ∃ v1 v2 no, e = .returned (.tuple #[relV v1 v2, .int .i64 no]) ∧ AllR Rs w.heap.size w' v1 v2 no := by
  have H := Lib.hid (And.intro h hs)
  obtain ⟨a, cap, rfl, -⟩ := h
  have hl4 := hs.1
  clear hs
  go_enter Try.func26, Try.ntmps26
  go_wp2_with fail
  obtain ⟨W0, hW0⟩ : ∃ W, W = (((w.alloc (.cells #[.slice none 0 0, .slice none 0 0] 25)).alloc (.cells #[] 38)).alloc (.cells #[.slice (some ⟨w.heap.size + 1, 0, none⟩) 0 0] 26)).alloc (.cells #[.slice none 0 0, .slice (some ⟨w.heap.size + 1 + 1, 0, none⟩) 1 1] 25) := ⟨_, rfl⟩
  have s0 : W0.heap.size = w.heap.size + 1 + 1 + 1 + 1 := by rw [hW0]; simp
  have b0 : Below w.heap.size w W0 := by rw [hW0]; exact later_trans (later_trans (later_trans (later_alloc _ _) (later_alloc _ _)) (later_alloc _ _)) (later_alloc _ _)
  have bR : RB W0 w.heap.size (.slice none 0 0) (.slice none 0 0) := by rw [hW0]; exact box_alloc (box_alloc (box_alloc (box_new _ _ _) _) _) _
  have bO : RB W0 (w.heap.size + 1 + 1 + 1) (.slice none 0 0) (.slice (some ⟨w.heap.size + 1 + 1, 0, none⟩) 1 1) := by
    rw [hW0]
    have h := box_new (((w.alloc (.cells #[.slice none 0 0, .slice none 0 0] 25)).alloc (.cells #[] 38)).alloc (.cells #[.slice (some ⟨w.heap.size + 1, 0, none⟩) 0 0] 26)) #[.slice none 0 0, .slice (some ⟨w.heap.size + 1 + 1, 0, none⟩) 1 1] 25
    rw [World.size_alloc, World.size_alloc, World.size_alloc] at h
    exact h
  have oO : OwnRl w.heap.size W0 (.slice none 0 0) (.slice (some ⟨w.heap.size + 1 + 1, 0, none⟩) 1 1) oneL := by
    refine ⟨World.ownsRow_nil _ _ _ _, fun x hx => (by cases hx), [(.slice (some ⟨w.heap.size + 1, 0, none⟩) 0 0, [])], ⟨?_, fun p hp => ?_⟩, rfl⟩
    · rw [hW0]
      have h := World.ownsRow_lit (base := w.heap.size) (e := 26) (size := 1) ((w.alloc (.cells #[.slice none 0 0, .slice none 0 0] 25)).alloc (.cells #[] 38)) #[.slice (some ⟨w.heap.size + 1, 0, none⟩) 0 0] 1 (by simp; omega) (by decide) rfl
      rw [World.size_alloc, World.size_alloc] at h
      exact h.alloc _
    · obtain rfl := List.mem_singleton.1 hp
      refine ⟨?_, fun x hx => by cases hx⟩
      rw [hW0]
      have h := World.ownsRow_lit (base := w.heap.size) (e := 38) (size := 1) (w.alloc (.cells #[.slice none 0 0, .slice none 0 0] 25)) #[] 0 (by simp) (by decide) rfl
      rw [World.size_alloc] at h
      exact (h.alloc _).alloc _
  have H1 := Lib.hid (And.intro b0 (And.intro bR (And.intro bO oO)))
  rw [← hW0]
  clear hW0 s0 b0 bR bO oO
  go_loopw [14] (fun i wr => ∃ (k : Nat) (v1 v2 : Value), k ≤ Rs.length ∧ i = .int .i64 k ∧ RB wr (w.heap.size + 1 + 1 + 1) v1 v2 ∧ OwnRl w.heap.size wr v1 v2 (allTo Rs k) ∧ (∀ j, j < k → rightB (relN Rs j) = true) ∧ RB wr w.heap.size (.slice none 0 0) (.slice none 0 0) ∧ Below w.heap.size w wr) (fun i _ => Rs.length - (intOf i).toNat)
  case atStart => exact ⟨0, _, _, Nat.zero_le _, rfl, H1.out.2.2.1, H1.out.2.2.2, fun j hj => by omega, H1.out.2.1, H1.out.1⟩
  case round =>
    obtain ⟨k, v1, v2, hk, rfl, hX, hO, hj, hR, hb⟩ := hrel
    obtain ⟨ps, hp1, -⟩ := hO.rows
    obtain ⟨e1, f1, rfl⟩ := owns_shape2 hO.vars
    obtain ⟨e2, f2, rfl⟩ := owns_shape2 hp1.own
    clear hp1
    by_cases hlt : k < Rs.length
    · obtain ⟨_, _, q1, -, g4⟩ := H.out.1.later hb
      obtain ⟨be, oe, q2, gc⟩ := g4 (by omega)
      obtain ⟨vv, rv, ce0, ce1, hrl⟩ := gc k hlt
      injection q1 with q1a q1b q1c
      subst q1a
      subst q2
      obtain ⟨W1, hW1⟩ : ∃ W, W = wr.alloc (.cells #[vv, rv] 25) := ⟨_, rfl⟩
      have b1 : Below wr.heap.size wr W1 := by rw [hW1]; exact later_alloc _ _
      have hf := allTo_fits H.out.2 hlt
      have hJ := Join_any _ _ vv rv (allTo Rs k) (relN Rs k) W1 (hO.rlR.later b1) (hrl.later b1) hf.1 hf.2
      have HJ := Lib.hid hJ
      have hrA := allTo_right H.out.2 k hk hj
      obtain ⟨nv, hnv⟩ : ∃ n, (allTo Rs k).vars.length = n := ⟨_, rfl⟩
      rw [hnv] at hX HJ
      obtain ⟨x0, x1, lX⟩ := two_of2 hX
      have lR := lt_of_block hR
      obtain ⟨av, cv, rfl, -⟩ := hrl.vars.open
      obtain ⟨ar, cr, rfl, -⟩ := hrl.rows.open
      have HX := Lib.hid (And.intro hX (And.intro hj (And.intro hR (And.intro hb (And.intro hlt hrA)))))
      clear hX hj hR hb hO gc g4 q1b q1c hf hJ hrl hrA hnv
      go_wp2_with fail
      rw [← hW1]
      clear hW1
      refine HJ.out.mono ?_
      rintro e W2 ⟨b2, u1, u2, no, rfl, hJR⟩
      have lX2 := lt_of_block (kept (later_trans b1 b2) HX.out.1)
      have lR2 := lt_of_block (kept (later_trans b1 b2) HX.out.2.2.1)
      cases hrk : rightB (relN Rs k) with
      | true =>
        obtain ⟨hn0, hOw⟩ := hJR.ok HX.out.2.2.2.2.2 hrk
        subst hn0
        obtain ⟨qs, hq1, -⟩ := hOw.rows
        obtain ⟨g1, d1, rfl⟩ := owns_shape2 hOw.vars
        obtain ⟨g2, d2, rfl⟩ := owns_shape2 hq1.own
        obtain ⟨nw, hnw⟩ : ∃ n, (joinL (allTo Rs k) (relN Rs k)).vars.length = n := ⟨_, rfl⟩
        obtain ⟨nr, hnr⟩ : ∃ n, qs.length = n := ⟨_, rfl⟩
        rw [hnw, hnr] at hOw
        rw [hnw, hnr]
        have hX2 := kept (later_trans b1 b2) HX.out.1
        obtain ⟨x0', x1', -⟩ := two_of2 hX2
        have fX0 := box_frozen (i := 0) hX2
        have fX1 := box_frozen (i := 1) hX2
        have hb3 := box_set (i := 1) (box_set (i := 0) hX2 (.slice g1 nw d1)) (.slice g2 nr d2)
        have hR3 := box_other (i := 1) (box_other (i := 0) (kept (later_trans b1 b2) HX.out.2.2.1) (show w.heap.size ≠ w.heap.size + 1 + 1 + 1 by omega) (.slice g1 nw d1)) (show w.heap.size ≠ w.heap.size + 1 + 1 + 1 by omega) (.slice g2 nr d2)
        have hO3 := OwnRl.set (i := 1) (OwnRl.set (i := 0) hOw hX2 (.slice g1 nw d1)) (box_set (i := 0) hX2 _) (.slice g2 nr d2)
        have hB3 := below_set (i := 1) (u := .slice g2 nr d2) (below_set (i := 0) (u := .slice g1 nw d1) (later_trans HX.out.2.2.2.1 (later_trans b1 b2)) (show w.heap.size ≤ w.heap.size + 1 + 1 + 1 by omega)) (show w.heap.size ≤ w.heap.size + 1 + 1 + 1 by omega)
        have hwz : w.heap.size ≤ W1.heap.size := (later_trans HX.out.2.2.2.1 b1).size
        have HN := Lib.hid (And.intro hb3 (And.intro hR3 (And.intro hO3 (And.intro hB3 (And.intro hrk hwz)))))
        clear hb3 hR3 hO3 hB3 hrk hwz hOw hq1 hnw hnr hJR hX2
        go_wp2_with fail
        go_roundw
        case rel =>
          refine ⟨k + 1, .slice g1 nw d1, .slice g2 nr d2, HX.out.2.2.2.2.1, by go_num, ?_, ?_, fun j hj => ?_, ?_, ?_⟩
          · have := box_alloc HN.out.1 (.cells #[.slice g1 nw d1, .slice g2 nr d2] 25)
            simpa [RB] using this
          · rw [allTo_succ HX.out.2.2.2.2.1]
            exact OwnRl.down (HN.out.2.2.1.later (later_alloc _ _)) HN.out.2.2.2.2.2
          · by_cases e : j = k
            · subst e; exact HN.out.2.2.2.2.1
            · exact HX.out.2.1 j (by omega)
          · exact box_alloc HN.out.2.1 _
          · exact later_trans HN.out.2.2.2.1 (later_alloc _ _)
        case measure => simp [intOf]; have := HX.out.2.2.2.2.1; omega
      | false =>
        obtain ⟨hn0, e1, e2⟩ := hJR.wrong (by rw [hrk, Bool.and_false])
        subst hn0 e1 e2
        have hR2 := kept (later_trans b1 b2) HX.out.2.2.1
        obtain ⟨x0', x1', -⟩ := two_of2 hR2
        have fX0 := box_frozen (i := 0) hR2
        have fX1 := box_frozen (i := 1) hR2
        have hb3 := box_alloc (box_set (i := 1) (box_set (i := 0) hR2 (.slice none 0 0)) (.slice none 0 0)) (.cells #[.slice none 0 0, .slice none 0 0] 25)
        have d0 := box_cell (i := 0) hb3
        have d1 := box_cell (i := 1) hb3
        simp at d0 d1
        have hB' := later_trans (below_set (i := 1) (u := .slice none 0 0) (below_set (i := 0) (u := .slice none 0 0) (later_trans HX.out.2.2.2.1 (later_trans b1 b2)) (Nat.le_refl _)) (Nat.le_refl _)) (later_alloc _ (.cells #[.slice none 0 0, .slice none 0 0] 25))
        have hno : Rs.all rightB = false := by
          rw [List.all_eq_false]
          exact ⟨relN Rs k, by rw [relN_at HX.out.2.2.2.2.1]; exact List.getElem_mem _, by rw [hrk]; decide⟩
        have HB' := Lib.hid (And.intro hB' hno)
        clear hB' hb3 hno hrk hJR hR2
        go_wp2_with fail
        refine bodyPost_ret (v := .tuple #[relV (.slice none 0 0) (.slice none 0 0), .int .i64 350]) (by simp [results, Try.results26, go_sem, d0, d1]) rfl ?_
        exact ⟨HB'.out.1, _, _, 350, rfl, ⟨fun _ => ⟨rfl, rfl, rfl⟩, fun q => by rw [HB'.out.2] at q; cases q⟩⟩
    · obtain rfl : k = Rs.length := by omega
      obtain ⟨x0, x1, lX⟩ := two_of2 hX
      obtain ⟨y0, y1, lR⟩ := two_of2 hR
      have fX0 := box_frozen (i := 0) hR
      have fX1 := box_frozen (i := 1) hR
      obtain ⟨nv, hnv⟩ : ∃ n, (allTo Rs Rs.length).vars.length = n := ⟨_, rfl⟩
      rw [hnv] at hX hO x0
      have hb3 := box_set (i := 1) (box_set (i := 0) hR (.slice e1 nv f1)) (.slice e2 ps.length f2)
      have d0 := box_cell (i := 0) hb3
      have d1 := box_cell (i := 1) hb3
      simp at d0 d1
      have hO3 := OwnRl.set (i := 1) (OwnRl.set (i := 0) hO hR (.slice e1 nv f1)) (box_set (i := 0) hR _) (.slice e2 ps.length f2)
      have hB' := below_set (i := 1) (u := .slice e2 ps.length f2) (below_set (i := 0) (u := .slice e1 nv f1) hb (Nat.le_refl _)) (Nat.le_refl _)
      have hyes : Rs.all rightB = true := List.all_eq_true.2 fun R hR => by
        obtain ⟨i, hi, rfl⟩ := List.getElem_of_mem hR
        rw [← relN_at hi]
        exact hj i hi
      have HB' := Lib.hid (And.intro hB' (And.intro hyes hO3))
      clear hB' hb3 hyes hO3 hO hj hX hR hb hnv
      go_wp2_with fail
      refine bodyPost_ret (v := .tuple #[relV (.slice e1 nv f1) (.slice e2 ps.length f2), .int .i64 0]) (by simp [results, Try.results26, go_sem, d0, d1]) rfl ?_
      exact ⟨HB'.out.1, _, _, 0, rfl, ⟨fun q => (by rw [HB'.out.2.1] at q; cases q), fun _ => ⟨rfl, HB'.out.2.2⟩⟩⟩
end Go.Proofs.Ytdeiinfljfgmeaa
