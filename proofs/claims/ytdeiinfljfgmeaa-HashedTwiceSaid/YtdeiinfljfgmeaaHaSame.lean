/-
  slices.EqualFunc at rows of uint64; hashed.Same, walked.
-/
import Derived.Test.YtdeiinfljfgmeaaHaChk
namespace Go.Proofs.Ytdeiinfljfgmeaa
open Go.RowKit
set_option linter.unusedVariables false
set_option linter.unusedSimpArgs false

theorem rows_ne {ls ls' : List (List Int)} {k : Nat} (hk : k < ls.length) (hl : ls.length = ls'.length) (h : rowN ls k ≠ rowN ls' k) : decide (ls = ls') = false := decide_eq_false fun e => h (by rw [e])
theorem rows_eq {ls ls' : List (List Int)} (hl : ls.length = ls'.length) (h : ∀ k, k < ls.length → rowN ls k = rowN ls' k) : ls = ls' := by
  refine List.ext_getElem hl fun k h1 h2 => ?_
  have := h k h1
  rwa [rowN_at h1, rowN_at h2] at this
set_option maxRecDepth 100000 in
set_option maxHeartbeats 2000000 in
/-- slices.EqualFunc at rows, by slices.Equal. -/
theorem EqualFuncU_any (v v' : Value) (ls ls' : List (List Int)) (w : World) (h : SlRK .u64 w v ls) (h' : SlRK .u64 w v' ls') :
    Calls Try.prog 54 #[v, v', .func (.func 34) #[] #[]] w fun e w' => e = .returned (.bool (decide (ls = ls'))) ∧ Below w.heap.size w w' := by
  have hE : Enters 34 := enters_of Try.func34 (by kernel_rfl) rfl
  unfold Enters at hE
  have hm := h.len
  have hm' := h'.len
  have H := Lib.hid (And.intro h h')
  obtain ⟨a, c, rfl, -⟩ := h.open
  obtain ⟨a', c', rfl, -⟩ := h'.open
  clear h h'
  by_cases hl : ls.length = ls'.length
  · have hlen : ((ls.length : Int) != ls'.length) = false := by rw [hl]; simp
    obtain ⟨res, hres⟩ : ∃ res, decide (ls = ls') = res := ⟨_, rfl⟩
    rw [hres]
    have HR := Lib.hid (And.intro hres hl)
    have hll : ls'.length = ls'.length := rfl
    clear hres
    go_enter Try.func54, Try.ntmps54
    clear hl
    go_wp2_with fail
    go_loopw [17] (fun i wr => ∃ k : Nat, k ≤ ls.length ∧ i = .int .i64 k ∧ (∀ j, j < k → rowN ls j = rowN ls' j) ∧ Below w.heap.size w wr) (fun i _ => ls.length - (intOf i).toNat)
    case atStart => exact ⟨0, Nat.zero_le _, rfl, fun j hj => by omega, Below.refl _ _⟩
    case round =>
      obtain ⟨k, hk, rfl, hs, hb⟩ := hrel
      by_cases hlt : k < ls.length
      · have hlt' : k < ls'.length := by rw [← HR.out.2]; exact hlt
        obtain ⟨_, _, e1, _, _, _, g4⟩ := (H.out.1.later hb).open
        obtain ⟨be, oe, e2, _, gc⟩ := g4 (by omega)
        obtain ⟨rv, ce1, hrv⟩ := gc k hlt
        injection e1 with e1a e1b e1c
        subst e1a e1c
        subst e2
        obtain ⟨_, _, f1, _, _, _, f4⟩ := (H.out.2.later hb).open
        obtain ⟨bf, of', f2, _, fc⟩ := f4 (by omega)
        obtain ⟨rv', cf1, hrv'⟩ := fc k hlt'
        injection f1 with f1a f1b f1c
        subst f1a f1c
        subst f2
        have hq := equal_any rv rv' _ _ wr hrv hrv'
        obtain ⟨ar, cr, rfl, -⟩ := hrv.open
        obtain ⟨ar', cr', rfl, -⟩ := hrv'.open
        have HB := Lib.hid (And.intro hb (And.intro hs (And.intro hlt hlt')))
        have hkI : (k : Int) < ls.length := by omega
        have hkI' : (k : Int) < ls'.length := by omega
        by_cases heq : rowN ls k = rowN ls' k
        · rw [decide_eq_true heq] at hq
          have HQ := Lib.hid hq
          have HG : Hid (∀ j, j < k + 1 → rowN ls j = rowN ls' j) := Lib.hid (fun j hj => by
            by_cases e : j = k
            · subst e; exact heq
            · exact hs j (by omega))
          clear gc g4 fc f4 hrv hrv' e1b f1b hb hq hs heq
          go_wp2_with fail
          refine HQ.out.mono ?_
          rintro e w2 ⟨rfl, n2, hw2⟩
          have HB2 := Lib.hid (later_trans HB.out.1 (show Below wr.heap.size wr w2 by rw [hw2]; exact later_drewN _ _))
          clear hw2
          go_wp2_with fail
          go_roundw
          case rel => first | exact ⟨k + 1, by omega, by go_num, HG.out, HB2.out⟩ | ((repeat apply Exists.intro); refine ⟨?_, rfl⟩; exact ⟨k + 1, by omega, by go_num, HG.out, HB2.out⟩)
          case measure => simp [intOf]; omega
        · rw [decide_eq_false heq] at hq
          have HQ := Lib.hid hq
          obtain rfl : res = false := by rw [← HR.out.1]; exact rows_ne hlt HR.out.2 heq
          clear gc g4 fc f4 hrv hrv' e1b f1b hb hq hs heq
          go_wp2_with fail
          refine HQ.out.mono ?_
          rintro e w2 ⟨rfl, n2, hw2⟩
          have HB2 := Lib.hid (later_trans HB.out.1 (show Below wr.heap.size wr w2 by rw [hw2]; exact later_drewN _ _))
          clear hw2
          go_wp2_with fail
          go_ret
          exact ⟨rfl, HB2.out⟩
      · obtain rfl : k = ls.length := by omega
        obtain rfl : res = true := by rw [← HR.out.1]; exact decide_eq_true (rows_eq HR.out.2 hs)
        have HB := Lib.hid hb
        clear hb hs
        go_wp2_with fail
        go_ret
        exact ⟨rfl, HB.out⟩
  · have hlen : ((ls.length : Int) != ls'.length) = true := by rw [bne_iff_ne]; omega
    rw [decide_eq_false (fun e : ls = ls' => hl (by rw [e]))]
    clear hl
    go_enter Try.func54, Try.ntmps54
    go_wp2_with fail
    go_ret
    exact ⟨rfl, Below.refl _ _⟩
set_option maxRecDepth 100000 in
set_option maxHeartbeats 2000000 in
theorem Same_any (vv rv vv' rv' : Value) (R R' : Rl) (w : World) (h : RlR w vv rv R) (h' : RlR w vv' rv' R') :
    Calls Try.prog 27 #[relV vv rv, relV vv' rv'] w fun e w' => e = .returned (.bool (decide (R = R'))) ∧ Below w.heap.size w w' := by
  have hb0 := later_trans (later_alloc w (.cells #[vv, rv] 25)) (later_alloc _ (.cells #[vv', rv'] 25))
  have hx0 : RB ((w.alloc (.cells #[vv, rv] 25)).alloc (.cells #[vv', rv'] 25)) w.heap.size vv rv := box_alloc (box_new w _ _) _
  have hx1 : RB ((w.alloc (.cells #[vv, rv] 25)).alloc (.cells #[vv', rv'] 25)) (w.heap.size + 1) vv' rv' := by
    have h := box_new (w.alloc (.cells #[vv, rv] 25)) #[vv', rv'] 25
    rw [World.size_alloc] at h; exact h
  have hE := equalI_any vv vv' R.vars R'.vars _ (SlI.later h.vars hb0) (SlI.later h'.vars hb0)
  have hF := fun W (hb : Below ((w.alloc (.cells #[vv, rv] 25)).alloc (.cells #[vv', rv'] 25)).heap.size ((w.alloc (.cells #[vv, rv] 25)).alloc (.cells #[vv', rv'] 25)) W) => EqualFuncU_any rv rv' R.rows R'.rows W ((h.rows.later hb0).later hb) ((h'.rows.later hb0).later hb)
  obtain ⟨vs, rs⟩ := R
  obtain ⟨vs', rs'⟩ := R'
  simp only at hE hF
  have HC := Lib.hid (And.intro hE (And.intro hF (And.intro hb0 (And.intro hx0 hx1))))
  obtain ⟨av, cv, rfl, -⟩ := h.vars.open
  obtain ⟨ar, cr, rfl, -⟩ := h.rows.open
  obtain ⟨av', cv', rfl, -⟩ := h'.vars.open
  obtain ⟨ar', cr', rfl, -⟩ := h'.rows.open
  simp only at HC ⊢
  obtain ⟨res, hres⟩ : ∃ res, decide ((⟨vs, rs⟩ : Rl) = ⟨vs', rs'⟩) = res := ⟨_, rfl⟩
  rw [hres]
  have HR : Hid (res = (decide (vs = vs') && decide (rs = rs'))) := Lib.hid (by rw [← hres, Bool.eq_iff_iff]; simp)
  clear h h' hb0 hx0 hx1 hE hF hres
  by_cases hv : vs = vs'
  · have HE := HC.out.1
    rw [decide_eq_true hv] at HE
    have HE := Lib.hid HE
    obtain rfl : res = decide (rs = rs') := by rw [HR.out, decide_eq_true hv, Bool.true_and]
    clear hv
    go_enter Try.func27, Try.ntmps27
    go_wp2_with fail
    refine HE.out.mono ?_
    rintro e w1 ⟨rfl, n1, hw1⟩
    have hb1 : Below ((w.alloc (.cells #[.slice av vs.length cv, .slice ar rs.length cr] 25)).alloc (.cells #[.slice av' vs'.length cv', .slice ar' rs'.length cr'] 25)).heap.size ((w.alloc (.cells #[.slice av vs.length cv, .slice ar rs.length cr] 25)).alloc (.cells #[.slice av' vs'.length cv', .slice ar' rs'.length cr'] 25)) w1 := by rw [hw1]; exact later_drewN _ _
    obtain ⟨c0, c1, -⟩ := two_of2 (kept hb1 HC.out.2.2.2.1)
    obtain ⟨d0, d1, -⟩ := two_of2 (kept hb1 HC.out.2.2.2.2)
    have H1 := Lib.hid hb1
    clear hw1 hb1
    go_wp2_with fail
    refine (HC.out.2.1 _ H1.out).mono ?_
    rintro e w2 ⟨rfl, hb2⟩
    have H2 := Lib.hid (later_trans HC.out.2.2.1 (later_trans H1.out hb2))
    clear hb2
    go_wp2_with fail
    go_ret
    exact ⟨rfl, H2.out⟩
  · have HE := HC.out.1
    rw [decide_eq_false hv] at HE
    have HE := Lib.hid HE
    obtain rfl : res = false := by rw [HR.out, decide_eq_false hv, Bool.false_and]
    clear hv
    go_enter Try.func27, Try.ntmps27
    go_wp2_with fail
    refine HE.out.mono ?_
    rintro e w1 ⟨rfl, n1, hw1⟩
    have H2 := Lib.hid (later_trans HC.out.2.2.1 (show Below _ _ w1 by rw [hw1]; exact later_drewN _ _))
    clear hw1
    go_wp2_with fail
    go_ret
    exact ⟨rfl, H2.out⟩
end Go.Proofs.Ytdeiinfljfgmeaa
