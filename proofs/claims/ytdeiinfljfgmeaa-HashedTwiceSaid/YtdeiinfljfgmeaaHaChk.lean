/-
  hashed.columns, hashed.Check, walked.
-/
import Derived.Test.YtdeiinfljfgmeaaMapI
import Derived.Test.YtdeiinfljfgmeaaHaCmp
namespace Go.Proofs.Ytdeiinfljfgmeaa
open Go.RowKit Go.Maps
set_option linter.unusedVariables false
set_option linter.unusedSimpArgs false

set_option maxRecDepth 100000 in
set_option maxHeartbeats 2000000 in
theorem columns_any (v : Value) (o : List Int) (w : World) (ho : SlI .i64 w v o) :
    Calls Try.prog 55 #[v] w fun e w' => e = .returned (.bool (colB o)) ∧ Below w.heap.size w w' := by
  have hmm := @run_makeMap Try.prog
  have hol := ho.len
  unfold maxLen at hol
  have HO := Lib.hid ho
  obtain ⟨a, c, rfl, -⟩ := ho.open
  clear ho
  go_enter Try.func55, Try.ntmps55
  go_wp2_with fail
  have H0 := Lib.hid (MpI.made w)
  go_loopw [9] (fun i wr => ∃ k : Nat, k ≤ o.length ∧ i = .int .i64 k ∧ (∀ j, j < k → colAt o j = true) ∧ MpI wr w.heap.size k (o.take k) ∧ Below w.heap.size w wr) (fun i _ => o.length - (intOf i).toNat)
  case atStart => exact ⟨0, Nat.zero_le _, rfl, fun j hj => by omega, H0.out, later_alloc w _⟩
  case round =>
    obtain ⟨k, hk, rfl, hs, hm, hb⟩ := hrel
    have H := Lib.hid (And.intro hs (And.intro hm hb))
    by_cases hlt : k < o.length
    · obtain ⟨_, _, e1, _, _, _, f4⟩ := (HO.out.later hb).open
      obtain ⟨bo, oo, e2, hbo, fc⟩ := f4 (by omega)
      injection e1 with e1a e1b e1c
      subst e1a
      subst e2
      have c1 := fc k hlt
      rw [← getD_at hlt] at c1
      have hwf : (Lit.int .i64 (o.getD k 0)).wf = true := HO.out.2 _ (by rw [getD_at hlt]; exact List.getElem_mem hlt)
      have hL := hm.look hwf
      have hI := inI_one (l := o.take k) (x := o.getD k 0)
      have hord : colAt o k = (decide (0 ≤ o.getD k 0) && !decide (o.getD k 0 ∈ o.take k)) := rfl
      obtain ⟨v, hv⟩ : ∃ v, o.getD k 0 = v := ⟨_, rfl⟩
      rw [hv] at c1 hwf hL hI hord
      obtain ⟨q, hq⟩ : ∃ q, inI (o.take k) v = q := ⟨_, rfl⟩
      rw [hq] at hL hI
      have hbad : colAt o k = false → Hid (colB o = false) := fun h => Lib.hid (by
        unfold colB
        rw [cover_no hlt h, Bool.false_and])
      have HV := Lib.hid (And.intro hv hlt)
      clear f4 fc e1b e1c hs hm hb hv hq
      by_cases h1 : 0 ≤ v
      · by_cases h3 : v ∈ o.take k
        · have hq1 : (q == 1) = true := by rw [hI, decide_eq_true h3]
          have HB := hbad (by rw [hord, decide_eq_true h3, Bool.not_true, Bool.and_false])
          clear hbad hord hI h3
          go_wp2_with fail
          go_ret
          exact ⟨ret_bool HB.out.symm, H.out.2.2⟩
        · have hq1 : (q == 1) = false := by rw [hI, decide_eq_false h3]
          have HY := Lib.hid (show colAt o k = true by rw [hord, decide_eq_false h3, decide_eq_true h1]; rfl)
          have hkm : k < maxLen := by unfold maxLen; omega
          obtain ⟨D, hD1, hD2⟩ := H.out.2.1
          clear hbad hord hI h3
          go_wp2_with (at_mapUpdate; refine wpList_mapUpdate_own _ rfl _ _ _ 94 rfl 3 3 lawI Try.underlying94 _ w.heap.size k D rfl hD1 hkm _ _ _ rfl rfl (keyOf_int_mk Try.underlying3 hwf) _ [] (plainElem_int Try.underlying3 (by decide)) ?_; intro w1 hown1 hgrow1)
          have hm1 := MpI.put hD2 hwf hD1 hown1
          have HM1 := Lib.hid (And.intro hm1 hgrow1)
          clear hD2 hm1 hgrow1 hown1
          go_roundw
          case rel => exact ⟨k + 1, HV.out.2, by go_num, fun j hj => by
            by_cases e : j = k
            · subst e; exact HY.out
            · exact H.out.1 j (by omega), by rw [List.take_succ_eq_append_getElem HV.out.2, ← getD_at HV.out.2, HV.out.1]; exact HM1.out.1, H.out.2.2.grown HM1.out.2 H.out.2.2.size (fun k e => by cases e; omega)⟩
          case measure => simp [intOf]; try omega
      · have HB := hbad (by rw [hord, decide_eq_false h1, Bool.false_and])
        clear hbad hord hI
        go_wp2_with fail
        go_ret
        exact ⟨ret_bool HB.out.symm, H.out.2.2⟩
    · have hall : (List.range o.length).all (colAt o) = true := cover_yes fun j hj => hs j (by omega)
      have HA : Hid (colB o = decide ((o.length : Int) ≤ 64)) := Lib.hid (by
        unfold colB
        rw [hall, Bool.true_and]
        by_cases e : o.length ≤ 64
        · rw [decide_eq_true e, decide_eq_true (by omega)]
        · rw [decide_eq_false e, decide_eq_false (by omega)])
      clear hs hm hb hall
      go_wp2_with fail
      go_ret
      exact ⟨ret_bool HA.out.symm, H.out.2.2⟩
/-- A relation's parts, in memory. -/
structure RlR (w : World) (vv rv : Value) (R : Rl) : Prop where
  vars : SlI .i64 w vv R.vars
  rows : SlRK .u64 w rv R.rows
abbrev relV (vv rv : Value) : Value := .agg #[vv, rv]
theorem RlR.later {w w' : World} {vv rv : Value} {R : Rl} (h : RlR w vv rv R) (hb : Below w.heap.size w w') : RlR w' vv rv R := ⟨SlI.later h.vars hb, h.rows.later hb⟩
/-- A relation in a box. -/
def RB (w : World) (x : Nat) (vv rv : Value) : Prop := w.heap[x]? = some (.cells #[vv, rv] 25 (0, 0))
theorem two_of2 {W : World} {X : Nat} {u0 u1 : Value} {t : TypeId} (h : W.heap[X]? = some (.cells #[u0, u1] t (0, 0))) : W.cell? ⟨X, 0, none⟩ = some u0 ∧ W.cell? ⟨X, 1, none⟩ = some u1 ∧ X < W.heap.size :=
  ⟨box_cell (i := 0) h, box_cell (i := 1) h, lt_of_block h⟩
set_option maxRecDepth 100000 in
set_option maxHeartbeats 2000000 in
theorem Check_any (vv rv : Value) (R : Rl) (w : World) (h : RlR w vv rv R) :
    Calls Try.prog 28 #[relV vv rv] w fun e w' => e = .returned (.int .i64 (if rightB R = true then 0 else 350)) ∧ Below w.heap.size w w' := by
  have hb0 := later_alloc w (.cells #[vv, rv] 25)
  have hC := columns_any vv R.vars _ (SlI.later h.vars hb0)
  have hrl := h.rows.len
  obtain ⟨vs, rs⟩ := R
  simp only at hC hrl
  have H := Lib.hid (And.intro (h.later hb0) (And.intro hb0 (box_new w #[vv, rv] 25)))
  obtain ⟨av, cv, rfl, -⟩ := h.vars.open
  obtain ⟨ar, cr, rfl, -⟩ := h.rows.open
  simp only at H hC ⊢
  have HC := Lib.hid hC
  clear h hb0 hC
  obtain ⟨res, hres⟩ : ∃ res : Int, (if rightB ⟨vs, rs⟩ = true then (0 : Int) else 350) = res := ⟨_, rfl⟩
  rw [hres]
  have hT : rightB ⟨vs, rs⟩ = true → res = 0 := fun h => by rw [← hres, if_pos h]
  have hF : rightB ⟨vs, rs⟩ = false → res = 350 := fun h => by rw [← hres, h]; rfl
  have HRes := Lib.hid (And.intro hT hF)
  clear hT hF hres
  cases hcol : colB vs with
  | false =>
    obtain rfl : res = 350 := HRes.out.2 (by unfold rightB; rw [hcol]; rfl)
    rw [hcol] at HC
    clear hcol
    go_enter Try.func28, Try.ntmps28
    go_wp2_with fail
    refine HC.out.mono ?_
    rintro e w1 ⟨rfl, hb1⟩
    have HB1 := Lib.hid (later_trans H.out.2.1 hb1)
    clear hb1
    go_wp2_with fail
    go_ret
    exact ⟨rfl, HB1.out⟩
  | true =>
    rw [hcol] at HC
    by_cases hmx : rs.length ≤ 1048576
    · have hmxI : ¬ (1048576 : Int) < rs.length := by omega
      have HRt : Hid (rightB ⟨vs, rs⟩ = (List.range rs.length).all (rowAt ⟨vs, rs⟩)) := Lib.hid (by unfold rightB; rw [hcol, Bool.true_and, decide_eq_true hmx, Bool.true_and])
      clear hcol hmx
      go_enter Try.func28, Try.ntmps28
      go_wp2_with fail
      refine HC.out.mono ?_
      rintro e w1 ⟨rfl, hb1⟩
      obtain ⟨c0, c1, lX⟩ := two_of2 (kept hb1 H.out.2.2)
      have H1 := Lib.hid (And.intro (H.out.1.later hb1) (And.intro (later_trans H.out.2.1 hb1) (kept hb1 H.out.2.2)))
      have hmf : ∀ (fn : Fn) (first cap : Array Value) (w : World), (Instr.makeFunc fn first cap).run Try.prog w = .ok (.func fn first cap) w := fun _ _ _ _ => rfl
      have hE : Enters 56 := enters_of Try.func56 (by kernel_rfl) rfl
      unfold Enters at hE
      clear hb1
      go_wp2_with fail
      go_loopw [24] (fun i wr => ∃ k : Nat, k ≤ rs.length ∧ i = .int .i64 k ∧ (∀ j, j < k → rowAt ⟨vs, rs⟩ j = true) ∧ Below w1.heap.size w1 wr) (fun i _ => rs.length - (intOf i).toNat)
      case atStart => exact ⟨0, Nat.zero_le _, rfl, fun j hj => by omega, later_refl _⟩
      case round =>
        obtain ⟨k, hk, rfl, hs, hb⟩ := hrel
        have hR := H1.out.1.later hb
        obtain ⟨c0, c1, lX⟩ := two_of2 (kept hb H1.out.2.2)
        have HS := Lib.hid (And.intro hs hb)
        by_cases hlt : k < rs.length
        · obtain ⟨_, _, e1, _, _, _, f4⟩ := hR.rows.open
          obtain ⟨bo, oo, e2, hbo, fc⟩ := f4 (show 0 < rs.length by omega)
          simp only at fc e1
          obtain ⟨rv, c9, hrv⟩ := fc k hlt
          injection e1 with e1a e1b e1c
          subst e1a e1c
          subst e2
          have hbad : rowAt ⟨vs, rs⟩ k = false → Hid (rightB ⟨vs, rs⟩ = false) := fun h => Lib.hid (by rw [HRt.out]; exact cover_no hlt h)
          have hgood : rowAt ⟨vs, rs⟩ k = true → Hid (∀ j, j < k + 1 → rowAt ⟨vs, rs⟩ j = true) := fun h => Lib.hid (fun j hj => by
            by_cases e : j = k
            · subst e; exact h
            · exact HS.out.1 j (by omega))
          have hrow : rowAt ⟨vs, rs⟩ k = (decide ((rowN rs k).length = vs.length) && (decide (k = 0) || decide (lexC (rowN rs (k - 1)) (rowN rs k) = -1))) := rfl
          have hlt1 := hlt
          have hkI : (k : Int) < rs.length := by omega
          by_cases hln : (rowN rs k).length = vs.length
          · rw [decide_eq_true hln, Bool.true_and] at hrow
            have HRv := Lib.hid hrv
            obtain ⟨a9, c9', rfl, -⟩ := hrv.open
            have hlne : (((rowN rs k).length : Int) != vs.length) = false := by rw [hln]; simp
            by_cases hk0 : k = 0
            · have HG := hgood (by rw [hrow, hk0]; rfl)
              have hkn : ¬ (0 : Int) < k := by omega
              have hkd : decide ((0 : Int) < k) = false := decide_eq_false hkn
              clear hbad hgood hrow f4 fc e1b hR hrv hs hb hln hk0
              go_wp2_with fail
              go_roundw
              case rel => first | exact ⟨k + 1, by omega, by go_num, HG.out, HS.out.2⟩ | ((repeat apply Exists.intro); refine ⟨?_, rfl⟩; exact ⟨k + 1, by omega, by go_num, HG.out, HS.out.2⟩)
              case measure => simp [intOf]; omega
            · have hkp : (0 : Int) < k := by omega
              obtain ⟨j, rfl⟩ : ∃ j, k = j + 1 := ⟨k - 1, by omega⟩
              rw [show j + 1 - 1 = j from rfl] at hrow
              obtain ⟨rp, cp, hrp⟩ := fc j (by omega)
              have hwj : IntKind.i64.wrap (((j + 1 : Nat) : Int) - 1) = j := by rw [wrap_i64 (by omega) (by omega)]; omega
              have hpl : (rowN rs j).length = vs.length := by
                have := HS.out.1 j (by omega)
                unfold rowAt at this
                rw [Bool.and_eq_true, decide_eq_true_eq] at this
                exact this.1
              have hCm := compare_any vs.length rp (.slice a9 (rowN rs (j + 1)).length c9') (rowN rs j) (rowN rs (j + 1)) wr hrp HRv.out hpl hln
              have hcs := lexC_cases (rowN rs j) (rowN rs (j + 1))
              obtain ⟨ap, cpp, rfl, -⟩ := hrp.open
              obtain ⟨lx, hlx⟩ : ∃ lx, lexC (rowN rs j) (rowN rs (j + 1)) = lx := ⟨_, rfl⟩
              rw [hlx] at hCm hcs hrow
              have HCm := Lib.hid hCm
              have hjI : (j : Int) < rs.length := by omega
              clear hR hrv hrp hs hb f4 fc e1b hlx hCm hk0 hpl
              by_cases hneg : lx = -1
              · subst hneg
                have HG := hgood (by rw [hrow]; simp)
                clear hbad hgood hrow hcs hln
                go_wp2_with fail
                refine HCm.out.mono ?_
                rintro e w2 ⟨rfl, q2, rfl⟩
                have HB2 := Lib.hid (later_trans HS.out.2 (later_trans (later_alloc wr (.cells #[.int .i64 (vs.length : Int)] 83)) (later_drewN _ q2)))
                go_wp2_with fail
                go_roundw
                case rel => first | exact ⟨j + 1 + 1, by omega, by go_num, HG.out, HB2.out⟩ | ((repeat apply Exists.intro); refine ⟨?_, rfl⟩; exact ⟨j + 1 + 1, by omega, by go_num, HG.out, HB2.out⟩)
                case measure => simp [intOf]; omega
              · have HB := hbad (by rw [hrow, decide_eq_false hneg]; simp)
                have hge : ¬ lx < 0 := by rcases hcs with h | h | h <;> omega
                obtain rfl : res = 350 := HRes.out.2 HB.out
                clear hbad hgood hrow hcs hln
                go_wp2_with fail
                refine HCm.out.mono ?_
                rintro e w2 ⟨rfl, q2, rfl⟩
                have HB2 := Lib.hid (later_trans HS.out.2 (later_trans (later_alloc wr (.cells #[.int .i64 (vs.length : Int)] 83)) (later_drewN _ q2)))
                go_wp2_with fail
                go_ret
                exact ⟨rfl, later_trans H1.out.2.1 HB2.out⟩
          · have HB := hbad (by rw [hrow, decide_eq_false hln, Bool.false_and])
            obtain ⟨a9, c9', rfl, -⟩ := hrv.open
            have hlne : (((rowN rs k).length : Int) != vs.length) = true := by rw [bne_iff_ne]; omega
            obtain rfl : res = 350 := HRes.out.2 HB.out
            clear hbad hgood hrow f4 fc e1b hR hrv hs hb
            go_wp2_with fail
            go_ret
            exact ⟨rfl, later_trans H1.out.2.1 HS.out.2⟩
        · have HA : Hid (rightB ⟨vs, rs⟩ = true) := Lib.hid (by rw [HRt.out]; exact cover_yes fun j hj => hs j (by omega))
          obtain rfl : res = 0 := HRes.out.1 HA.out
          clear hs hb hR
          go_wp2_with fail
          go_ret
          exact ⟨rfl, later_trans H1.out.2.1 HS.out.2⟩
    · have hmxI : (1048576 : Int) < rs.length := by omega
      obtain rfl : res = 350 := HRes.out.2 (by unfold rightB; rw [decide_eq_false hmx, Bool.false_and, Bool.and_false])
      clear hcol hmx
      go_enter Try.func28, Try.ntmps28
      go_wp2_with fail
      refine HC.out.mono ?_
      rintro e w1 ⟨rfl, hb1⟩
      obtain ⟨c0, c1, lX⟩ := two_of2 (kept hb1 H.out.2.2)
      have HB1 := Lib.hid (later_trans H.out.2.1 hb1)
      clear hb1
      go_wp2_with fail
      go_ret
      exact ⟨rfl, HB1.out⟩
end Go.Proofs.Ytdeiinfljfgmeaa
