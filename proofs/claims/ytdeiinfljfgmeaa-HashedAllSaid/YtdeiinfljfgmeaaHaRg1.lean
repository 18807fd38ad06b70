/-
  colanderref25.Value, Cells, walked.
-/
import Derived.Test.YtdeiinfljfgmeaaHaRfs
import Derived.Test.YtdeiinfljfgmeaaHaJn
namespace Go.Proofs.Ytdeiinfljfgmeaa
open Go.RowKit
set_option linter.unusedVariables false
set_option linter.unusedSimpArgs false

/-- What a row has of a variable; 0 where it has it not. -/
def valZ (vs r : List Int) (v : Int) : Int := if v ∈ vs then valL vs r v else 0
theorem valZ_in {vs r : List Int} {v : Int} (h : v ∈ vs) : valZ vs r v = valL vs r v := if_pos h
theorem valZ_out {vs r : List Int} {v : Int} (h : v ∉ vs) : valZ vs r v = 0 := if_neg h
theorem valZ_wf {vs r : List Int} (h : ∀ x ∈ r, (Lit.int .u64 x).wf = true) (v : Int) : (Lit.int .u64 (valZ vs r v)).wf = true := by
  unfold valZ
  split
  · unfold valL
    rw [List.getD_eq_getElem?_getD]
    cases q : r[(idxI vs v).toNat]? with
    | none => rfl
    | some x => exact h x (List.mem_of_getElem? q)
  · rfl
set_option maxRecDepth 100000 in
set_option maxHeartbeats 2000000 in
theorem Value_any (vv rv vr : Value) (R : Rl) (r : List Int) (v : Int) (w : World) (h : RlR w vv rv R) (hr : SlI .u64 w vr r) (hl : r.length = R.vars.length) :
    Calls Try.prog 64 #[relV vv rv, vr, .int .i64 v] w fun e w' => e = .returned (.tuple #[.int .u64 (valZ R.vars r v), .bool (decide (v ∈ R.vars))]) ∧ Below w.heap.size w w' := by
  obtain ⟨W0, hW0⟩ : ∃ W, W = w.alloc (.cells #[vv, rv] 25) := ⟨_, rfl⟩
  have b0 : Below w.heap.size w W0 := by rw [hW0]; exact later_alloc _ _
  have bx : RB W0 w.heap.size vv rv := by rw [hW0]; exact box_new _ _ _
  have hP := Place_any vv R.vars v W0 (h.later b0).vars
  have HP := Lib.hid hP
  obtain ⟨x0, x1, lX⟩ := two_of2 bx
  have H := Lib.hid (And.intro b0 (And.intro (SlI.later hr b0) hl))
  obtain ⟨av, cv, rfl, -⟩ := h.vars.open
  obtain ⟨ar, cr, rfl, -⟩ := h.rows.open
  obtain ⟨au, cu, rfl, -⟩ := hr.open
  clear h b0 bx hP hr hl
  go_enter Try.func64, Try.ntmps64
  go_wp2_with fail
  rw [← hW0]
  clear hW0
  refine HP.out.mono ?_
  rintro e w1 ⟨rfl, h1⟩
  subst h1
  by_cases hv : v ∈ R.vars
  · obtain ⟨i, hi, hlt⟩ := idxI_lt hv
    have hz : valZ R.vars r v = r.getD i 0 := by rw [valZ_in hv]; unfold valL; rw [hi]; rfl
    rw [hi]
    have hri : i < r.length := by rw [H.out.2.2]; exact hlt
    obtain ⟨_, _, f1, f2, f3, _, f4⟩ := H.out.2.1.open
    obtain ⟨bf, of, e2, _, fc⟩ := f4 (by omega)
    have cf1 := fc i hri
    injection f1 with f1a f1b f1c
    subst f1a f1c
    subst e2
    obtain ⟨x, hx⟩ : ∃ x, r[i] = x := ⟨_, rfl⟩
    rw [getD_at hri, hx] at hz
    rw [hx] at cf1
    have him : i ≤ 9223372036854775807 := by omega
    have HZ := Lib.hid hz
    have HV := Lib.hid hv
    clear hz hv hx fc f4 f2 f3 f1b hi
    go_wp2_with fail
    refine bodyPost_ret (v := .tuple #[.int .u64 x, .bool true]) (by simp [results, Try.results64, go_sem]) rfl ?_
    exact ⟨by rw [HZ.out, decide_eq_true HV.out], H.out.1⟩
  · rw [idxI_out hv]
    have HV := Lib.hid hv
    clear hv
    go_wp2_with fail
    refine bodyPost_ret (v := .tuple #[.int .u64 0, .bool false]) (by simp [results, Try.results64, go_sem]) rfl ?_
    exact ⟨by rw [valZ_out HV.out, decide_eq_false HV.out], H.out.1⟩
set_option maxRecDepth 100000 in
set_option maxHeartbeats 4000000 in
theorem CellsR_any (vv rv vr vo : Value) (R : Rl) (r o : List Int) (w : World) (h : RlR w vv rv R) (hr : SlI .u64 w vr r) (hl : r.length = R.vars.length) (ho : SlI .i64 w vo o) (hol : o.length ≤ 1048576) :
    Calls Try.prog 41 #[relV vv rv, vr, vo] w fun e w' => ∃ v', e = .returned v' ∧ w'.ownsRow w.heap.size 38 1 v' o.length ((o.map (valZ R.vars r)).map (.int .u64)) ∧ Below w.heap.size w w' := by
  obtain ⟨i0, hi, hz0, hz1, hz2⟩ := info_parts info_u64
  obtain ⟨W0, hW0⟩ : ∃ W, W = w.alloc (.cells #[vv, rv] 25) := ⟨_, rfl⟩
  have b0 : Below w.heap.size w W0 := by rw [hW0]; exact later_alloc _ _
  have bx : RB W0 w.heap.size vv rv := by rw [hW0]; exact box_new _ _ _
  have s0 : W0.heap.size = w.heap.size + 1 := by rw [hW0, World.size_alloc]
  have hB1 := later_trans b0 (later_alloc W0 (.cells #[] 38))
  have hO1 : (W0.alloc (.cells #[] 38)).ownsRow (w.heap.size + 1) 38 1 (.slice (some ⟨w.heap.size + 1, 0, none⟩) 0 0) 0 [] := by
    have h := World.ownsRow_made (base := w.heap.size + 1) (e := 38) (size := 1) W0 #[] 0 (by omega) (Nat.zero_le _) rfl
    rw [s0] at h
    exact h
  have H := Lib.hid (And.intro h (And.intro hr (And.intro hl (And.intro ho (And.intro bx (And.intro hB1 hO1))))))
  have hom : o.length ≤ 9223372036854775807 := by omega
  obtain ⟨av, cv, rfl, -⟩ := h.vars.open
  obtain ⟨ar, cr, rfl, -⟩ := h.rows.open
  obtain ⟨au, cu, rfl, -⟩ := hr.open
  obtain ⟨ao, co, rfl, -⟩ := ho.open
  clear h b0 bx hr hl ho hB1 hO1
  go_enter Try.func41, Try.ntmps41
  go_wp2_with fail
  rw [← hW0]
  clear hW0
  go_loopw [7, 15] (fun v i wr => ∃ k : Nat, k ≤ o.length ∧ i = .int .i64 k ∧ wr.ownsRow (w.heap.size + 1) 38 1 v k (((o.take k).map (valZ R.vars r)).map (.int .u64)) ∧ Below w.heap.size w wr ∧ RB wr w.heap.size (.slice av R.vars.length cv) (.slice ar R.rows.length cr)) (fun _ i _ => o.length - (intOf i).toNat)
  case atStart => exact ⟨0, Nat.zero_le _, rfl, H.out.2.2.2.2.2.2, H.out.2.2.2.2.2.1, box_alloc H.out.2.2.2.2.1 _⟩
  case round =>
    obtain ⟨k, hk, rfl, hO, hb, hX⟩ := hrel
    obtain ⟨a7, c7, rfl⟩ := owns_shape2 hO
    by_cases hlt : k < o.length
    · obtain ⟨_, _, e1, _, _, _, g4⟩ := (SlI.later H.out.2.2.2.1 hb).open
      obtain ⟨be, oe, e2, _, gc⟩ := g4 (by omega)
      have ce1 := gc k hlt
      injection e1 with e1a e1b e1c
      subst e1a e1c
      subst e2
      have hst : ((o.take (k + 1)).map (valZ R.vars r)).map (Value.int .u64) = ((o.take k).map (valZ R.vars r)).map (Value.int .u64) ++ [.int .u64 (valZ R.vars r o[k])] := by
        rw [List.take_succ_eq_append_getElem hlt, List.map_append, List.map_append]
        rfl
      obtain ⟨x, hx⟩ : ∃ x, o[k] = x := ⟨_, rfl⟩
      rw [hx] at ce1 hst
      have hV := Value_any _ _ _ R r x wr (H.out.1.later hb) (SlI.later H.out.2.1 hb) H.out.2.2.1
      have HV := Lib.hid hV
      obtain ⟨x0, x1, lX⟩ := two_of2 hX
      have HO := Lib.hid (And.intro hO (And.intro hb (And.intro hX (And.intro hlt hst))))
      clear gc g4 e1b hx hst hb hX hV hO
      go_wp2_with fail
      refine HV.out.mono ?_
      rintro e w5 ⟨rfl, b5⟩
      obtain ⟨y, hy⟩ : ∃ y, valZ R.vars r x = y := ⟨_, rfl⟩
      obtain ⟨q, hq⟩ : ∃ q, decide (x ∈ R.vars) = q := ⟨_, rfl⟩
      have hO5 := owns_later HO.out.1 b5
      have hb5 := later_trans HO.out.2.1 b5
      have hz5 := hb5.size
      have hX5 := kept b5 HO.out.2.2.1
      have hw1 : w.heap.size + 1 ≤ w5.heap.size := lt_of_block hX5
      have HY := Lib.hid (And.intro hy (And.intro hb5 hX5))
      rw [hy, hq]
      clear hy hq hb5 hX5 x0 x1 lX b5
      go_wp2_with (at_builtin; refine wpList_append_own _ rfl (.tmp 26) (.tmp 28) 26 rfl (w.heap.size + 1) 38 i0 _ 1 8 Try.underlying26 hi hz0 hz1 hz2 rfl (by decide) _ _ _ rfl (hO5.alloc _) ⟨w5.heap.size, 0, none⟩ 1 1 [.int .u64 y] rfl rfl (cells_new _ _ _) (by simp [Value.oneCell']) (by unfold maxLen; omega) (by omega) (by simp; omega) ?_; intro v6 w6 hown6 hgrow6 _)
      have hb6 : Below w.heap.size w w6 := (later_trans HY.out.2.1 (later_alloc w5 _)).grown hgrow6 (by simp; omega) (fun k e => Nat.le_of_succ_le (owns_above hO5 k e))
      have HN := Lib.hid (And.intro hown6 (And.intro hb6 (box_grown (hO5.alloc _) hgrow6 (box_alloc HY.out.2.2 _) (by decide))))
      clear hO5 hown6 hgrow6 hb6
      go_wp2_with fail
      go_roundw
      case rel => exact ⟨k + 1, HO.out.2.2.2.1, by go_num, by rw [HO.out.2.2.2.2, HY.out.1]; exact HN.out.1, HN.out.2.1, HN.out.2.2⟩
      case measure => simp [intOf]; have := HO.out.2.2.2.1; omega
    · obtain rfl : k = o.length := by omega
      rw [List.take_length] at hO
      have HR := Lib.hid (And.intro (owns_down hO (Nat.le_succ _)) hb)
      clear hO hb hX
      go_wp2_with fail
      go_ret
      exact ⟨_, rfl, HR.out.1, HR.out.2⟩
end Go.Proofs.Ytdeiinfljfgmeaa
