/-
  colanderref25: Value, Cells, Match, Alone, Join, One, Semi, Project, Pick, walked.
-/
import Derived.Test.YtdeiinfljfgmeaaHaRfs
import Derived.Test.YtdeiinfljfgmeaaHaJn
import Derived.Test.YtdeiinfljfgmeaaHaAll
import Derived.Deep.AppendLies
import Derived.Deep.RegionLaw
import Derived.Deep.DeepCutAuto
namespace Go.Proofs.Ytdeiinfljfgmeaa
/-! ## XHaRg1 -/
section
open Go.RowKit
set_option linter.unusedVariables false
set_option linter.unusedSimpArgs false

/-- What a row has of a variable; 0 where it has it not. -/
def valZ (vs r : List Int) (v : Int) : Int := if v ∈ vs then valL vs r v else 0
theorem valZ_in {vs r : List Int} {v : Int} (h : v ∈ vs) : valZ vs r v = valL vs r v := if_pos h
theorem valZ_out {vs r : List Int} {v : Int} (h : v ∉ vs) : valZ vs r v = 0 := if_neg h
theorem valZ_wf {vs r : List Int} (h : ∀ x ∈ r, (Lit.int .u64 x).wf = true) (v : Int) : (Lit.int .u64 (valZ vs r v)).wf = true := by
  unfold valZ
  split
  · unfold valL
    rw [List.getD_eq_getElem?_getD]
    cases q : r[(idxI vs v).toNat]? with
    | none => rfl
    | some x => exact h x (List.mem_of_getElem? q)
  · rfl
set_option maxRecDepth 100000 in
set_option maxHeartbeats 2000000 in
theorem Value_any (vv rv vr : Value) (R : Rl) (r : List Int) (v : Int) (w : World) (h : RlR w vv rv R) (hr : SlI .u64 w vr r) (hl : r.length = R.vars.length) :
    Calls Try.prog 64 #[relV vv rv, vr, .int .i64 v] w fun e w' => e = .returned (.tuple #[.int .u64 (valZ R.vars r v), .bool (decide (v ∈ R.vars))]) ∧ Below w.heap.size w w' := by
  obtain ⟨W0, hW0⟩ : ∃ W, W = w.alloc (.cells #[vv, rv] 25) := ⟨_, rfl⟩
  have b0 : Below w.heap.size w W0 := by rw [hW0]; exact later_alloc _ _
  have bx : RB W0 w.heap.size vv rv := by rw [hW0]; exact box_new _ _ _
  have hP := Place_any vv R.vars v W0 (h.later b0).vars
  have HP := Lib.hid hP
  obtain ⟨x0, x1, lX⟩ := two_of2 bx
  have H := Lib.hid (And.intro b0 (And.intro (SlI.later hr b0) hl))
  obtain ⟨av, cv, rfl, -⟩ := h.vars.open
  obtain ⟨ar, cr, rfl, -⟩ := h.rows.open
  obtain ⟨au, cu, rfl, -⟩ := hr.open
  clear h b0 bx hP hr hl
  go_enter Try.func64, Try.ntmps64
  go_wp2_with fail
  rw [← hW0]
  clear hW0
  refine HP.out.mono ?_
  rintro e w1 ⟨rfl, h1⟩
  subst h1
  by_cases hv : v ∈ R.vars
  · obtain ⟨i, hi, hlt⟩ := idxI_lt hv
    have hz : valZ R.vars r v = r.getD i 0 := by rw [valZ_in hv]; unfold valL; rw [hi]; rfl
    rw [hi]
    have hri : i < r.length := by rw [H.out.2.2]; exact hlt
    obtain ⟨_, _, f1, f2, f3, _, f4⟩ := H.out.2.1.open
    obtain ⟨bf, of, e2, _, fc⟩ := f4 (by omega)
    have cf1 := fc i hri
    injection f1 with f1a f1b f1c
    subst f1a f1c
    subst e2
    obtain ⟨x, hx⟩ : ∃ x, r[i] = x := ⟨_, rfl⟩
    rw [getD_at hri, hx] at hz
    rw [hx] at cf1
    have him : i ≤ 9223372036854775807 := by omega
    have HZ := Lib.hid hz
    have HV := Lib.hid hv
    clear hz hv hx fc f4 f2 f3 f1b hi
    go_wp2_with fail
    refine bodyPost_ret (v := .tuple #[.int .u64 x, .bool true]) (by simp [results, Try.results64, go_sem]) rfl ?_
    exact ⟨by rw [HZ.out, decide_eq_true HV.out], H.out.1⟩
  · rw [idxI_out hv]
    have HV := Lib.hid hv
    clear hv
    go_wp2_with fail
    refine bodyPost_ret (v := .tuple #[.int .u64 0, .bool false]) (by simp [results, Try.results64, go_sem]) rfl ?_
    exact ⟨by rw [valZ_out HV.out, decide_eq_false HV.out], H.out.1⟩
set_option maxRecDepth 100000 in
set_option maxHeartbeats 4000000 in
theorem CellsR_any (vv rv vr vo : Value) (R : Rl) (r o : List Int) (w : World) (h : RlR w vv rv R) (hr : SlI .u64 w vr r) (hl : r.length = R.vars.length) (ho : SlI .i64 w vo o) (hol : o.length ≤ 1048576) :
    Calls Try.prog 41 #[relV vv rv, vr, vo] w fun e w' => ∃ v', e = .returned v' ∧ w'.ownsRow w.heap.size 38 1 v' o.length ((o.map (valZ R.vars r)).map (.int .u64)) ∧ Below w.heap.size w w' := by
  obtain ⟨i0, hi, hz0, hz1, hz2⟩ := info_parts info_u64
  obtain ⟨W0, hW0⟩ : ∃ W, W = w.alloc (.cells #[vv, rv] 25) := ⟨_, rfl⟩
  have b0 : Below w.heap.size w W0 := by rw [hW0]; exact later_alloc _ _
  have bx : RB W0 w.heap.size vv rv := by rw [hW0]; exact box_new _ _ _
  have s0 : W0.heap.size = w.heap.size + 1 := by rw [hW0, World.size_alloc]
  have hB1 := later_trans b0 (later_alloc W0 (.cells #[] 38))
  have hO1 : (W0.alloc (.cells #[] 38)).ownsRow (w.heap.size + 1) 38 1 (.slice (some ⟨w.heap.size + 1, 0, none⟩) 0 0) 0 [] := by
    have h := World.ownsRow_made (base := w.heap.size + 1) (e := 38) (size := 1) W0 #[] 0 (by omega) (Nat.zero_le _) rfl
    rw [s0] at h
    exact h
  have H := Lib.hid (And.intro h (And.intro hr (And.intro hl (And.intro ho (And.intro bx (And.intro hB1 hO1))))))
  have hom : o.length ≤ 9223372036854775807 := by omega
  obtain ⟨av, cv, rfl, -⟩ := h.vars.open
  obtain ⟨ar, cr, rfl, -⟩ := h.rows.open
  obtain ⟨au, cu, rfl, -⟩ := hr.open
  obtain ⟨ao, co, rfl, -⟩ := ho.open
  clear h b0 bx hr hl ho hB1 hO1
  go_enter Try.func41, Try.ntmps41
  go_wp2_with fail
  rw [← hW0]
  clear hW0
  go_loopw [7, 15] (fun v i wr => ∃ k : Nat, k ≤ o.length ∧ i = .int .i64 k ∧ wr.ownsRow (w.heap.size + 1) 38 1 v k (((o.take k).map (valZ R.vars r)).map (.int .u64)) ∧ Below w.heap.size w wr ∧ RB wr w.heap.size (.slice av R.vars.length cv) (.slice ar R.rows.length cr)) (fun _ i _ => o.length - (intOf i).toNat)
  case atStart => exact ⟨0, Nat.zero_le _, rfl, H.out.2.2.2.2.2.2, H.out.2.2.2.2.2.1, box_alloc H.out.2.2.2.2.1 _⟩
  case round =>
    obtain ⟨k, hk, rfl, hO, hb, hX⟩ := hrel
    obtain ⟨a7, c7, rfl⟩ := owns_shape2 hO
    by_cases hlt : k < o.length
    · obtain ⟨_, _, e1, _, _, _, g4⟩ := (SlI.later H.out.2.2.2.1 hb).open
      obtain ⟨be, oe, e2, _, gc⟩ := g4 (by omega)
      have ce1 := gc k hlt
      injection e1 with e1a e1b e1c
      subst e1a e1c
      subst e2
      have hst : ((o.take (k + 1)).map (valZ R.vars r)).map (Value.int .u64) = ((o.take k).map (valZ R.vars r)).map (Value.int .u64) ++ [.int .u64 (valZ R.vars r o[k])] := by
        rw [List.take_succ_eq_append_getElem hlt, List.map_append, List.map_append]
        rfl
      obtain ⟨x, hx⟩ : ∃ x, o[k] = x := ⟨_, rfl⟩
      rw [hx] at ce1 hst
      have hV := Value_any _ _ _ R r x wr (H.out.1.later hb) (SlI.later H.out.2.1 hb) H.out.2.2.1
      have HV := Lib.hid hV
      obtain ⟨x0, x1, lX⟩ := two_of2 hX
      have HO := Lib.hid (And.intro hO (And.intro hb (And.intro hX (And.intro hlt hst))))
      clear gc g4 e1b hx hst hb hX hV hO
      go_wp2_with fail
      refine HV.out.mono ?_
      rintro e w5 ⟨rfl, b5⟩
      obtain ⟨y, hy⟩ : ∃ y, valZ R.vars r x = y := ⟨_, rfl⟩
      obtain ⟨q, hq⟩ : ∃ q, decide (x ∈ R.vars) = q := ⟨_, rfl⟩
      have hO5 := owns_later HO.out.1 b5
      have hb5 := later_trans HO.out.2.1 b5
      have hz5 := hb5.size
      have hX5 := kept b5 HO.out.2.2.1
      have hw1 : w.heap.size + 1 ≤ w5.heap.size := lt_of_block hX5
      have HY := Lib.hid (And.intro hy (And.intro hb5 hX5))
      rw [hy, hq]
      clear hy hq hb5 hX5 x0 x1 lX b5
      go_wp2_with (at_builtin; refine wpList_append_own _ rfl (.tmp 26) (.tmp 28) 26 rfl (w.heap.size + 1) 38 i0 _ 1 8 Try.underlying26 hi hz0 hz1 hz2 rfl (by decide) _ _ _ rfl (hO5.alloc _) ⟨w5.heap.size, 0, none⟩ 1 1 [.int .u64 y] rfl rfl (cells_new _ _ _) (by simp [Value.oneCell']) (by unfold maxLen; omega) (by omega) (by simp; omega) ?_; intro v6 w6 hown6 hgrow6 _)
      have hb6 : Below w.heap.size w w6 := (later_trans HY.out.2.1 (later_alloc w5 _)).grown hgrow6 (by simp; omega) (fun k e => Nat.le_of_succ_le (owns_above hO5 k e))
      have HN := Lib.hid (And.intro hown6 (And.intro hb6 (box_grown (hO5.alloc _) hgrow6 (box_alloc HY.out.2.2 _) (by decide))))
      clear hO5 hown6 hgrow6 hb6
      go_wp2_with fail
      go_roundw
      case rel => exact ⟨k + 1, HO.out.2.2.2.1, by go_num, by rw [HO.out.2.2.2.2, HY.out.1]; exact HN.out.1, HN.out.2.1, HN.out.2.2⟩
      case measure => simp [intOf]; have := HO.out.2.2.2.1; omega
    · obtain rfl : k = o.length := by omega
      rw [List.take_length] at hO
      have HR := Lib.hid (And.intro (owns_down hO (Nat.le_succ _)) hb)
      clear hO hb hX
      go_wp2_with fail
      go_ret
      exact ⟨_, rfl, HR.out.1, HR.out.2⟩
end
/-! ## XHaRg2 -/
section
open Go.RowKit
set_option linter.unusedVariables false
set_option linter.unusedSimpArgs false

/-- Do rows match at a variable? -/
def mateAt (A B : Rl) (x y : List Int) (v : Int) : Bool := !(decide (v ∈ B.vars) && decide (valZ A.vars x v ≠ valZ B.vars y v))
def mateR (A B : Rl) (x y : List Int) : Bool := A.vars.all (mateAt A B x y)
theorem mateR_iff {A B : Rl} {x y : List Int} : mateR A B x y = true ↔ Mate A B x y := by
  unfold mateR Mate
  rw [List.all_eq_true]
  constructor
  · intro h v h1 h2
    have h3 := h v h1
    unfold mateAt at h3
    rw [decide_eq_true h2, Bool.true_and, Bool.not_eq_true', decide_eq_false_iff_not, valZ_in h1, valZ_in h2] at h3
    exact Decidable.not_not.1 h3
  · intro h v h1
    unfold mateAt
    by_cases h2 : v ∈ B.vars
    · rw [decide_eq_true h2, Bool.true_and, Bool.not_eq_true', decide_eq_false_iff_not, valZ_in h1, valZ_in h2]
      exact fun h3 => h3 (h v h1 h2)
    · rw [decide_eq_false h2, Bool.false_and]
      rfl
set_option maxRecDepth 100000 in
set_option maxHeartbeats 4000000 in
theorem MatchR_any (va ra vb rb vx vy : Value) (A B : Rl) (x y : List Int) (w : World) (hA : RlR w va ra A) (hB : RlR w vb rb B) (hx : SlI .u64 w vx x) (hy : SlI .u64 w vy y) (hxl : x.length = A.vars.length) (hyl : y.length = B.vars.length) :
    Calls Try.prog 53 #[relV va ra, relV vb rb, vx, vy] w fun e w' => e = .returned (.bool (mateR A B x y)) ∧ Below w.heap.size w w' := by
  obtain ⟨W0, hW0⟩ : ∃ W, W = (w.alloc (.cells #[va, ra] 25)).alloc (.cells #[vb, rb] 25) := ⟨_, rfl⟩
  have b0 : Below w.heap.size w W0 := by rw [hW0]; exact later_trans (later_alloc _ _) (later_alloc _ _)
  have bA : RB W0 w.heap.size va ra := by rw [hW0]; exact box_alloc (box_new _ _ _) _
  have bB : RB W0 (w.heap.size + 1) vb rb := by
    rw [hW0]
    have h := box_new (w.alloc (.cells #[va, ra] 25)) #[vb, rb] 25
    rw [World.size_alloc] at h
    exact h
  have H := Lib.hid (And.intro hA (And.intro hB (And.intro hx (And.intro hy (And.intro hxl (And.intro hyl (And.intro b0 (And.intro bA bB))))))))
  obtain ⟨av, cv, rfl, v1, v2, -⟩ := hA.vars.open
  have hvm : A.vars.length ≤ 9223372036854775807 := by omega
  obtain ⟨ar, cr, rfl, -⟩ := hA.rows.open
  obtain ⟨bv, dv, rfl, -⟩ := hB.vars.open
  obtain ⟨br, dr, rfl, -⟩ := hB.rows.open
  obtain ⟨au, cu, rfl, -⟩ := hx.open
  obtain ⟨bu, du, rfl, -⟩ := hy.open
  obtain ⟨x0, x1, lX⟩ := two_of2 bA
  clear hA hB hx hy hxl hyl b0 bA bB v1 v2
  go_enter Try.func53, Try.ntmps53
  go_wp2_with fail
  rw [← hW0]
  clear hW0 x0 x1 lX
  go_loopw [18] (fun i wr => ∃ k : Nat, k ≤ A.vars.length ∧ i = .int .i64 k ∧ (∀ v, v ∈ A.vars.take k → mateAt A B x y v = true) ∧ Below W0.heap.size W0 wr) (fun i _ => A.vars.length - (intOf i).toNat)
  case atStart => exact ⟨0, Nat.zero_le _, rfl, fun v hv => by simp at hv, Below.refl _ _⟩
  case round =>
    obtain ⟨k, hk, rfl, hs, hb⟩ := hrel
    have hbw := later_trans H.out.2.2.2.2.2.2.1 hb
    by_cases hlt : k < A.vars.length
    · obtain ⟨_, _, e1, _, _, _, g4⟩ := (SlI.later H.out.1.vars hbw).open
      obtain ⟨be, oe, e2, _, gc⟩ := g4 (by omega)
      have ce1 := gc k hlt
      injection e1 with e1a e1b e1c
      subst e1a e1c
      subst e2
      have hst : ∀ v, v ∈ A.vars.take (k + 1) → v ∈ A.vars.take k ∨ v = A.vars[k] := fun v hv => by
        rw [List.take_succ_eq_append_getElem hlt, List.mem_append, List.mem_singleton] at hv
        exact hv
      have hmem : A.vars[k] ∈ A.vars := List.getElem_mem hlt
      obtain ⟨z, hz⟩ : ∃ z, A.vars[k] = z := ⟨_, rfl⟩
      rw [hz] at ce1 hst hmem
      have hV := Value_any _ _ _ A x z wr (H.out.1.later hbw) (SlI.later H.out.2.2.1 hbw) H.out.2.2.2.2.1
      have HV := Lib.hid hV
      obtain ⟨x0, x1, lX⟩ := two_of2 (kept hb H.out.2.2.2.2.2.2.2.1)
      have HO := Lib.hid (And.intro hs (And.intro hb (And.intro hbw (And.intro hlt (And.intro hst hmem)))))
      clear gc g4 e1b hz hst hb hbw hs hV hmem
      go_wp2_with fail
      refine HV.out.mono ?_
      rintro e w5 ⟨rfl, b5⟩
      have hV2 := Value_any _ _ _ B y z w5 (H.out.2.1.later (later_trans HO.out.2.2.1 b5)) (SlI.later H.out.2.2.2.1 (later_trans HO.out.2.2.1 b5)) H.out.2.2.2.2.2.1
      have HV2 := Lib.hid hV2
      obtain ⟨p, hp⟩ : ∃ p, valZ A.vars x z = p := ⟨_, rfl⟩
      obtain ⟨p2, hp2⟩ : ∃ p, decide (z ∈ A.vars) = p := ⟨_, rfl⟩
      clear x0 x1 lX
      obtain ⟨x0, x1, lX⟩ := two_of2 (kept b5 (kept HO.out.2.1 H.out.2.2.2.2.2.2.2.2))
      have H5 := Lib.hid (And.intro b5 hp)
      rw [hp, hp2]
      clear hV2 b5 hp hp2
      go_wp2_with fail
      refine HV2.out.mono ?_
      rintro e w6 ⟨rfl, b6⟩
      obtain ⟨u, hu⟩ : ∃ p, valZ B.vars y z = p := ⟨_, rfl⟩
      obtain ⟨q, hq⟩ : ∃ p, decide (z ∈ B.vars) = p := ⟨_, rfl⟩
      have hm : mateAt A B x y z = !(q && decide (p ≠ u)) := by unfold mateAt; rw [hq, H5.out.2, hu]
      have b06 := later_trans HO.out.2.1 (later_trans H5.out.1 b6)
      have H6 := Lib.hid (And.intro hm b06)
      rw [hu, hq]
      clear hu hq hm b06 b6 x0 x1 lX
      cases q with
      | false =>
        have HN := Lib.hid H6.out.1
        go_wp2_with fail
        go_roundw
        case rel => exact ⟨k + 1, HO.out.2.2.2.1, by go_num, fun v hv => by
          rcases HO.out.2.2.2.2.1 v hv with h | rfl
          · exact HO.out.1 v h
          · exact HN.out, H6.out.2⟩
        case measure => simp [intOf]; have := HO.out.2.2.2.1; omega
      | true =>
        by_cases hpu : p = u
        · have hpu2 : (p != u) = false := by rw [bne_eq_false_iff_eq]; exact hpu
          have HN := Lib.hid (show mateAt A B x y z = true by rw [H6.out.1, decide_eq_false (fun h => h hpu)]; rfl)
          subst hpu
          go_wp2_with fail
          go_roundw
          case rel => exact ⟨k + 1, HO.out.2.2.2.1, by go_num, fun v hv => by
            rcases HO.out.2.2.2.2.1 v hv with h | rfl
            · exact HO.out.1 v h
            · exact HN.out, H6.out.2⟩
          case measure => simp [intOf]; have := HO.out.2.2.2.1; omega
        · have hpu2 : (p != u) = true := by rw [bne_iff_ne]; exact hpu
          have HN := Lib.hid (show mateR A B x y = false from List.all_eq_false.2 ⟨z, HO.out.2.2.2.2.2, by rw [H6.out.1, decide_eq_true hpu]; decide⟩)
          clear hpu
          go_wp2_with fail
          go_ret
          exact ⟨ret_bool HN.out.symm, later_trans H.out.2.2.2.2.2.2.1 H6.out.2⟩
    · obtain rfl : k = A.vars.length := by omega
      rw [List.take_length] at hs
      have HN := Lib.hid (And.intro (show mateR A B x y = true from List.all_eq_true.2 hs) hbw)
      clear hs hb hbw
      go_wp2_with fail
      go_ret
      exact ⟨ret_bool HN.out.1.symm, HN.out.2⟩
set_option maxRecDepth 100000 in
set_option maxHeartbeats 4000000 in
theorem AloneR_any (va ra vb rb : Value) (A B : Rl) (w : World) (hA : RlR w va ra A) (hB : RlR w vb rb B) (hBl : B.vars.length ≤ 1048576) :
    Calls Try.prog 52 #[relV va ra, relV vb rb] w fun e w' => ∃ v', e = .returned v' ∧ w'.ownsRow w.heap.size 3 1 v' (aloneL A B).length ((aloneL A B).map (.int .i64)) ∧ Below w.heap.size w w' := by
  obtain ⟨i0, hi, hz0, hz1, hz2⟩ := info_parts info_int
  obtain ⟨W0, hW0⟩ : ∃ W, W = (w.alloc (.cells #[va, ra] 25)).alloc (.cells #[vb, rb] 25) := ⟨_, rfl⟩
  have b0 : Below w.heap.size w W0 := by rw [hW0]; exact later_trans (later_alloc _ _) (later_alloc _ _)
  have bA : RB W0 w.heap.size va ra := by rw [hW0]; exact box_alloc (box_new _ _ _) _
  have bB : RB W0 (w.heap.size + 1) vb rb := by
    rw [hW0]
    have h := box_new (w.alloc (.cells #[va, ra] 25)) #[vb, rb] 25
    rw [World.size_alloc] at h
    exact h
  have H := Lib.hid (And.intro hA (And.intro hB (And.intro b0 (And.intro bA bB))))
  obtain ⟨av, cv, rfl, -⟩ := hA.vars.open
  obtain ⟨ar, cr, rfl, -⟩ := hA.rows.open
  obtain ⟨bv, dv, rfl, v1, v2, -⟩ := hB.vars.open
  have hvm : B.vars.length ≤ 9223372036854775807 := by omega
  obtain ⟨br, dr, rfl, -⟩ := hB.rows.open
  obtain ⟨x0, x1, lX⟩ := two_of2 bB
  clear hA hB b0 bA bB v1 v2
  go_enter Try.func52, Try.ntmps52
  go_wp2_with fail
  rw [← hW0]
  clear hW0 x0 x1 lX
  go_loopw [5, 11] (fun v i wr => ∃ (k : Nat) (l : List Int), k ≤ B.vars.length ∧ i = .int .i64 k ∧ l = (B.vars.take k).filter (fun z => !decide (z ∈ A.vars)) ∧ wr.ownsRow W0.heap.size 3 1 v l.length (l.map (.int .i64)) ∧ Below W0.heap.size W0 wr) (fun _ i _ => B.vars.length - (intOf i).toNat)
  case atStart => exact ⟨0, [], Nat.zero_le _, rfl, rfl, World.ownsRow_nil _ _ _ _, Below.refl _ _⟩
  case round =>
    obtain ⟨k, l, hk, rfl, hl, hO, hb⟩ := hrel
    obtain ⟨a7, c7, rfl⟩ := owns_shape2 hO
    have hbw := later_trans H.out.2.2.1 hb
    by_cases hlt : k < B.vars.length
    · obtain ⟨_, _, e1, _, _, _, g4⟩ := (SlI.later H.out.2.1.vars hbw).open
      obtain ⟨be, oe, e2, _, gc⟩ := g4 (by omega)
      have ce1 := gc k hlt
      injection e1 with e1a e1b e1c
      subst e1a e1c
      subst e2
      have hst : (B.vars.take (k + 1)).filter (fun z => !decide (z ∈ A.vars)) = l ++ if B.vars[k] ∈ A.vars then [] else [B.vars[k]] := by
        rw [hl, List.take_succ_eq_append_getElem hlt, List.filter_append]
        by_cases q : B.vars[k] ∈ A.vars
        · simp [q]
        · simp [q]
      have hll : l.length ≤ k := by
        rw [hl]
        refine Nat.le_trans (List.length_filter_le _ _) ?_
        rw [List.length_take]
        omega
      obtain ⟨z, hz⟩ : ∃ z, B.vars[k] = z := ⟨_, rfl⟩
      rw [hz] at ce1 hst
      have hP := Place_any _ A.vars z wr (SlI.later H.out.1.vars hbw)
      have HP := Lib.hid hP
      obtain ⟨x0, x1, lX⟩ := two_of2 (kept hb H.out.2.2.2.1)
      have hz5 := hb.size
      have HO := Lib.hid (And.intro hb (And.intro hlt hst))
      clear gc g4 e1b hz hst hb hbw hP hl
      go_wp2_with fail
      refine HP.out.mono ?_
      rintro e w5 ⟨rfl, h5⟩
      subst h5
      clear x0 x1 lX
      by_cases hzA : z ∈ A.vars
      · obtain ⟨i, hi', -⟩ := idxI_lt hzA
        rw [hi']
        have hng : ¬ ((i : Int) < 0) := by omega
        have HN := Lib.hid (And.intro hO (show (B.vars.take (k + 1)).filter (fun z => !decide (z ∈ A.vars)) = l by rw [HO.out.2.2, if_pos hzA, List.append_nil]))
        clear hO hzA hi'
        go_wp2_with fail
        go_roundw
        case rel => exact ⟨k + 1, l, HO.out.2.1, by go_num, HN.out.2.symm, HN.out.1, HO.out.1⟩
        case measure => simp [intOf]; have := HO.out.2.1; omega
      · rw [idxI_out hzA]
        have HN := Lib.hid (show (B.vars.take (k + 1)).filter (fun z => !decide (z ∈ A.vars)) = l ++ [z] by rw [HO.out.2.2, if_neg hzA])
        clear hzA
        go_wp2_with (at_builtin; refine wpList_append_own _ rfl (.tmp 20) (.tmp 22) 22 rfl W0.heap.size 3 i0 _ 1 8 Try.underlying22 hi hz0 hz1 hz2 rfl (by decide) _ _ _ rfl (hO.alloc _) ⟨w5.heap.size, 0, none⟩ 1 1 [.int .i64 z] rfl rfl (cells_new _ _ _) (by simp [Value.oneCell']) (by unfold maxLen; omega) (by omega) (by simp; omega) ?_; intro v6 w6 hown6 hgrow6 _)
        have hb6 : Below W0.heap.size W0 w6 := (later_trans HO.out.1 (later_alloc w5 _)).grown hgrow6 (by simp; omega) (fun k e => owns_above hO k e)
        have HM := Lib.hid (And.intro hown6 hb6)
        clear hO hown6 hgrow6 hb6
        go_wp2_with fail
        go_roundw
        case rel => exact ⟨k + 1, l ++ [z], HO.out.2.1, by go_num, HN.out.symm, by simpa using HM.out.1, HM.out.2⟩
        case measure => simp [intOf]; have := HO.out.2.1; omega
    · obtain rfl : k = B.vars.length := by omega
      rw [List.take_length] at hl
      have HR := Lib.hid (And.intro (show wr.ownsRow w.heap.size 3 1 _ (aloneL A B).length ((aloneL A B).map (.int .i64)) by rw [show aloneL A B = l from hl.symm]; exact owns_down hO H.out.2.2.1.size) hbw)
      clear hO hb hl hbw
      go_wp2_with fail
      go_ret
      exact ⟨_, rfl, HR.out.1, HR.out.2⟩
end
/-! ## XHaRg3 -/
section
open Go.RowKit
set_option linter.unusedVariables false
set_option linter.unusedSimpArgs false

theorem wpList_append_sl2 {P : Program} (w : World) {ops : Array Oper} {rest : List Oper} {o : Oper} {a : Act} {Q : Exit → Act → World → Prop} (hgd : o.guard = none) (s x : Operand) (t : TypeId)
    (ho : o.op = .call { callee := .builtin .append, args := #[s, x], argTypes := #[t, t] })
    (e : TypeId) (i : TypeInfo) (z : Value) (bytes base : Nat) (ht : P.underlying t = some (.slice e)) (hi : P.info? e = some i) (hz : i.zero = some z)
    (hsize : i.size = 1) (hby : i.bytes = bytes) (hzs : z.cells.size = 1) (v : Value) (n m N : Nat) (xs : List Value) (hs : a.eval s = v) (hown : w.ownsRow base e 1 v n xs) (xv : Value) (news : List Value) (hxv : a.eval x = xv) (hx : SlC w xv news) (h1 : ∀ u ∈ news, u.oneCell' = true) (hm : news.length = m) (hN : n + m = N)
    (h63 : N ≤ maxLen) (hbytes : N * bytes ≤ 140737488355328) (hbase : base ≤ w.heap.size)
    (h : ∀ a' c' w', w'.ownsRow base e 1 (.slice a' N c') N (xs ++ news) → w.grownBy w' v.ownBlock → wpList P ops Q rest (a.put o.dst (.slice a' N c')) w') : wpList P ops Q (o :: rest) a w := by
  subst hm
  subst hN
  obtain ⟨a', c', w', hr, h2, h3⟩ := run_append_sl (P := P) w t o.type e i z bytes base ht hi hz hsize hby hzs v n xs hown xv news hx h1 h63 hbytes hbase
  refine wpList_plain hgd fun K hK => ?_
  unfold Oper.wp execOp
  simp only [ho, resolve, invoke, builtin, Sem.run_bind, Sem.run_pure, Result.andThen_ok, List.map_toArray, List.map_cons, List.map_nil, hs, hxv, hr]
  exact hK _ _ (h a' c' w' h2 h3)
/-- A row in another block. -/
theorem own_apart {w w' : World} {base' size' : Nat} {e' : TypeId} {v v' : Value} {n' : Nat} {xs' : List Value} (hg : w.grownBy w' v.ownBlock) (k : w.ownsRow base' e' size' v' n' xs') (hne : ∀ g, v'.ownBlock = some g → v.ownBlock ≠ some g) : w'.ownsRow base' e' size' v' n' xs' := by
  obtain ⟨k1, k2⟩ := k
  refine ⟨k1, ?_⟩
  rcases k2 with k2 | ⟨g, cap, cur, hv, hg', hh, r⟩
  · exact .inl k2
  · exact .inr ⟨g, cap, cur, hv, hg', (hg.block g (lt_of_block hh) (fun q => hne g (by rw [hv]; rfl) q.symm)).trans hh, r⟩
/-- Integers lie in no relation's box. -/
theorem SlI.setR {k : IntKind} {W : World} {v : Value} {xs : List Int} (h : SlI k W v xs) {X i : Nat} {a b : Value} (hX : RB W X a b) (ha : ∀ z, a ≠ .int k z) (hb : ∀ z, b ≠ .int k z) (u : Value) : SlI k (W.setCell ⟨X, i, none⟩ u) v xs := by
  obtain ⟨⟨ad, c, e, k1, k2, k3, k4⟩, hw⟩ := h
  refine ⟨⟨ad, c, e, k1, k2, k3, fun hne => ?_⟩, hw⟩
  obtain ⟨g, o, e2, hlt, hc⟩ := k4 hne
  have hg : g ≠ X := fun q => by
    subst q
    cases xs with
    | nil => exact hne rfl
    | cons x l =>
      have h0 := hc 0 (.int k x) rfl
      have hX' : W.heap[g]? = some (.cells #[a, b] 25 (0, 0)) := hX
      have h1 := box_cell (i := o) hX'
      rw [Nat.add_zero] at h0
      rw [h0] at h1
      rcases o with _ | _ | o
      · exact ha x (by simpa using h1.symm)
      · exact hb x (by simpa using h1.symm)
      · simp at h1
  refine ⟨g, o, e2, by rw [World.size_setCell]; exact hlt, fun j u' hj => ?_⟩
  have h1 := hc j u' hj
  unfold World.cell? at h1 ⊢
  rw [heap_setCell_other W ⟨X, i, none⟩ g u hg]
  exact h1
/-- A row is read in one way. -/
theorem slc_uniq {w : World} {v : Value} {cs ds : List Value} (h : SlC w v cs) (k : SlC w v ds) : cs = ds := by
  obtain ⟨a, c, e, h1, h2, h3, h4⟩ := h
  obtain ⟨a', c', e', k1, k2, k3, k4⟩ := k
  rw [e] at e'
  injection e' with e1 e2 e3
  subst e1
  refine List.ext_getElem e2 fun i p q => ?_
  obtain ⟨b, o, f, -, hc⟩ := h4 (fun q => by rw [q] at p; simp at p)
  obtain ⟨b', o', f', -, kc⟩ := k4 (fun p => by rw [p] at q; simp at q)
  rw [f] at f'
  cases f'
  have h5 := hc i cs[i] (by rw [List.getElem?_eq_getElem p])
  have h6 := kc i ds[i] (by rw [List.getElem?_eq_getElem q])
  rw [h5] at h6
  exact Option.some.inj h6
theorem OldRows.own_rows {W : World} {base : Nat} {v : Value} {vs : List Value} {ls : List (List Int)} (h : OldRows W base W v vs ls) (hP : ∀ x ∈ vs, ∃ q : List Int, W.ownsRow base 38 1 x q.length (q.map (Value.int .u64)) ∧ ∀ z ∈ q, (Lit.int .u64 z).wf = true) :
    ∃ ps, OwnRK .u64 38 26 base W v ps ∧ ps.map Prod.snd = ls := by
  have hl := h.len
  have e1 : (vs.zip ls).map Prod.fst = vs := by rw [List.map_fst_zip (by omega)]
  have e2 : (vs.zip ls).map Prod.snd = ls := by rw [List.map_snd_zip (by omega)]
  refine ⟨vs.zip ls, ⟨?_, fun p hp => ?_⟩, e2⟩
  · rw [e1, List.length_zip, ← hl, Nat.min_self]
    exact h.own
  · obtain ⟨i, hi, rfl⟩ := List.getElem_of_mem hp
    have hi' : i < vs.length ∧ i < ls.length := by rw [List.length_zip] at hi; omega
    rw [List.getElem_zip]
    obtain ⟨q, h1, h2⟩ := hP vs[i] (List.getElem_mem hi'.1)
    have h3 := h.rows i hi'.2
    rw [show vs.getD i undef = vs[i] by simp [List.getD, hi'.1], rowN_at hi'.2] at h3
    have h4 := slc_uniq (SlC.of_owns h1) h3.1
    have h5 : q = ls[i] := by
      refine List.ext_getElem (by simpa using congrArg List.length h4) fun j p1 p2 => ?_
      have h6 : (q.map (Value.int .u64))[j]'(by simpa using p1) = (ls[i].map (Value.int .u64))[j]'(by simpa using p2) := by simp only [h4]
      rw [List.getElem_map, List.getElem_map] at h6
      injection h6
    subst h5
    exact ⟨h1, h2⟩
/-- The document's rows of a join. -/
def rowsTo (A B : Rl) (x : List Int) (ys : List (List Int)) : List (List Int) := (ys.filter (mateR A B x)).map fun y => x ++ (aloneL A B).map (valZ B.vars y)
def rowsJ (A B : Rl) (xs : List (List Int)) : List (List Int) := xs.flatMap fun x => rowsTo A B x B.rows
def refJ (A B : Rl) : Rl := ⟨A.vars ++ aloneL A B, ofL (rowsJ A B A.rows)⟩
theorem rowsTo_len (A B : Rl) (x : List Int) (ys : List (List Int)) : (rowsTo A B x ys).length ≤ ys.length := by
  unfold rowsTo
  rw [List.length_map]
  exact List.length_filter_le _ _
theorem rowsTo_next {A B : Rl} {x : List Int} {ys : List (List Int)} {j : Nat} (h : j < ys.length) : rowsTo A B x (ys.take (j + 1)) = rowsTo A B x (ys.take j) ++ if mateR A B x (rowN ys j) then [x ++ (aloneL A B).map (valZ B.vars (rowN ys j))] else [] := by
  unfold rowsTo
  rw [List.take_succ_eq_append_getElem h, List.filter_append, List.map_append, rowN_at h]
  by_cases q : mateR A B x ys[j] = true
  · simp [q]
  · simp [q]
theorem rowsJ_next {A B : Rl} {xs : List (List Int)} {k : Nat} (h : k < xs.length) : rowsJ A B (xs.take (k + 1)) = rowsJ A B (xs.take k) ++ rowsTo A B (rowN xs k) B.rows := by
  unfold rowsJ
  rw [List.take_succ_eq_append_getElem h, List.flatMap_append, rowN_at h]
  simp
theorem rowsJ_len (A B : Rl) : ∀ xs, (rowsJ A B xs).length ≤ xs.length * B.rows.length
  | [] => by simp [rowsJ]
  | x :: xs => by
    have ih := rowsJ_len A B xs
    have h1 := rowsTo_len A B x B.rows
    unfold rowsJ at ih ⊢
    rw [List.flatMap_cons, List.length_append, List.length_cons, Nat.succ_mul]
    omega
theorem refJ_wd {A B : Rl} (hA : Wd A.vars.length A.rows) : Wd (A.vars ++ aloneL A B).length (rowsJ A B A.rows) := fun r hr => by
  unfold rowsJ rowsTo at hr
  obtain ⟨x, hx, h2⟩ := List.mem_flatMap.1 hr
  obtain ⟨y, hy, rfl⟩ := List.mem_map.1 h2
  rw [List.length_append, List.length_append, List.length_map, hA x hx]
theorem refJ_eq {A B : Rl} (hA : Ok A) (hB : Ok B) : refJ A B = joinL A B := by
  have hw := refJ_wd (B := B) hA.wd
  have hw2 := joinRow_wd (B := B) hA.wd
  unfold refJ joinL
  congr 1
  refine rise_unique (ofL_wd hw) (ofL_wd hw2) (ofL_rise hw) (ofL_rise hw2) fun z => ?_
  rw [ofL_mem hw, ofL_mem hw2]
  unfold rowsJ rowsTo
  rw [List.mem_flatMap]
  constructor
  · rintro ⟨x, hx, h2⟩
    obtain ⟨y, hy, rfl⟩ := List.mem_map.1 h2
    obtain ⟨h3, h4⟩ := List.mem_filter.1 hy
    refine List.mem_map.2 ⟨(x, y), (mem_match hA.u64 hB.u64).2 ⟨hx, h3, mateR_iff.1 h4⟩, ?_⟩
    simp only [joinP, cells_places]
    congr 1
    exact List.map_congr_left fun v hv => (valZ_in (mem_alone.1 hv).1).symm
  · intro h
    obtain ⟨⟨x, y⟩, hp, rfl⟩ := List.mem_map.1 h
    obtain ⟨h1, h2, h3⟩ := (mem_match hA.u64 hB.u64).1 hp
    refine ⟨x, h1, List.mem_map.2 ⟨y, List.mem_filter.2 ⟨h2, mateR_iff.2 h3⟩, ?_⟩⟩
    simp only [joinP, cells_places]
    congr 1
    exact List.map_congr_left fun v hv => valZ_in (mem_alone.1 hv).1
set_option maxRecDepth 100000 in
set_option maxHeartbeats 8000000 in
theorem JoinRf_any (va ra vb rb : Value) (A B : Rl) (w : World) (hA : RlR w va ra A) (hB : RlR w vb rb B) (hwA : Wd A.vars.length A.rows) (hwB : Wd B.vars.length B.rows) (hv : A.vars.length + B.vars.length ≤ 1048576) (hr : A.rows.length * B.rows.length ≤ 1048575) :
    Calls Try.prog 23 #[relV va ra, relV vb rb] w fun e w' => ∃ v1 v2, e = .returned (relV v1 v2) ∧ OwnRl w.heap.size w' v1 v2 (refJ A B) ∧ Below w.heap.size w w' := by
  obtain ⟨i0, hi, hz0, hz1, hz2⟩ := info_parts info_rowU
  obtain ⟨j0, hj, jz0, jz1, jz2⟩ := info_parts info_int
  obtain ⟨u0, hu, uz0, uz1, uz2⟩ := info_parts info_u64
  obtain ⟨W0, hW0⟩ : ∃ W, W = ((w.alloc (.cells #[va, ra] 25)).alloc (.cells #[vb, rb] 25)).alloc (.cells #[.slice none 0 0, .slice none 0 0] 25) := ⟨_, rfl⟩
  have b0 : Below w.heap.size w W0 := by rw [hW0]; exact later_trans (later_trans (later_alloc _ _) (later_alloc _ _)) (later_alloc _ _)
  have bA : RB W0 w.heap.size va ra := by rw [hW0]; exact box_alloc (box_alloc (box_new _ _ _) _) _
  have bB : RB W0 (w.heap.size + 1) vb rb := by
    rw [hW0]
    have h := box_new (w.alloc (.cells #[va, ra] 25)) #[vb, rb] 25
    rw [World.size_alloc] at h
    exact box_alloc h _
  have bC : RB W0 (w.heap.size + 1 + 1) (.slice none 0 0) (.slice none 0 0) := by
    rw [hW0]
    have h := box_new ((w.alloc (.cells #[va, ra] 25)).alloc (.cells #[vb, rb] 25)) #[.slice none 0 0, .slice none 0 0] 25
    rw [World.size_alloc, World.size_alloc] at h
    exact h
  have hAl := AloneR_any va ra vb rb A B W0 (hA.later b0) (hB.later b0) (by omega)
  have HAl := Lib.hid hAl
  have H := Lib.hid (And.intro hA (And.intro hB (And.intro hwA (And.intro hwB (And.intro hv hr)))))
  have H0 := Lib.hid (And.intro b0 (And.intro bA (And.intro bB bC)))
  obtain ⟨av, cv, rfl, -⟩ := hA.vars.open
  obtain ⟨ar, cr, rfl, ra1, ra2, -⟩ := hA.rows.open
  obtain ⟨bv, dv, rfl, -⟩ := hB.vars.open
  obtain ⟨br, dr, rfl, rb1, rb2, -⟩ := hB.rows.open
  have hAm : A.rows.length ≤ 9223372036854775807 := by omega
  have hBm : B.rows.length ≤ 9223372036854775807 := by omega
  obtain ⟨x0, x1, lX⟩ := two_of2 bA
  obtain ⟨y0, y1, lY⟩ := two_of2 bB
  clear hA hB hwA hwB hr b0 bA bB bC hAl ra1 ra2 rb1 rb2
  go_enter Try.func23, Try.ntmps23
  go_wp2_with fail
  rw [← hW0]
  clear hW0
  refine HAl.out.mono ?_
  rintro e W1 ⟨vo, rfl, hvo, b1⟩
  obtain ⟨ao, co, rfl⟩ := owns_shape2 hvo
  clear x0 x1 lX y0 y1 lY
  obtain ⟨x0, x1, lX⟩ := two_of2 (kept b1 H0.out.2.1)
  have hbw1 := later_trans H0.out.1 b1
  have hAlen : (aloneL A B).length ≤ 1048576 := by have h : (aloneL A B).length ≤ B.vars.length := List.length_filter_le _ _; omega
  have hoS : SlI .i64 W1 (.slice ao (aloneL A B).length co) (aloneL A B) := SlI.of_owns hvo (fun x hx => H.out.2.1.vars.2 x (mem_alone.1 hx).1)
  have H1 := Lib.hid (And.intro hbw1 (And.intro (kept b1 H0.out.2.1) (And.intro (kept b1 H0.out.2.2.1) (And.intro (kept b1 H0.out.2.2.2) (And.intro (H.out.1.later hbw1) (And.intro (H.out.2.1.later hbw1) hoS))))))
  clear hvo b1 hbw1 hoS HAl
  go_wp2_with fail
  clear x0 x1 lX
  go_loopw [6, 17] (fun v i wr => ∃ (k : Nat) (ps : List (Value × List Int)), k ≤ A.rows.length ∧ i = .int .i64 k ∧ OwnRK .u64 38 26 W1.heap.size wr v ps ∧ ps.map Prod.snd = rowsJ A B (A.rows.take k) ∧ Below W1.heap.size W1 wr) (fun _ i _ => A.rows.length - (intOf i).toNat)
  case atStart => exact ⟨0, [], Nat.zero_le _, rfl, OwnRK.nil _ _ _ _ _, by rw [List.take_zero]; rfl, Below.refl _ _⟩
  case round =>
    obtain ⟨k, ps, hk, rfl, hO, hps, hb⟩ := hrel
    obtain ⟨wk, rfl⟩ : ∃ W, W = wr := ⟨_, rfl⟩
    obtain ⟨a6, c6, rfl⟩ := owns_shape2 hO.own
    have hbw := later_trans H1.out.1 hb
    by_cases hlt : k < A.rows.length
    · obtain ⟨_, _, e1, _, _, _, f4⟩ := (H.out.1.rows).open
      obtain ⟨bx, ox, e2, hbb, fc⟩ := f4 (by omega)
      injection e1 with e1a e1b e1c
      subst e1a
      subst e2
      obtain ⟨rx, cx0, hrx⟩ := fc k hlt
      change SlI .u64 w rx (rowN A.rows k) at hrx
      have cx1 := cell_next hbw cx0
      have hxm : rowN A.rows k ∈ A.rows := by rw [rowN_at hlt]; exact List.getElem_mem hlt
      have hxl := H.out.2.2.1 _ hxm
      have hJn := rowsJ_next (A := A) (B := B) hlt
      obtain ⟨x, hx⟩ : ∃ x, rowN A.rows k = x := ⟨_, rfl⟩
      rw [hx] at hrx hxl hJn
      have hK := Lib.hid (And.intro hO (And.intro hps (And.intro hb (And.intro hrx (And.intro hxl (And.intro hJn hlt))))))
      obtain ⟨ax, cx, rfl, -⟩ := hrx.open
      obtain ⟨y0, y1, lY⟩ := two_of2 (kept hb H1.out.2.2.1)
      clear fc f4 hO hps hb hbw hrx cx0 hxm hxl hJn hx e1b e1c
      go_wp2_with fail
      clear y0 y1 lY cx1
      go_loopw [6, 24] (fun v i wi => ∃ (j : Nat) (qs : List (Value × List Int)), j ≤ B.rows.length ∧ i = .int .i64 j ∧ OwnRK .u64 38 26 W1.heap.size wi v qs ∧ qs.map Prod.snd = rowsJ A B (A.rows.take k) ++ rowsTo A B x (B.rows.take j) ∧ Below W1.heap.size W1 wi) (fun _ i _ => B.rows.length - (intOf i).toNat)
      case atStart => exact ⟨0, ps, Nat.zero_le _, rfl, hK.out.1, by rw [List.take_zero, hK.out.2.1]; exact (List.append_nil _).symm, hK.out.2.2.1⟩
      case round =>
        obtain ⟨j, qs, hj', rfl, hQ, hqs, hbi⟩ := hrel
        obtain ⟨a7, c7, rfl⟩ := owns_shape2 hQ.own
        have hbw := later_trans H1.out.1 (hbi)
        by_cases hlj : j < B.rows.length
        · obtain ⟨_, _, e1, _, _, _, f4⟩ := (H.out.2.1.rows).open
          obtain ⟨by', oy, e2, hbb, fc⟩ := f4 (by omega)
          injection e1 with e1a e1b e1c
          subst e1a
          subst e2
          obtain ⟨ry, cy0, hry⟩ := fc j hlj
          change SlI .u64 w ry (rowN B.rows j) at hry
          have cy1 := cell_next hbw cy0
          have hym : rowN B.rows j ∈ B.rows := by rw [rowN_at hlj]; exact List.getElem_mem hlj
          have hyl := H.out.2.2.2.1 _ hym
          have hTn := rowsTo_next (A := A) (B := B) (x := x) hlj
          obtain ⟨y, hy⟩ : ∃ y, rowN B.rows j = y := ⟨_, rfl⟩
          rw [hy] at hry hyl hTn
          have hM := MatchR_any _ _ _ _ _ _ A B x y wr (H.out.1.later hbw) (H.out.2.1.later hbw) (SlI.later hK.out.2.2.2.1 hbw) (SlI.later hry hbw) hK.out.2.2.2.2.1 hyl
          have HM := Lib.hid hM
          have hKi := Lib.hid (And.intro hQ (And.intro hqs (And.intro hbi (And.intro hry (And.intro hyl (And.intro hTn (And.intro hlj hbw)))))))
          obtain ⟨ay, cy, rfl, -⟩ := hry.open
          obtain ⟨x0, x1, lX⟩ := two_of2 (kept (hbi) H1.out.2.1)
          obtain ⟨y0, y1, lY⟩ := two_of2 (kept (hbi) H1.out.2.2.1)
          clear fc f4 hQ hqs hbi hbw hry cy0 hym hyl hTn hy e1b e1c hM
          go_wp2_with fail
          refine HM.out.mono ?_
          rintro e w3 ⟨rfl, b3⟩
          clear x0 x1 lX y0 y1 lY cy1 HM
          cases hq : mateR A B x y with
          | false =>
            have HN := Lib.hid (And.intro hq b3)
            clear hq b3
            go_wp2_with fail
            go_roundw
            case rel => exact ⟨j + 1, qs, hlj, by go_num, hKi.out.1.later HN.out.2, by rw [hKi.out.2.2.2.2.2.1, HN.out.1, hKi.out.2.1]; simp, later_trans hKi.out.2.2.1 HN.out.2⟩
            case measure => simp [intOf]; have := hKi.out.2.2.2.2.2.2.1; omega
          | true =>
            have hqlen : qs.length ≤ 1048575 := by
              have h1 := congrArg List.length hKi.out.2.1
              rw [List.length_map, List.length_append] at h1
              have h2 := rowsJ_len A B (A.rows.take k)
              rw [List.length_take, Nat.min_eq_left (Nat.le_of_lt hK.out.2.2.2.2.2.2)] at h2
              have h3 := rowsTo_len A B x (B.rows.take j)
              rw [List.length_take, Nat.min_eq_left (Nat.le_of_lt hKi.out.2.2.2.2.2.2.1)] at h3
              have h4 : (k + 1) * B.rows.length ≤ A.rows.length * B.rows.length := Nat.mul_le_mul_right _ hK.out.2.2.2.2.2.2
              rw [Nat.succ_mul] at h4
              have := H.out.2.2.2.2.2
              omega
            have hxs : x.length ≤ 1048576 := by have := hK.out.2.2.2.2.1; omega
            have hbw3 := later_trans hKi.out.2.2.2.2.2.2.2 b3
            have hb13 := later_trans (hKi.out.2.2.1) b3
            have HCl : Hid (∀ U, Below w3.heap.size w3 U → Calls Try.prog 41 #[relV (.slice bv B.vars.length dv) (.slice (some ⟨by', oy, none⟩) B.rows.length dr), .slice ay y.length cy, .slice ao (aloneL A B).length co] U fun e w' => ∃ v', e = .returned v' ∧ w'.ownsRow U.heap.size 38 1 v' (aloneL A B).length (((aloneL A B).map (valZ B.vars y)).map (Value.int .u64)) ∧ Below U.heap.size U w') := Lib.hid (fun U hb => CellsR_any _ _ _ _ B y (aloneL A B) U (H.out.2.1.later (later_trans hbw3 hb)) (SlI.later hKi.out.2.2.2.1 (later_trans hbw3 hb)) hKi.out.2.2.2.2.1 (SlI.later H1.out.2.2.2.2.2.2 (later_trans hb13 hb)) hAlen)
            have HXr : Hid (∀ U, Below w3.heap.size w3 U → SlC U (.slice ax x.length cx) (x.map (Value.int .u64))) := Lib.hid (fun U hb => (SlI.later hK.out.2.2.2.1 (later_trans hbw3 hb)).1)
            have HRw : Hid (∀ U, Below w3.heap.size w3 U → U.ownsRow W1.heap.size 26 1 (.slice a7 qs.length c7) qs.length (qs.map Prod.fst)) := Lib.hid (fun U hb => owns_later hKi.out.1.own (later_trans b3 hb))
            have HOneX : Hid (∀ u ∈ x.map (Value.int .u64), u.oneCell' = true) := Lib.hid (fun u hu => by obtain ⟨z, -, rfl⟩ := List.mem_map.1 hu; rfl)
            have HLenX : Hid ((x.map (Value.int .u64)).length = x.length) := Lib.hid (List.length_map _)
            have HOneC : Hid (∀ u ∈ ((aloneL A B).map (valZ B.vars y)).map (Value.int .u64), u.oneCell' = true) := Lib.hid (fun u hu => by obtain ⟨z, -, rfl⟩ := List.mem_map.1 hu; rfl)
            have HLenC : Hid ((((aloneL A B).map (valZ B.vars y)).map (Value.int .u64)).length = (aloneL A B).length) := Lib.hid (by rw [List.length_map, List.length_map])
            have HE1 : Hid ((w3.alloc (.cells #[] 38)).drew.ownsRow w3.heap.size 38 1 (.slice (some ⟨w3.heap.size, 0, none⟩) 0 0) 0 []) := Lib.hid (World.ownsRow_made w3 #[] 0 (Nat.le_refl _) (Nat.zero_le _) rfl)
            have bU1 : Below w3.heap.size w3 (w3.alloc (.cells #[] 38)).drew := later_trans (later_alloc _ _) (later_drew _)
            have HU1 := Lib.hid (And.intro bU1 bU1.size)
            have HN := Lib.hid (And.intro hq (And.intro b3 (And.intro hb13 hbw3)))
            have hz3 := hb13.size
            obtain ⟨y0, y1, lY⟩ := two_of2 (kept b3 (kept (hKi.out.2.2.1) H1.out.2.2.1))
            have HY3 := Lib.hid (kept b3 (kept (hKi.out.2.2.1) H1.out.2.2.1))
            clear hq b3 bU1 hb13 hbw3
            go_wp2_with fail
            go_region_law (first
              | (go_simp; refine (HCl.out _ HA.out.2).mono ?_; rintro e U3 ⟨vC, rfl, hoC, bC⟩; obtain ⟨aC, cC, rfl⟩ := owns_shape2 hoC; have HC := Lib.hid (And.intro (owns_later HA.out.1 bC) (And.intro hoC (later_trans HA.out.2 bC))); clear hoC bC)
              | (refine step_append_sl rfl (.tmp 34) (.tmp 35) 26 rfl 38 u0 _ 8 w3.heap.size Try.underlying26 hu uz0 uz1 uz2 rfl _ 0 x.length x.length [] rfl HF.out.1 _ (x.map (Value.int .u64)) rfl (HXr.out _ HF.out.2.2.1) HOneX.out HLenX.out (Nat.zero_add _) (by unfold maxLen; omega) (by omega) HF.out.2.2.2 ?_; intro a1 c1 U2 own1 grow1; rw [List.nil_append] at own1; have HC := Lib.hid (HF.out.2.1 _ _ _ own1 grow1); clear own1 grow1)
              | (refine step_append_sl rfl (.tmp 34) (.tmp 35) 26 rfl 38 u0 _ 8 w3.heap.size Try.underlying26 hu uz0 uz1 uz2 rfl _ 0 x.length x.length [] rfl HG.out.1 _ (x.map (Value.int .u64)) rfl (HXr.out _ HG.out.2.2.1) HOneX.out HLenX.out (Nat.zero_add _) (by unfold maxLen; omega) (by omega) HG.out.2.2.2 ?_; intro a1 c1 U2 own1 grow1; rw [List.nil_append] at own1; have HC := Lib.hid (HG.out.2.1 _ _ _ own1 grow1); clear own1 grow1)
              | (refine step_append_sl rfl (.tmp 34) (.tmp 35) 26 rfl 38 u0 _ 8 w3.heap.size Try.underlying26 hu uz0 uz1 uz2 rfl _ 0 x.length x.length [] rfl HE1.out _ (x.map (Value.int .u64)) rfl (HXr.out _ HU1.out.1) HOneX.out HLenX.out (Nat.zero_add _) (by unfold maxLen; omega) (by omega) HU1.out.2 ?_; intro a1 c1 U2 own1 grow1; rw [List.nil_append] at own1; have b2 : Below w3.heap.size w3 U2 := HU1.out.1.grown grow1 HU1.out.2 (fun k e => (HE1.out.lt k e).1); have HA := Lib.hid (And.intro own1 b2); obtain ⟨y2, y3, lY2⟩ := two_of2 (kept b2 HY3.out); clear own1 grow1 b2)
              | (refine step_append_sl rfl (.tmp 36) (.tmp 40) 26 rfl 38 u0 _ 8 w3.heap.size Try.underlying26 hu uz0 uz1 uz2 rfl (.slice a1 x.length c1) x.length (aloneL A B).length (x.length + (aloneL A B).length) _ rfl HC.out.1 _ (((aloneL A B).map (valZ B.vars y)).map (Value.int .u64)) rfl (SlC.of_owns HC.out.2.1) HOneC.out HLenC.out rfl (by unfold maxLen; omega) (by omega) HC.out.2.2.size ?_; intro a2 c2 U4 own2 grow2; have b4 : Below w3.heap.size w3 U4 := HC.out.2.2.grown grow2 HC.out.2.2.size (fun k e => owns_above HC.out.1 k e); have HD := Lib.hid (And.intro own2 (And.intro b4 (HRw.out _ (later_trans b4 (later_alloc U4 (.cells #[.slice a2 (x.length + (aloneL A B).length) c2] 26)))))); have hz4 := b4.size; clear own2 grow2 b4)
              | (refine step_append_lies _ rfl (.tmp 33) (.tmp 42) 23 rfl W1.heap.size 26 i0 _ 1 24 Try.underlying23 hi hz0 hz1 hz2 rfl (by decide) (.slice a7 qs.length c7) qs.length _ rfl HD.out.2.2 ⟨U4.heap.size, 0, none⟩ 1 1 [.slice a2 (x.length + (aloneL A B).length) c2] rfl rfl (cells_new _ _ _) (by simp [Value.oneCell']) (by omega) (by unfold maxLen; omega) (by omega) (by simp; omega) _ rfl ?_; intro g6 cap6 w6 hown6 hgrow6 hat6 hlt6)
              | (go_simp; refine (HCl.out _ HU1.out.1).mono ?_; rintro e U3 ⟨vC, rfl, hoC, bC⟩; obtain ⟨aC, cC, rfl⟩ := owns_shape2 hoC; have hb3U : Below w3.heap.size w3 U3 := later_trans HU1.out.1 bC; have he3 := owns_later HE1.out bC; have HF := Lib.hid (And.intro he3 (And.intro (show ∀ (a' : Option Addr) (c' : Nat) (V : World), V.ownsRow w3.heap.size 38 1 (.slice a' x.length c') x.length (x.map (Value.int .u64)) → U3.grownBy V (Value.slice (some ⟨w3.heap.size, 0, none⟩) 0 0).ownBlock → V.ownsRow w3.heap.size 38 1 (.slice a' x.length c') x.length (x.map (Value.int .u64)) ∧ V.ownsRow w3.heap.size 38 1 (.slice aC (aloneL A B).length cC) (aloneL A B).length (((aloneL A B).map (valZ B.vars y)).map (Value.int .u64)) ∧ Below w3.heap.size w3 V from fun a' c' V own1 grow1 => ⟨own1, own_apart grow1 (owns_down hoC HU1.out.2) (fun g h1 h2 => by have q1 := owns_above hoC g h1; have q2 : w3.heap.size = g := by simpa [Value.ownBlock] using h2; have q3 : (w3.alloc (.cells #[] 38)).drew.heap.size = w3.heap.size + 1 := World.size_alloc _ _; omega), hb3U.grown grow1 hb3U.size (fun k e => (he3.lt k e).1)⟩) (And.intro hb3U hb3U.size))); clear hoC bC hb3U he3)
              | (go_simp; refine (HCl.out _ (later_drew _)).mono ?_; rintro e U3 ⟨vC, rfl, hoC, bC⟩; obtain ⟨aC, cC, rfl⟩ := owns_shape2 hoC; have hb3U : Below w3.heap.size w3 U3 := later_trans (later_drew _) bC; have hb3V : Below w3.heap.size w3 (U3.alloc (.cells #[] 38)) := later_trans hb3U (later_alloc _ _); have he3 : (U3.alloc (.cells #[] 38)).ownsRow w3.heap.size 38 1 (.slice (some ⟨U3.heap.size, 0, none⟩) 0 0) 0 [] := World.ownsRow_made U3 #[] 0 hb3U.size (Nat.zero_le _) rfl; have HG := Lib.hid (And.intro he3 (And.intro (show ∀ (a' : Option Addr) (c' : Nat) (V : World), V.ownsRow w3.heap.size 38 1 (.slice a' x.length c') x.length (x.map (Value.int .u64)) → (U3.alloc (.cells #[] 38)).grownBy V (Value.slice (some ⟨U3.heap.size, 0, none⟩) 0 0).ownBlock → V.ownsRow w3.heap.size 38 1 (.slice a' x.length c') x.length (x.map (Value.int .u64)) ∧ V.ownsRow w3.heap.size 38 1 (.slice aC (aloneL A B).length cC) (aloneL A B).length (((aloneL A B).map (valZ B.vars y)).map (Value.int .u64)) ∧ Below w3.heap.size w3 V from fun a' c' V own1 grow1 => ⟨own1, own_apart grow1 (owns_down (owns_later hoC (later_alloc _ _)) (later_drew w3).size) (fun g h1 h2 => by have q1 := (hoC.lt g h1).2; have q2 : U3.heap.size = g := by simpa [Value.ownBlock] using h2; omega), hb3V.grown grow1 hb3V.size (fun k e => (he3.lt k e).1)⟩) (And.intro hb3V hb3V.size))); clear hoC bC hb3U hb3V he3))
            all_goals go_wp2_with fail
            all_goals go_roundw
            all_goals first
              | (simp [intOf]; have := hKi.out.2.2.2.2.2.2.1; omega)
              | (refine ⟨j + 1, qs ++ [(.slice a2 (x.length + (aloneL A B).length) c2, x ++ (aloneL A B).map (valZ B.vars y))], hKi.out.2.2.2.2.2.2.1, by go_num, ?_, ?_, ?_⟩
                 · refine OwnRK.next (by decide) hKi.out.1 (later_trans HN.out.2.1 HD.out.2.1) (by rw [List.map_append]; exact owns_down HD.out.1 hz3) (by rw [List.length_append, List.length_map]) (fun z hz => ?_) hown6 hgrow6
                   rcases List.mem_append.1 hz with q | q
                   · exact hK.out.2.2.2.1.2 z q
                   · obtain ⟨v, -, rfl⟩ := List.mem_map.1 q
                     exact valZ_wf hKi.out.2.2.2.1.2 v
                 · rw [List.map_append, hKi.out.2.1, hKi.out.2.2.2.2.2.1, HN.out.1, if_pos rfl, List.append_assoc]
                   rfl
                 · exact (later_trans HN.out.2.2.1 (later_trans HD.out.2.1 (later_alloc U4 _))).grown hgrow6 (Nat.le_trans hz3 (Nat.le_trans hz4 (by simp))) (fun k e => owns_above hKi.out.1.own k e))
        · obtain rfl : j = B.rows.length := by omega
          rw [List.take_length] at hqs
          have HE := Lib.hid (And.intro hQ (And.intro (show qs.map Prod.snd = rowsJ A B (A.rows.take (k + 1)) by rw [hqs, hK.out.2.2.2.2.2.1]) hbi))
          clear hQ hqs hbi hbw
          go_wp2_with fail
          go_roundw
          case rel => exact ⟨k + 1, qs, hK.out.2.2.2.2.2.2, by go_num, HE.out.1, HE.out.2.1, HE.out.2.2⟩
          case measure => simp [intOf]; have := hK.out.2.2.2.2.2.2; omega
    · obtain rfl : k = A.rows.length := by omega
      rw [List.take_length] at hps
      have HE := Lib.hid (And.intro hO (And.intro hps (And.intro hb hbw)))
      obtain ⟨x0, x1, lX⟩ := two_of2 (kept hb H1.out.2.1)
      clear hO hps hb hbw
      have HOne1 : Hid (∀ u ∈ A.vars.map (Value.int .i64), u.oneCell' = true) := Lib.hid (fun u hu => by obtain ⟨z, -, rfl⟩ := List.mem_map.1 hu; rfl)
      have HOne2 : Hid (∀ u ∈ (aloneL A B).map (Value.int .i64), u.oneCell' = true) := Lib.hid (fun u hu => by obtain ⟨z, -, rfl⟩ := List.mem_map.1 hu; rfl)
      have HLen1 : Hid ((A.vars.map (Value.int .i64)).length = A.vars.length) := Lib.hid (List.length_map _)
      have HLen2 : Hid (((aloneL A B).map (Value.int .i64)).length = (aloneL A B).length) := Lib.hid (List.length_map _)
      have hvl : A.vars.length ≤ 1048576 := by omega
      have HS1 : Hid (∀ U, Below wk.heap.size wk U → SlC U (.slice av A.vars.length cv) (A.vars.map (Value.int .i64))) := Lib.hid (fun U hb => (SlI.later H.out.1.vars (later_trans HE.out.2.2.2 hb)).1)
      have HS2 : Hid (∀ U, Below wk.heap.size wk U → SlC U (.slice ao (aloneL A B).length co) ((aloneL A B).map (Value.int .i64))) := Lib.hid (fun U hb => (SlI.later H1.out.2.2.2.2.2.2 (later_trans HE.out.2.2.1 hb)).1)
      have HM0 : Hid ((wk.alloc (.cells #[] 3)).ownsRow wk.heap.size 3 1 (.slice (some ⟨wk.heap.size, 0, none⟩) 0 0) 0 []) := Lib.hid (World.ownsRow_made wk #[] 0 (Nat.le_refl _) (Nat.zero_le _) rfl)
      have HB0 : Hid (Below wk.heap.size wk (wk.alloc (.cells #[] 3))) := Lib.hid (later_alloc _ _)
      go_wp2_with (at_builtin; first
        | (refine wpList_append_sl2 _ rfl (.tmp 49) (.tmp 50) 22 rfl 3 j0 _ 8 wk.heap.size Try.underlying22 hj jz0 jz1 jz2 rfl (.slice a1 A.vars.length c1) A.vars.length (aloneL A B).length (A.vars.length + (aloneL A B).length) _ rfl HA.out.1 _ ((aloneL A B).map (Value.int .i64)) rfl (HS2.out _ HA.out.2) HOne2.out HLen2.out rfl (by unfold maxLen; omega) (by omega) HA.out.2.size ?_; intro a2 c2 U3 own2 grow2; have b3 := HA.out.2.grown grow2 HA.out.2.size (fun k e => owns_above HA.out.1 k e); have HD := Lib.hid (And.intro own2 b3); clear own2 grow2 b3)
        | (refine wpList_append_sl2 _ rfl (.tmp 46) (.tmp 48) 22 rfl 3 j0 _ 8 wk.heap.size Try.underlying22 hj jz0 jz1 jz2 rfl _ 0 A.vars.length A.vars.length [] rfl HM0.out _ (A.vars.map (Value.int .i64)) rfl (HS1.out _ HB0.out) HOne1.out HLen1.out (Nat.zero_add _) (by unfold maxLen; omega) (by omega) HB0.out.size ?_; intro a1 c1 U2 own1 grow1; rw [List.nil_append] at own1; have b2 := HB0.out.grown grow1 HB0.out.size (fun k e => (HM0.out.lt k e).1); have HA := Lib.hid (And.intro own1 b2); clear own1 grow1 b2))
      have hrw := (HE.out.1.later HD.out.2).slR
      rw [HE.out.2.1] at hrw
      have hoU := HE.out.1.later HD.out.2
      have hpl : (rowsJ A B A.rows).length = ps.length := by rw [← HE.out.2.1, List.length_map]
      refine (OfR2_any _ _ (A.vars ++ aloneL A B).length (rowsJ A B A.rows) U3 (fun u => ∃ p ∈ ps, u = p.1) (fun b o m c e k hk u hu => by
        rw [hpl] at hk
        obtain ⟨g, e2, hc⟩ := owns_at hoU.own (j := k) (by simpa using hk)
        injection e with q1 q2 q3
        rw [q1] at e2
        cases e2
        rw [Nat.zero_add] at hu
        rw [hu] at hc
        exact ⟨ps[k], List.getElem_mem hk, by simpa using hc⟩) ⟨_, _, _, rfl⟩ hrw (refJ_wd H.out.2.2.1) (by have h1 := rowsJ_len A B A.rows; have h2 := H.out.2.2.2.2.2; omega)).mono ?_
      rintro e U4 ⟨v', vs', rfl, hO4, hPs, b4⟩
      obtain ⟨a8, c8, rfl⟩ := owns_shape2 hO4.own
      clear x0 x1 lX
      have hbx := kept (later_trans HE.out.2.2.1 (later_trans HD.out.2 b4)) H1.out.2.2.2.1
      obtain ⟨x0, x1, lX⟩ := two_of2 hbx
      have fX0 := box_frozen (i := 0) hbx
      have fX1 := box_frozen (i := 1) hbx
      have hb2 := box_set (i := 0) hbx (.slice a2 (A.vars.length + (aloneL A B).length) c2)
      have hb3 := box_set (i := 1) hb2 (.slice a8 vs'.length c8)
      have d0 := box_cell (i := 0) hb3
      have d1 := box_cell (i := 1) hb3
      simp at d0 d1
      have hov : World.ownsRow ((U4.setCell ⟨w.heap.size + 1 + 1, 0, none⟩ (.slice a2 (A.vars.length + (aloneL A B).length) c2)).setCell ⟨w.heap.size + 1 + 1, 1, none⟩ (.slice a8 vs'.length c8)) w.heap.size 3 1 (.slice a2 (A.vars.length + (aloneL A B).length) c2) (A.vars ++ aloneL A B).length ((A.vars ++ aloneL A B).map (Value.int .i64)) := by
        have h1 := own_set (i := 1) (own_set (i := 0) (owns_later HD.out.1 b4) hbx (by decide) (.slice a2 (A.vars.length + (aloneL A B).length) c2)) hb2 (by decide) (.slice a8 vs'.length c8)
        rw [← List.map_append] at h1
        rw [List.length_append]
        exact owns_down h1 HE.out.2.2.2.size
      have hor : OldRows ((U4.setCell ⟨w.heap.size + 1 + 1, 0, none⟩ (.slice a2 (A.vars.length + (aloneL A B).length) c2)).setCell ⟨w.heap.size + 1 + 1, 1, none⟩ (.slice a8 vs'.length c8)) w.heap.size ((U4.setCell ⟨w.heap.size + 1 + 1, 0, none⟩ (.slice a2 (A.vars.length + (aloneL A B).length) c2)).setCell ⟨w.heap.size + 1 + 1, 1, none⟩ (.slice a8 vs'.length c8)) (.slice a8 vs'.length c8) vs' (ofL (rowsJ A B A.rows)) := by
        have h1 := (hO4.setO (i := 0) hbx (.slice a2 (A.vars.length + (aloneL A B).length) c2)).setO (i := 1) hb2 (.slice a8 vs'.length c8)
        refine ⟨owns_down h1.own (later_trans HE.out.2.2.2 HD.out.2).size, h1.len, fun r hr => ?_⟩
        exact SlI.setR (i := 1) (SlI.setR (i := 0) (SlI.later (hO4.rows r hr) b4) hbx (fun z q => by cases q) (fun z q => by cases q) _) hb2 (fun z q => by cases q) (fun z q => by cases q) _
      have hw1 : w.heap.size ≤ W1.heap.size := H1.out.1.size
      have hrows := hor.own_rows (fun x hx => by
        obtain ⟨p, hp, rfl⟩ := hPs x hx
        obtain ⟨h1, h2⟩ := hoU.rows p hp
        exact ⟨p.2, owns_down (own_set (i := 1) (own_set (i := 0) (owns_later h1 b4) hbx (by decide) _) hb2 (by decide) _) hw1, h2⟩)
      have hbF := below_set (i := 1) (u := .slice a8 vs'.length c8) (below_set (i := 0) (u := .slice a2 (A.vars.length + (aloneL A B).length) c2) (later_trans HE.out.2.2.2 (later_trans HD.out.2 b4)) (show w.heap.size ≤ w.heap.size + 1 + 1 by omega)) (show w.heap.size ≤ w.heap.size + 1 + 1 by omega)
      have HF := Lib.hid (And.intro (show OwnRl w.heap.size _ _ _ (refJ A B) from ⟨hov, fun z hz => by
          rcases List.mem_append.1 hz with q | q
          · exact H.out.1.vars.2 z q
          · exact H.out.2.1.vars.2 z (mem_alone.1 q).1, hrows⟩) hbF)
      clear hov hor hbF hb2 hb3 hO4 b4 hrw hbx hoU hpl hPs hrows
      go_wp2_with fail
      refine bodyPost_ret (v := relV (.slice a2 (A.vars.length + (aloneL A B).length) c2) (.slice a8 vs'.length c8)) (by simp [results, Try.results23, go_sem, d0, d1]) rfl ?_
      exact ⟨_, _, rfl, HF.out.1, HF.out.2⟩
set_option maxRecDepth 100000 in
set_option maxHeartbeats 1000000 in
/-- The relation without columns that has a row. -/
theorem One_any (w : World) : Calls Try.prog 25 #[] w fun e w' => ∃ v1 v2, e = .returned (relV v1 v2) ∧ OwnRl w.heap.size w' v1 v2 oneL ∧ Below w.heap.size w w' := by
  go_enter Try.func25, Try.ntmps25
  go_wp2_with fail
  obtain ⟨W, hW⟩ : ∃ W, W = ((w.alloc (.cells #[.slice none 0 0, .slice (some ⟨w.heap.size + 1 + 1, 0, none⟩) 1 1] 25)).alloc (.cells #[] 38)).alloc (.cells #[.slice (some ⟨w.heap.size + 1, 0, none⟩) 0 0] 26) := ⟨_, rfl⟩
  have h0 : RB W w.heap.size (.slice none 0 0) (.slice (some ⟨w.heap.size + 1 + 1, 0, none⟩) 1 1) := by rw [hW]; exact box_alloc (box_alloc (box_new _ _ _) _) _
  have h1 : W.ownsRow w.heap.size 38 1 (.slice (some ⟨w.heap.size + 1, 0, none⟩) 0 0) 0 (([] : List Int).map (Value.int .u64)) := by
    rw [hW]
    have h := (World.ownsRow_made (base := w.heap.size) (e := 38) (size := 1) (w.alloc (.cells #[.slice none 0 0, .slice (some ⟨w.heap.size + 1 + 1, 0, none⟩) 1 1] 25)) #[] 0 (by simp) (Nat.zero_le _) rfl).alloc (.cells #[.slice (some ⟨w.heap.size + 1, 0, none⟩) 0 0] 26)
    rw [World.size_alloc] at h
    exact h
  have h3 : W.ownsRow w.heap.size 26 1 (.slice (some ⟨w.heap.size + 1 + 1, 0, none⟩) 1 1) 1 [.slice (some ⟨w.heap.size + 1, 0, none⟩) 0 0] := by
    rw [hW]
    have h := World.ownsRow_lit (base := w.heap.size) (e := 26) (size := 1) ((w.alloc (.cells #[.slice none 0 0, .slice (some ⟨w.heap.size + 1 + 1, 0, none⟩) 1 1] 25)).alloc (.cells #[] 38)) #[.slice (some ⟨w.heap.size + 1, 0, none⟩) 0 0] 1 (by simp; omega) (by decide) rfl
    rw [World.size_alloc, World.size_alloc] at h
    exact h
  have hb : Below w.heap.size w W := by rw [hW]; exact later_trans (later_trans (later_alloc _ _) (later_alloc _ _)) (later_alloc _ _)
  have d0 := box_cell (i := 0) h0
  have d1 := box_cell (i := 1) h0
  simp at d0 d1
  rw [← hW]
  clear hW
  refine bodyPost_ret (v := relV (.slice none 0 0) (.slice (some ⟨w.heap.size + 1 + 1, 0, none⟩) 1 1)) (by simp [results, Try.results25, go_sem, d0, d1]) rfl ?_
  refine ⟨_, _, rfl, ⟨World.ownsRow_nil _ _ _ _, fun x hx => (by cases hx), [(.slice (some ⟨w.heap.size + 1, 0, none⟩) 0 0, [])], ⟨h3, fun p hp => ?_⟩, rfl⟩, hb⟩
  obtain rfl := List.mem_singleton.1 hp
  exact ⟨h1, fun x hx => by cases hx⟩
end
/-! ## XHaRh1 -/
section
open Go.RowKit
set_option linter.unusedVariables false
set_option linter.unusedSimpArgs false

theorem RlR.shape {W : World} {v1 v2 : Value} {R : Rl} (h : RlR W v1 v2 R) : ∃ a c b d, v1 = .slice a R.vars.length c ∧ v2 = .slice b R.rows.length d := by
  obtain ⟨a, c, e, -⟩ := h.vars.open
  obtain ⟨b, d, e', -⟩ := h.rows.open
  exact ⟨a, c, b, d, e, e'⟩
/-- The document's rows that match one. -/
def semiTo (A B : Rl) (xs : List (List Int)) : List (List Int) := xs.filter fun x => B.rows.any (mateR A B x)
def refS (A B : Rl) : Rl := ⟨A.vars, semiTo A B A.rows⟩
theorem refS_eq {A B : Rl} (hA : Ok A) (hB : Ok B) : refS A B = semiL A B := by
  have hs := semi_ok hA hB
  have hw : Wd A.vars.length (semiTo A B A.rows) := fun r hr => hA.wd r (List.mem_filter.1 hr).1
  unfold refS
  have e : semiTo A B A.rows = (semiL A B).rows := by
    refine rise_unique hw hs.wd (hA.rise.filter _) hs.rise fun x => ?_
    rw [semi_rows hA hB]
    unfold semiTo
    rw [List.mem_filter, List.any_eq_true]
    constructor
    · rintro ⟨h1, y, h2, h3⟩
      exact ⟨h1, y, h2, mateR_iff.1 h3⟩
    · rintro ⟨h1, y, h2, h3⟩
      exact ⟨h1, y, h2, mateR_iff.2 h3⟩
  rw [e]
  rfl
set_option maxRecDepth 100000 in
set_option maxHeartbeats 8000000 in
theorem SemiRf_any (va ra vb rb : Value) (A B : Rl) (w : World) (hA : RlR w va ra A) (hB : RlR w vb rb B) (hwA : Wd A.vars.length A.rows) (hwB : Wd B.vars.length B.rows) (hr : A.rows.length ≤ 1048576) :
    Calls Try.prog 24 #[relV va ra, relV vb rb] w fun e w' => ∃ v1 v2, e = .returned (relV v1 v2) ∧ RlR w' v1 v2 (refS A B) ∧ Below w.heap.size w w' := by
  obtain ⟨i0, hi, hz0, hz1, hz2⟩ := info_parts info_rowU
  obtain ⟨W0, hW0⟩ : ∃ W, W = (((w.alloc (.cells #[va, ra] 25)).alloc (.cells #[vb, rb] 25)).alloc (.cells #[.slice none 0 0, .slice none 0 0] 25)).alloc (.cells #[va, .slice none 0 0] 25) := ⟨_, rfl⟩
  have b0 : Below w.heap.size w W0 := by rw [hW0]; exact later_trans (later_trans (later_trans (later_alloc _ _) (later_alloc _ _)) (later_alloc _ _)) (later_alloc _ _)
  have bA : RB W0 w.heap.size va ra := by rw [hW0]; exact box_alloc (box_alloc (box_alloc (box_new _ _ _) _) _) _
  have bB : RB W0 (w.heap.size + 1) vb rb := by
    rw [hW0]
    have h := box_new (w.alloc (.cells #[va, ra] 25)) #[vb, rb] 25
    rw [World.size_alloc] at h
    exact box_alloc (box_alloc h _) _
  have bC : RB W0 (w.heap.size + 1 + 1) (.slice none 0 0) (.slice none 0 0) := by
    rw [hW0]
    have h := box_new ((w.alloc (.cells #[va, ra] 25)).alloc (.cells #[vb, rb] 25)) #[.slice none 0 0, .slice none 0 0] 25
    rw [World.size_alloc, World.size_alloc] at h
    exact box_alloc h _
  have bD : RB W0 (w.heap.size + 1 + 1 + 1) va (.slice none 0 0) := by
    rw [hW0]
    have h := box_new (((w.alloc (.cells #[va, ra] 25)).alloc (.cells #[vb, rb] 25)).alloc (.cells #[.slice none 0 0, .slice none 0 0] 25)) #[va, .slice none 0 0] 25
    rw [World.size_alloc, World.size_alloc, World.size_alloc] at h
    exact h
  have H := Lib.hid (And.intro hA (And.intro hB (And.intro hwA (And.intro hwB hr))))
  have H0 := Lib.hid (And.intro b0 (And.intro bA (And.intro bB (And.intro bC bD))))
  obtain ⟨av, cv, rfl, -⟩ := hA.vars.open
  obtain ⟨ar, cr, rfl, -⟩ := hA.rows.open
  obtain ⟨bv, dv, rfl, -⟩ := hB.vars.open
  obtain ⟨br, dr, rfl, rb1, rb2, -⟩ := hB.rows.open
  have hBm : B.rows.length ≤ 9223372036854775807 := by omega
  have hAm : A.rows.length ≤ 9223372036854775807 := by omega
  obtain ⟨x0, x1, lX⟩ := two_of2 bA
  clear hA hB hwA hwB b0 bA bB bC bD rb1 rb2
  go_enter Try.func24, Try.ntmps24
  go_wp2_with fail
  try rw [← hW0]
  clear hW0 x0 x1 lX
  go_loopw [17] (fun i wr => ∃ (k : Nat) (v : Value) (vs : List Value), k ≤ A.rows.length ∧ i = .int .i64 k ∧ RB wr (w.heap.size + 1 + 1 + 1) (.slice av A.vars.length cv) v ∧ OldRows w w.heap.size wr v vs (semiTo A B (A.rows.take k)) ∧ RB wr w.heap.size (.slice av A.vars.length cv) (.slice ar A.rows.length cr) ∧ RB wr (w.heap.size + 1) (.slice bv B.vars.length dv) (.slice br B.rows.length dr) ∧ RB wr (w.heap.size + 1 + 1) (.slice none 0 0) (.slice none 0 0) ∧ Below w.heap.size w wr) (fun i _ => A.rows.length - (intOf i).toNat)
  case atStart => exact ⟨0, _, [], Nat.zero_le _, rfl, H0.out.2.2.2.2, OldRows.nilO _ _ _, H0.out.2.1, H0.out.2.2.1, H0.out.2.2.2.1, H0.out.1⟩
  case round =>
    obtain ⟨k, v, vs, hk, rfl, hX, hO, hTA, hTB, hR, hb⟩ := hrel
    obtain ⟨wk, rfl⟩ : ∃ W, W = wr := ⟨_, rfl⟩
    obtain ⟨a7, c7, rfl⟩ := owns_shape2 hO.own
    by_cases hlt : k < A.rows.length
    · obtain ⟨_, _, e1, _, _, _, f4⟩ := (H.out.1.rows).open
      obtain ⟨bx, ox, e2, hbb, fc⟩ := f4 (by omega)
      injection e1 with e1a e1b e1c
      subst e1a
      subst e2
      obtain ⟨rx, cx0, hrx⟩ := fc k hlt
      change SlI .u64 w rx (rowN A.rows k) at hrx
      have cx1 := cell_next hb cx0
      have hxm : rowN A.rows k ∈ A.rows := by rw [rowN_at hlt]; exact List.getElem_mem hlt
      have hxl := H.out.2.2.1 _ hxm
      have hSn : semiTo A B (A.rows.take (k + 1)) = semiTo A B (A.rows.take k) ++ if B.rows.any (mateR A B (rowN A.rows k)) = true then [rowN A.rows k] else [] := by
        unfold semiTo
        rw [List.take_succ_eq_append_getElem hlt, List.filter_append, ← rowN_at hlt]
        simp [List.filter_cons]
      obtain ⟨x, hx⟩ : ∃ x, rowN A.rows k = x := ⟨_, rfl⟩
      rw [hx] at hrx hxl hSn
      have hvl : vs.length ≤ k := by rw [hO.len]; exact Nat.le_trans (List.length_filter_le _ _) (by rw [List.length_take]; omega)
      have hone := old_oneCell hrx
      have hK := Lib.hid (And.intro hX (And.intro hO (And.intro hTA (And.intro hTB (And.intro hR (And.intro hb (And.intro hrx (And.intro hxl (And.intro hSn hlt)))))))))
      obtain ⟨ax, cx, rfl, -⟩ := hrx.open
      obtain ⟨y0, y1, lY⟩ := two_of2 hTB
      clear fc f4 hX hO hTA hTB hR hb hrx cx0 hxm hxl hSn hx e1b e1c
      go_wp2_with fail
      clear y0 y1 lY cx1
      go_loopw [8, 24] (fun m i wi => ∃ j : Nat, j ≤ B.rows.length ∧ i = .int .i64 j ∧ m = .bool ((B.rows.take j).any (mateR A B x)) ∧ Below wk.heap.size wk wi) (fun _ i _ => B.rows.length - (intOf i).toNat)
      case atStart => exact ⟨0, Nat.zero_le _, rfl, by rw [List.take_zero]; rfl, Below.refl _ _⟩
      case round =>
        obtain ⟨j, hj', rfl, rfl, hbi⟩ := hrel
        by_cases hlj : j < B.rows.length
        · obtain ⟨_, _, e1, _, _, _, f4⟩ := (H.out.2.1.rows).open
          obtain ⟨by', oy, e2, hbb, fc⟩ := f4 (by omega)
          injection e1 with e1a e1b e1c
          subst e1a
          subst e2
          obtain ⟨ry, cy0, hry⟩ := fc j hlj
          change SlI .u64 w ry (rowN B.rows j) at hry
          have hbw := later_trans hK.out.2.2.2.2.2.1 hbi
          have cy1 := cell_next hbw cy0
          have hym : rowN B.rows j ∈ B.rows := by rw [rowN_at hlj]; exact List.getElem_mem hlj
          have hyl := H.out.2.2.2.1 _ hym
          have hAn : (B.rows.take (j + 1)).any (mateR A B x) = ((B.rows.take j).any (mateR A B x) || mateR A B x (rowN B.rows j)) := by
            rw [List.take_succ_eq_append_getElem hlj, List.any_append, ← rowN_at hlj]
            simp
          obtain ⟨y, hy⟩ : ∃ y, rowN B.rows j = y := ⟨_, rfl⟩
          rw [hy] at hry hyl hAn
          have hM := MatchR_any _ _ _ _ _ _ A B x y wr (H.out.1.later hbw) (H.out.2.1.later hbw) (SlI.later hK.out.2.2.2.2.2.2.1 hbw) (SlI.later hry hbw) hK.out.2.2.2.2.2.2.2.1 hyl
          have HM := Lib.hid hM
          obtain ⟨m, hm⟩ : ∃ m, (B.rows.take j).any (mateR A B x) = m := ⟨_, rfl⟩
          rw [hm] at hAn ⊢
          have hKi := Lib.hid (And.intro hbi (And.intro hAn hlj))
          obtain ⟨ay, cy, rfl, -⟩ := hry.open
          obtain ⟨x0, x1, lX⟩ := two_of2 (kept hbi hK.out.2.2.1)
          obtain ⟨y0, y1, lY⟩ := two_of2 (kept hbi hK.out.2.2.2.1)
          clear fc f4 hbi hbw hry cy0 hym hyl hAn hy e1b e1c hM hm
          cases m with
          | true =>
            go_wp2_with fail
            go_roundw
            case rel => exact ⟨j + 1, hlj, by go_num, by rw [hKi.out.2.1]; rfl, hKi.out.1⟩
            case measure => simp [intOf]; have := hKi.out.2.2; omega
          | false =>
            go_wp2_with fail
            refine HM.out.mono ?_
            rintro e w3 ⟨rfl, b3⟩
            have HN := Lib.hid b3
            clear b3
            go_wp2_with fail
            go_roundw
            case rel => exact ⟨j + 1, hlj, by go_num, by rw [hKi.out.2.1]; rfl, later_trans hKi.out.1 HN.out⟩
            case measure => simp [intOf]; have := hKi.out.2.2; omega
        · obtain rfl : j = B.rows.length := by omega
          rw [List.take_length]
          have HI := Lib.hid hbi
          have hX := kept hbi hK.out.1
          obtain ⟨x0, x1, lX⟩ := two_of2 hX
          have fX1 := box_frozen (i := 1) hX
          have HX := Lib.hid (And.intro hX (kept hbi hK.out.2.2.2.2.1))
          have hO := hK.out.2.1.laterO hbi
          have hbw := later_trans hK.out.2.2.2.2.2.1 hbi
          have hsz := hbw.size
          have HB := Lib.hid (And.intro hbw (And.intro (kept hbi hK.out.2.2.1) (kept hbi hK.out.2.2.2.1)))
          clear hbi hX hbw
          cases hm : B.rows.any (mateR A B x) with
          | false =>
            have HS := Lib.hid (And.intro hO (show semiTo A B (A.rows.take (k + 1)) = semiTo A B (A.rows.take k) by rw [hK.out.2.2.2.2.2.2.2.2.1, hm, if_neg (by decide), List.append_nil]))
            clear hO hm
            go_wp2_with fail
            go_roundw
            case rel => exact ⟨k + 1, _, vs, hK.out.2.2.2.2.2.2.2.2.2, by go_num, HX.out.1, by rw [HS.out.2]; exact HS.out.1, HB.out.2.1, HB.out.2.2, HX.out.2, HB.out.1⟩
            case measure => simp [intOf]; have := hK.out.2.2.2.2.2.2.2.2.2; omega
          | true =>
            have HS := Lib.hid (And.intro hO (show semiTo A B (A.rows.take (k + 1)) = semiTo A B (A.rows.take k) ++ [x] by rw [hK.out.2.2.2.2.2.2.2.2.1, hm, if_pos rfl]))
            have hown := hO.own
            clear hO hm
            go_wp2_with (at_builtin; refine wpList_append_own _ rfl (.tmp 39) (.tmp 41) 23 rfl w.heap.size 26 i0 _ 1 24 Try.underlying23 hi hz0 hz1 hz2 rfl (by decide) _ _ _ rfl (hown.alloc _) ⟨wr.heap.size, 0, none⟩ 1 1 [.slice ax x.length cx] rfl rfl (cells_new _ _ _) (by simp [Value.oneCell']) (by unfold maxLen; omega) (by omega) (by simp; omega) ?_; intro v6 w6 hown6 hgrow6 _; obtain ⟨g6, cap6, rfl⟩ := ownsRow_succ hown6; have hX6 := box_grown (hown.alloc _) hgrow6 (box_alloc HX.out.1 _) (by decide); obtain ⟨z0, z1, lZ⟩ := two_of2 hX6; have fZ := box_frozen (i := 1) hX6)
            have kp : ∀ {b : Nat} {cs : Array Value}, wr.heap[b]? = some (.cells cs 25 (0, 0)) → w6.heap[b]? = some (.cells cs 25 (0, 0)) := fun h => box_grown (hown.alloc _) hgrow6 (box_alloc h _) (by decide)
            have hN : OldRows w w.heap.size w6 (.slice (some ⟨g6, 0, none⟩) (vs.length + 1) cap6) (vs ++ [.slice ax x.length cx]) (semiTo A B (A.rows.take (k + 1))) := by
              rw [HS.out.2]
              refine ⟨by simpa using hown6, by simp [HS.out.1.len], fun r hr => ?_⟩
              rw [rowN_snoc]
              by_cases h1 : r < (semiTo A B (A.rows.take k)).length
              · rw [if_pos h1, getD_snoc _ _ _ (by rw [HS.out.1.len]; exact h1)]
                exact HS.out.1.rows r h1
              · have h2 : r = (semiTo A B (A.rows.take k)).length := by simp at hr; omega
                rw [if_neg h1, if_pos h2, h2, ← HS.out.1.len, getD_last]
                exact hK.out.2.2.2.2.2.2.1
            have hB6 : Below w.heap.size w w6 := (later_trans HB.out.1 (later_alloc wr _)).grown hgrow6 (by simp; omega) (fun k e => owns_above hown k e)
            have hl9 : (vs ++ [Value.slice ax x.length cx]).length = vs.length + 1 := by simp
            have HN := Lib.hid (And.intro (hN.setO (i := 1) hX6 (.slice (some ⟨g6, 0, none⟩) (vs.length + 1) cap6)) (And.intro (show RB (w6.setCell ⟨w.heap.size + 1 + 1 + 1, 1, none⟩ (.slice (some ⟨g6, 0, none⟩) (vs.length + 1) cap6)) (w.heap.size + 1 + 1 + 1) (.slice av A.vars.length cv) (.slice (some ⟨g6, 0, none⟩) (vs.length + 1) cap6) by simpa [RB] using box_set (i := 1) hX6 (.slice (some ⟨g6, 0, none⟩) (vs.length + 1) cap6)) (And.intro (box_other (i := 1) (kp HB.out.2.1) (show w.heap.size ≠ w.heap.size + 1 + 1 + 1 by omega) (.slice (some ⟨g6, 0, none⟩) (vs.length + 1) cap6)) (And.intro (box_other (i := 1) (kp HB.out.2.2) (show w.heap.size + 1 ≠ w.heap.size + 1 + 1 + 1 by omega) (.slice (some ⟨g6, 0, none⟩) (vs.length + 1) cap6)) (And.intro (box_other (i := 1) (kp HX.out.2) (show w.heap.size + 1 + 1 ≠ w.heap.size + 1 + 1 + 1 by omega) (.slice (some ⟨g6, 0, none⟩) (vs.length + 1) cap6)) (below_set (i := 1) (u := .slice (some ⟨g6, 0, none⟩) (vs.length + 1) cap6) hB6 (show w.heap.size ≤ w.heap.size + 1 + 1 + 1 by omega)))))))
            clear hown hown6 hgrow6 kp hN hB6 hX6 z0 z1 lZ fZ hl9
            go_roundw
            case rel => first | exact ⟨k + 1, _, _, hK.out.2.2.2.2.2.2.2.2.2, by go_num, HN.out.2.1, HN.out.1, HN.out.2.2.1, HN.out.2.2.2.1, HN.out.2.2.2.2.1, HN.out.2.2.2.2.2⟩ | ((repeat apply Exists.intro); refine ⟨?_, rfl⟩; exact ⟨k + 1, _, _, hK.out.2.2.2.2.2.2.2.2.2, by go_num, HN.out.2.1, HN.out.1, HN.out.2.2.1, HN.out.2.2.2.1, HN.out.2.2.2.2.1, HN.out.2.2.2.2.2⟩)
            case measure => simp [intOf]; have := hK.out.2.2.2.2.2.2.2.2.2; omega
    · obtain rfl : k = A.rows.length := by omega
      rw [List.take_length] at hO
      obtain ⟨x0, x1, lX⟩ := two_of2 hX
      obtain ⟨y0, y1, lY⟩ := two_of2 hR
      have fR0 := box_frozen (i := 0) hR
      have fR1 := box_frozen (i := 1) hR
      have hb2 := box_set (i := 0) hR (.slice av A.vars.length cv)
      have hb3 := box_set (i := 1) hb2 (.slice a7 vs.length c7)
      have d0 := box_cell (i := 0) hb3
      have d1 := box_cell (i := 1) hb3
      simp at d0 d1
      have hbF := below_set (i := 1) (u := .slice a7 vs.length c7) (below_set (i := 0) (u := .slice av A.vars.length cv) hb (show w.heap.size ≤ w.heap.size + 1 + 1 by omega)) (show w.heap.size ≤ w.heap.size + 1 + 1 by omega)
      have HF := Lib.hid (And.intro (show RlR _ _ _ (refS A B) from ⟨SlI.later H.out.1.vars hbF, ((hO.setO (i := 0) hR (.slice av A.vars.length cv)).setO (i := 1) hb2 (.slice a7 vs.length c7)).slR hbF⟩) hbF)
      clear hX hO hTA hTB hR hb hb2 hb3 hbF
      go_wp2_with fail
      refine bodyPost_ret (v := relV (.slice av A.vars.length cv) (.slice a7 vs.length c7)) (by simp [results, Try.results24, go_sem, d0, d1]) rfl ?_
      exact ⟨_, _, rfl, HF.out.1, HF.out.2⟩
end
/-! ## XHaRi1 -/
section
open Go.RowKit
set_option linter.unusedVariables false
set_option linter.unusedSimpArgs false

/-- The document's projection. -/
def projTo (R : Rl) (o : List Int) (xs : List (List Int)) : List (List Int) := xs.map fun r => o.map (valZ R.vars r)
def refP (R : Rl) (o : List Int) : Rl := ⟨o, ofL (projTo R o R.rows)⟩
theorem refP_eq {R : Rl} {o : List Int} (h : ∀ v ∈ o, v ∈ R.vars) : refP R o = projL R o := by
  unfold refP projL projTo
  congr 2
  refine List.map_congr_left fun r hr => ?_
  rw [cells_places]
  exact List.map_congr_left fun v hv => valZ_in (h v hv)
theorem projTo_wd (R : Rl) (o : List Int) (xs : List (List Int)) : Wd o.length (projTo R o xs) := fun r hr => by
  obtain ⟨x, -, rfl⟩ := List.mem_map.1 hr
  rw [List.length_map]
/-- The document's picked rows. -/
def pickTo2 (i : Nat) (n : Int) (xs : List (List Int)) : List (List Int) := xs.filter fun r => decide (r.getD i 0 = n)
def refK (R : Rl) (i : Nat) (n : Int) : Rl := ⟨R.vars, pickTo2 i n R.rows⟩
theorem refK_eq {R : Rl} {x n : Int} {i : Nat} (hR : Ok R) (hi : idxI R.vars x = i) : refK R i n = pickL R x n := by
  unfold refK pickL pickTo2
  rw [hi]
  congr 1
  exact (ofL_self (fun r hr => hR.wd r (List.mem_filter.1 hr).1) (hR.rise.filter _)).symm
def nilL : Rl := ⟨[], []⟩
/-- A relation whose rows lie in a row of their own. -/
structure MidRl (W : World) (v1 v2 : Value) (R : Rl) : Prop where
  vars : SlI .i64 W v1 R.vars
  rows : ∃ base vs, OldRows W base W v2 vs R.rows
theorem MidRl.rlR {W : World} {v1 v2 : Value} {R : Rl} (h : MidRl W v1 v2 R) : RlR W v1 v2 R := by
  obtain ⟨base, vs, h1⟩ := h.rows
  exact ⟨h.vars, h1.slR (Below.refl _ _)⟩
theorem MidRl.later {W W' : World} {v1 v2 : Value} {R : Rl} (h : MidRl W v1 v2 R) (hb : Below W.heap.size W W') : MidRl W' v1 v2 R := by
  obtain ⟨base, vs, h1⟩ := h.rows
  exact ⟨SlI.later h.vars hb, base, vs, owns_later h1.own hb, h1.len, fun r hr => SlI.later (h1.rows r hr) hb⟩
theorem MidRl.set {W : World} {v1 v2 : Value} {R : Rl} (h : MidRl W v1 v2 R) {X i : Nat} {a b c d e f : _} (hX : RB W X (.slice a b c) (.slice d e f)) (u : Value) : MidRl (W.setCell ⟨X, i, none⟩ u) v1 v2 R := by
  obtain ⟨base, vs, h1⟩ := h.rows
  exact ⟨SlI.setR h.vars hX (fun z q => by cases q) (fun z q => by cases q) u, base, vs, own_set h1.own hX (by decide) u, h1.len, fun r hr => SlI.setR (h1.rows r hr) hX (fun z q => by cases q) (fun z q => by cases q) u⟩
theorem MidRl.shape {W : World} {v1 v2 : Value} {R : Rl} (h : MidRl W v1 v2 R) : ∃ a c b d, v1 = .slice a R.vars.length c ∧ v2 = .slice b R.rows.length d := h.rlR.shape
theorem MidRl.nil (W : World) : MidRl W (.slice none 0 0) (.slice none 0 0) nilL := ⟨SlI.nil _ _, 0, [], World.ownsRow_nil _ _ _ _, rfl, fun r hr => by simp [nilL] at hr⟩
set_option maxRecDepth 100000 in
set_option maxHeartbeats 8000000 in
theorem ProjectRf_any (vv rv vo : Value) (R : Rl) (o : List Int) (w : World) (h : RlR w vv rv R) (ho : SlI .i64 w vo o) (hol : o.length ≤ 1048576) (hw : Wd R.vars.length R.rows) (hr : R.rows.length ≤ 1048576) :
    Calls Try.prog 16 #[relV vv rv, vo] w fun e w' => ∃ v1 v2, e = .returned (relV v1 v2) ∧ MidRl w' v1 v2 (refP R o) ∧ Below w.heap.size w w' := by
  obtain ⟨i0, hi, hz0, hz1, hz2⟩ := info_parts info_rowU
  obtain ⟨W0, hW0⟩ : ∃ W, W = (w.alloc (.cells #[vv, rv] 25)).alloc (.cells #[.slice none 0 0, .slice none 0 0] 25) := ⟨_, rfl⟩
  have b0 : Below w.heap.size w W0 := by rw [hW0]; exact later_trans (later_alloc _ _) (later_alloc _ _)
  have bA : RB W0 w.heap.size vv rv := by rw [hW0]; exact box_alloc (box_new _ _ _) _
  have bC : RB W0 (w.heap.size + 1) (.slice none 0 0) (.slice none 0 0) := by
    rw [hW0]
    have h := box_new (w.alloc (.cells #[vv, rv] 25)) #[.slice none 0 0, .slice none 0 0] 25
    rw [World.size_alloc] at h
    exact h
  have H := Lib.hid (And.intro h (And.intro ho (And.intro hw hr)))
  have H0 := Lib.hid (And.intro b0 (And.intro bA bC))
  obtain ⟨av, cv, rfl, -⟩ := h.vars.open
  obtain ⟨ar, cr, rfl, -⟩ := h.rows.open
  obtain ⟨ao, co, rfl, -⟩ := ho.open
  have hRm : R.rows.length ≤ 9223372036854775807 := by omega
  obtain ⟨x0, x1, lX⟩ := two_of2 bA
  clear h ho hw b0 bA bC
  go_enter Try.func16, Try.ntmps16
  go_wp2_with fail
  try rw [← hW0]
  clear hW0 x0 x1 lX
  go_loopw [5, 11] (fun v i wr => ∃ (k : Nat) (ps : List (Value × List Int)), k ≤ R.rows.length ∧ i = .int .i64 k ∧ OwnRK .u64 38 26 W0.heap.size wr v ps ∧ ps.map Prod.snd = projTo R o (R.rows.take k) ∧ Below W0.heap.size W0 wr) (fun _ i _ => R.rows.length - (intOf i).toNat)
  case atStart => exact ⟨0, [], Nat.zero_le _, rfl, OwnRK.nil _ _ _ _ _, by rw [List.take_zero]; rfl, Below.refl _ _⟩
  case round =>
    obtain ⟨k, ps, hk, rfl, hO, hps, hb⟩ := hrel
    obtain ⟨a6, c6, rfl⟩ := owns_shape2 hO.own
    have hbw := later_trans H0.out.1 hb
    have hpl : ps.length ≤ 1048576 := by
      have h1 := congrArg List.length hps
      unfold projTo at h1
      rw [List.length_map, List.length_map, List.length_take] at h1
      omega
    by_cases hlt : k < R.rows.length
    · obtain ⟨_, _, e1, _, _, _, f4⟩ := (H.out.1.rows).open
      obtain ⟨bx, ox, e2, hbb, fc⟩ := f4 (by omega)
      injection e1 with e1a e1b e1c
      subst e1a
      subst e2
      obtain ⟨rx, cx0, hrx⟩ := fc k hlt
      change SlI .u64 w rx (rowN R.rows k) at hrx
      have cx1 := cell_next hbw cx0
      have hxm : rowN R.rows k ∈ R.rows := by rw [rowN_at hlt]; exact List.getElem_mem hlt
      have hxl := H.out.2.2.1 _ hxm
      have hPn : projTo R o (R.rows.take (k + 1)) = projTo R o (R.rows.take k) ++ [o.map (valZ R.vars (rowN R.rows k))] := by
        unfold projTo
        rw [List.take_succ_eq_append_getElem hlt, List.map_append, ← rowN_at hlt]
        rfl
      obtain ⟨x, hx⟩ : ∃ x, rowN R.rows k = x := ⟨_, rfl⟩
      rw [hx] at hrx hxl hPn
      have hC := CellsR_any _ _ _ _ R x o wr (H.out.1.later hbw) (SlI.later hrx hbw) hxl (SlI.later H.out.2.1 hbw) hol
      have HC := Lib.hid hC
      have hK := Lib.hid (And.intro hO (And.intro hps (And.intro hb (And.intro hrx (And.intro hPn hlt)))))
      obtain ⟨ax, cx, rfl, -⟩ := hrx.open
      obtain ⟨y0, y1, lY⟩ := two_of2 (kept hb H0.out.2.1)
      clear fc f4 hO hps hb hbw hrx cx0 hxm hxl hPn hx e1b e1c hC
      go_wp2_with fail
      refine HC.out.mono ?_
      rintro e wC ⟨vC, rfl, hoC, bC⟩
      obtain ⟨aC, cC, rfl⟩ := owns_shape2 hoC
      have hown := owns_later hK.out.1.own bC
      have hbC := later_trans hK.out.2.2.1 bC
      have hsz := hbC.size
      have HCC := Lib.hid (And.intro hoC (And.intro bC hbC))
      clear hoC bC hbC y0 y1 lY cx1
      go_wp2_with (at_builtin; refine wpList_append_own _ rfl (.tmp 15) (.tmp 20) 23 rfl W0.heap.size 26 i0 _ 1 24 Try.underlying23 hi hz0 hz1 hz2 rfl (by decide) _ _ _ rfl (hown.alloc _) ⟨wC.heap.size, 0, none⟩ 1 1 [.slice aC o.length cC] rfl rfl (cells_new _ _ _) (by simp [Value.oneCell']) (by unfold maxLen; omega) (by omega) (by simp; omega) ?_; intro v6 w6 hown6 hgrow6 _; obtain ⟨g6, cap6, rfl⟩ := ownsRow_succ hown6)
      have hN : OwnRK .u64 38 26 W0.heap.size w6 (.slice (some ⟨g6, 0, none⟩) (ps.length + 1) cap6) (ps ++ [(.slice aC o.length cC, o.map (valZ R.vars x))]) :=
        OwnRK.next (by decide) hK.out.1 HCC.out.2.1 (owns_down HCC.out.1 hK.out.2.2.1.size) (by rw [List.length_map]) (fun z hz => by
          obtain ⟨v, -, rfl⟩ := List.mem_map.1 hz
          exact valZ_wf hK.out.2.2.2.1.2 v) hown6 hgrow6
      have hB6 : Below W0.heap.size W0 w6 := (later_trans HCC.out.2.2 (later_alloc wC _)).grown hgrow6 (by simp; omega) (fun k e => owns_above hown k e)
      have HN := Lib.hid (And.intro hN hB6)
      clear hown hown6 hgrow6 hN hB6
      go_roundw
      case rel => first | exact ⟨k + 1, _, hK.out.2.2.2.2.2, by go_num, HN.out.1, by rw [List.map_append, hK.out.2.1, hK.out.2.2.2.2.1]; rfl, HN.out.2⟩ | ((repeat apply Exists.intro); refine ⟨?_, rfl⟩; exact ⟨k + 1, _, hK.out.2.2.2.2.2, by go_num, HN.out.1, by rw [List.map_append, hK.out.2.1, hK.out.2.2.2.2.1]; rfl, HN.out.2⟩)
      case measure => simp [intOf]; have := hK.out.2.2.2.2.2; omega
    · obtain rfl : k = R.rows.length := by omega
      rw [List.take_length] at hps
      have hrw := hO.slR
      rw [hps] at hrw
      have HE := Lib.hid (And.intro hb hbw)
      have hOf := OfR_any (.slice ao o.length co) (.slice a6 ps.length c6) o.length (projTo R o R.rows) wr ⟨_, _, _, rfl⟩ hrw (projTo_wd R o R.rows) (by unfold projTo; rw [List.length_map]; omega)
      have HOf := Lib.hid hOf
      have hpl2 : (projTo R o R.rows).length = ps.length := by rw [← hps, List.length_map]
      clear hO hps hb hbw hrw hOf
      go_wp2_with fail
      refine HOf.out.mono ?_
      rintro e U4 ⟨v', vs', rfl, hO4, b4⟩
      obtain ⟨a8, c8, rfl⟩ := owns_shape2 hO4.own
      have hbx := kept (later_trans HE.out.1 b4) H0.out.2.2
      obtain ⟨x0, x1, lX⟩ := two_of2 hbx
      have fX0 := box_frozen (i := 0) hbx
      have fX1 := box_frozen (i := 1) hbx
      have hb2 := box_set (i := 0) hbx (.slice ao o.length co)
      have hb3 := box_set (i := 1) hb2 (.slice a8 vs'.length c8)
      have d0 := box_cell (i := 0) hb3
      have d1 := box_cell (i := 1) hb3
      simp at d0 d1
      have hbF := below_set (i := 1) (u := .slice a8 vs'.length c8) (below_set (i := 0) (u := .slice ao o.length co) (later_trans HE.out.2 b4) (show w.heap.size ≤ w.heap.size + 1 by omega)) (show w.heap.size ≤ w.heap.size + 1 by omega)
      have hor : OldRows ((U4.setCell ⟨w.heap.size + 1, 0, none⟩ (.slice ao o.length co)).setCell ⟨w.heap.size + 1, 1, none⟩ (.slice a8 vs'.length c8)) wr.heap.size ((U4.setCell ⟨w.heap.size + 1, 0, none⟩ (.slice ao o.length co)).setCell ⟨w.heap.size + 1, 1, none⟩ (.slice a8 vs'.length c8)) (.slice a8 vs'.length c8) vs' (ofL (projTo R o R.rows)) := by
        have h1 := (hO4.setO (i := 0) hbx (.slice ao o.length co)).setO (i := 1) hb2 (.slice a8 vs'.length c8)
        refine ⟨h1.own, h1.len, fun r hr => ?_⟩
        exact SlI.setR (i := 1) (SlI.setR (i := 0) (SlI.later (hO4.rows r hr) b4) hbx (fun z q => by cases q) (fun z q => by cases q) _) hb2 (fun z q => by cases q) (fun z q => by cases q) _
      have HF := Lib.hid (And.intro (show MidRl _ _ _ (refP R o) from ⟨SlI.later H.out.2.1 hbF, _, _, hor⟩) hbF)
      clear hor hbF hb2 hb3 hO4 b4 hbx
      go_wp2_with fail
      refine bodyPost_ret (v := relV (.slice ao o.length co) (.slice a8 vs'.length c8)) (by simp [results, Try.results16, go_sem, d0, d1]) rfl ?_
      exact ⟨_, _, rfl, HF.out.1, HF.out.2⟩
set_option maxRecDepth 100000 in
set_option maxHeartbeats 8000000 in
theorem PickRf_any (va ra : Value) (A : Rl) (q : Nat) (n : Int) (w : World) (hA : RlR w va ra A) (hwA : Wd A.vars.length A.rows) (hr : A.rows.length ≤ 1048576) (hq : q < A.vars.length) (hvl : A.vars.length ≤ 1048576) :
    Calls Try.prog 20 #[relV va ra, .int .i64 q, .int .u64 n] w fun e w' => ∃ v1 v2, e = .returned (relV v1 v2) ∧ MidRl w' v1 v2 (refK A q n) ∧ Below w.heap.size w w' := by
  obtain ⟨i0, hi, hz0, hz1, hz2⟩ := info_parts info_rowU
  obtain ⟨W0, hW0⟩ : ∃ W, W = ((w.alloc (.cells #[va, ra] 25)).alloc (.cells #[.slice none 0 0, .slice none 0 0] 25)).alloc (.cells #[va, .slice none 0 0] 25) := ⟨_, rfl⟩
  have b0 : Below w.heap.size w W0 := by rw [hW0]; exact later_trans (later_trans (later_alloc _ _) (later_alloc _ _)) (later_alloc _ _)
  have bA : RB W0 w.heap.size va ra := by rw [hW0]; exact box_alloc (box_alloc (box_new _ _ _) _) _
  have bC : RB W0 (w.heap.size + 1) (.slice none 0 0) (.slice none 0 0) := by
    rw [hW0]
    have h := box_new (w.alloc (.cells #[va, ra] 25)) #[.slice none 0 0, .slice none 0 0] 25
    rw [World.size_alloc] at h
    exact box_alloc h _
  have bD : RB W0 (w.heap.size + 1 + 1) va (.slice none 0 0) := by
    rw [hW0]
    have h := box_new ((w.alloc (.cells #[va, ra] 25)).alloc (.cells #[.slice none 0 0, .slice none 0 0] 25)) #[va, .slice none 0 0] 25
    rw [World.size_alloc, World.size_alloc] at h
    exact h
  have H := Lib.hid (And.intro hA (And.intro hwA (And.intro hr hq)))
  have H0 := Lib.hid (And.intro b0 (And.intro bA (And.intro bC bD)))
  obtain ⟨av, cv, rfl, -⟩ := hA.vars.open
  obtain ⟨ar, cr, rfl, -⟩ := hA.rows.open
  have hAm : A.rows.length ≤ 9223372036854775807 := by omega
  have hqm : q ≤ 9223372036854775807 := by omega
  obtain ⟨x0, x1, lX⟩ := two_of2 bA
  clear hA hwA b0 bA bC bD
  go_enter Try.func20, Try.ntmps20
  go_wp2_with fail
  try rw [← hW0]
  clear hW0 x0 x1 lX
  go_loopw [16] (fun i wr => ∃ (k : Nat) (v : Value) (vs : List Value), k ≤ A.rows.length ∧ i = .int .i64 k ∧ RB wr (w.heap.size + 1 + 1) (.slice av A.vars.length cv) v ∧ OldRows w w.heap.size wr v vs (pickTo2 q n (A.rows.take k)) ∧ RB wr (w.heap.size + 1) (.slice none 0 0) (.slice none 0 0) ∧ Below w.heap.size w wr) (fun i _ => A.rows.length - (intOf i).toNat)
  case atStart => exact ⟨0, _, [], Nat.zero_le _, rfl, H0.out.2.2.2, OldRows.nilO _ _ _, H0.out.2.2.1, H0.out.1⟩
  case round =>
    obtain ⟨k, v, vs, hk, rfl, hX, hO, hR, hb⟩ := hrel
    obtain ⟨a7, c7, rfl⟩ := owns_shape2 hO.own
    by_cases hlt : k < A.rows.length
    · obtain ⟨_, _, e1, _, _, _, f4⟩ := (H.out.1.rows).open
      obtain ⟨bx, ox, e2, hbb, fc⟩ := f4 (by omega)
      injection e1 with e1a e1b e1c
      subst e1a
      subst e2
      obtain ⟨rx, cx0, hrx⟩ := fc k hlt
      change SlI .u64 w rx (rowN A.rows k) at hrx
      have cx1 := cell_next hb cx0
      have hxm : rowN A.rows k ∈ A.rows := by rw [rowN_at hlt]; exact List.getElem_mem hlt
      have hxl := H.out.2.1 _ hxm
      have hSn : pickTo2 q n (A.rows.take (k + 1)) = pickTo2 q n (A.rows.take k) ++ if decide ((rowN A.rows k).getD q 0 = n) = true then [rowN A.rows k] else [] := by
        unfold pickTo2
        rw [List.take_succ_eq_append_getElem hlt, List.filter_append, ← rowN_at hlt]
        simp [List.filter_cons]
      obtain ⟨x, hx⟩ : ∃ x, rowN A.rows k = x := ⟨_, rfl⟩
      rw [hx] at hrx hxl hSn
      have hqx : q < x.length := by have := H.out.2.2.2; omega
      obtain ⟨ax, cx, g1, g2, g3, _, g4⟩ := hrx.open
      obtain ⟨gb, go, g5, _, gc⟩ := g4 (by omega)
      have cg0 := gc q hqx
      have cg1 := cell_next hb cg0
      have hvl : vs.length ≤ k := by rw [hO.len]; exact Nat.le_trans (List.length_filter_le _ _) (by rw [List.length_take]; omega)
      have hxm2 : x.length ≤ 9223372036854775807 := by omega
      subst g1
      subst g5
      obtain ⟨z, hz⟩ : ∃ z, x[q] = z := ⟨_, rfl⟩
      rw [getD_at hqx, hz] at hSn
      rw [hz] at cg1
      have hK := Lib.hid (And.intro hX (And.intro hO (And.intro hR (And.intro hb (And.intro hrx (And.intro hSn hlt))))))
      have fX1 := box_frozen (i := 1) hX
      obtain ⟨x0, x1, lX⟩ := two_of2 hX
      have hown := hO.own
      have hsz := hb.size
      clear fc f4 hX hO hR hb hrx cx0 hxm hxl hSn hx e1b e1c g2 g3 g4 gc cg0 hz
      by_cases hzn : z = n
      · have hzb : (z == n) = true := by rw [beq_iff_eq]; exact hzn
        have HS := Lib.hid (show pickTo2 q n (A.rows.take (k + 1)) = pickTo2 q n (A.rows.take k) ++ [x] by rw [hK.out.2.2.2.2.2.1, decide_eq_true hzn, if_pos rfl])
        clear hzn
        go_wp2_with (at_builtin; refine wpList_append_own _ rfl (.tmp 27) (.tmp 29) 23 rfl w.heap.size 26 i0 _ 1 24 Try.underlying23 hi hz0 hz1 hz2 rfl (by decide) _ _ _ rfl (hown.alloc _) ⟨wr.heap.size, 0, none⟩ 1 1 [.slice (some ⟨gb, go, none⟩) x.length cx] rfl rfl (cells_new _ _ _) (by simp [Value.oneCell']) (by unfold maxLen; omega) (by omega) (by simp; omega) ?_; intro v6 w6 hown6 hgrow6 _; obtain ⟨g6, cap6, rfl⟩ := ownsRow_succ hown6; have hX6 := box_grown (hown.alloc _) hgrow6 (box_alloc hK.out.1 _) (by decide); obtain ⟨z0, z1, lZ⟩ := two_of2 hX6; have fZ := box_frozen (i := 1) hX6)
        have kp : ∀ {b : Nat} {cs : Array Value}, wr.heap[b]? = some (.cells cs 25 (0, 0)) → w6.heap[b]? = some (.cells cs 25 (0, 0)) := fun h => box_grown (hown.alloc _) hgrow6 (box_alloc h _) (by decide)
        have hN : OldRows w w.heap.size w6 (.slice (some ⟨g6, 0, none⟩) (vs.length + 1) cap6) (vs ++ [.slice (some ⟨gb, go, none⟩) x.length cx]) (pickTo2 q n (A.rows.take (k + 1))) := by
          rw [HS.out]
          refine ⟨by simpa using hown6, by simp [hK.out.2.1.len], fun r hr => ?_⟩
          rw [rowN_snoc]
          by_cases h1 : r < (pickTo2 q n (A.rows.take k)).length
          · rw [if_pos h1, getD_snoc _ _ _ (by rw [hK.out.2.1.len]; exact h1)]
            exact hK.out.2.1.rows r h1
          · have h2 : r = (pickTo2 q n (A.rows.take k)).length := by simp at hr; omega
            rw [if_neg h1, if_pos h2, h2, ← hK.out.2.1.len, getD_last]
            exact hK.out.2.2.2.2.1
        have hB6 : Below w.heap.size w w6 := (later_trans hK.out.2.2.2.1 (later_alloc wr _)).grown hgrow6 (by simp; omega) (fun k e => owns_above hown k e)
        have hl9 : (vs ++ [Value.slice (some ⟨gb, go, none⟩) x.length cx]).length = vs.length + 1 := by simp
        have HN := Lib.hid (And.intro (hN.setO (i := 1) hX6 (.slice (some ⟨g6, 0, none⟩) (vs.length + 1) cap6)) (And.intro (show RB (w6.setCell ⟨w.heap.size + 1 + 1, 1, none⟩ (.slice (some ⟨g6, 0, none⟩) (vs.length + 1) cap6)) (w.heap.size + 1 + 1) (.slice av A.vars.length cv) (.slice (some ⟨g6, 0, none⟩) (vs.length + 1) cap6) by simpa [RB] using box_set (i := 1) hX6 (.slice (some ⟨g6, 0, none⟩) (vs.length + 1) cap6)) (And.intro (box_other (i := 1) (kp hK.out.2.2.1) (show w.heap.size + 1 ≠ w.heap.size + 1 + 1 by omega) (.slice (some ⟨g6, 0, none⟩) (vs.length + 1) cap6)) (below_set (i := 1) (u := (.slice (some ⟨g6, 0, none⟩) (vs.length + 1) cap6)) hB6 (show w.heap.size ≤ w.heap.size + 1 + 1 by omega)))))
        clear hown hown6 hgrow6 kp hN hB6 hX6 z0 z1 lZ fZ hl9
        go_roundw
        case rel => first | exact ⟨k + 1, _, _, hK.out.2.2.2.2.2.2, by go_num, HN.out.2.1, HN.out.1, HN.out.2.2.1, HN.out.2.2.2⟩ | ((repeat apply Exists.intro); refine ⟨?_, rfl⟩; exact ⟨k + 1, _, _, hK.out.2.2.2.2.2.2, by go_num, HN.out.2.1, HN.out.1, HN.out.2.2.1, HN.out.2.2.2⟩)
        case measure => simp [intOf]; have := hK.out.2.2.2.2.2.2; omega
      · have hzb : (z == n) = false := by rw [beq_eq_false_iff_ne]; exact hzn
        have HS := Lib.hid (And.intro hK.out.2.1 (show pickTo2 q n (A.rows.take (k + 1)) = pickTo2 q n (A.rows.take k) by rw [hK.out.2.2.2.2.2.1, decide_eq_false hzn, if_neg (by decide), List.append_nil]))
        clear hzn
        go_wp2_with fail
        go_roundw
        case rel => exact ⟨k + 1, _, vs, hK.out.2.2.2.2.2.2, by go_num, hK.out.1, by rw [HS.out.2]; exact HS.out.1, hK.out.2.2.1, hK.out.2.2.2.1⟩
        case measure => simp [intOf]; have := hK.out.2.2.2.2.2.2; omega
    · obtain rfl : k = A.rows.length := by omega
      rw [List.take_length] at hO
      obtain ⟨x0, x1, lX⟩ := two_of2 hX
      obtain ⟨y0, y1, lY⟩ := two_of2 hR
      have fR0 := box_frozen (i := 0) hR
      have fR1 := box_frozen (i := 1) hR
      have hb2 := box_set (i := 0) hR (.slice av A.vars.length cv)
      have hb3 := box_set (i := 1) hb2 (.slice a7 vs.length c7)
      have d0 := box_cell (i := 0) hb3
      have d1 := box_cell (i := 1) hb3
      simp at d0 d1
      have hbF := below_set (i := 1) (u := .slice a7 vs.length c7) (below_set (i := 0) (u := .slice av A.vars.length cv) hb (show w.heap.size ≤ w.heap.size + 1 by omega)) (show w.heap.size ≤ w.heap.size + 1 by omega)
      have h9 := (hO.setO (i := 0) hR (.slice av A.vars.length cv)).setO (i := 1) hb2 (.slice a7 vs.length c7)
      have HF := Lib.hid (And.intro (show MidRl _ _ _ (refK A q n) from ⟨SlI.later H.out.1.vars hbF, _, _, h9.own, h9.len, fun r hr => SlI.later (h9.rows r hr) hbF⟩) hbF)
      clear hX hO hR hb hb2 hb3 hbF h9
      go_wp2_with fail
      refine bodyPost_ret (v := relV (.slice av A.vars.length cv) (.slice a7 vs.length c7)) (by simp [results, Try.results20, go_sem, d0, d1]) rfl ?_
      exact ⟨_, _, rfl, HF.out.1, HF.out.2⟩
end
end Go.Proofs.Ytdeiinfljfgmeaa
