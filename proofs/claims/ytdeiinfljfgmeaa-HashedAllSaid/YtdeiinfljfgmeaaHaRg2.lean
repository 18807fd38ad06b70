/-
  colanderref25.Match, Alone, walked.
-/
import Derived.Test.YtdeiinfljfgmeaaHaRg1
namespace Go.Proofs.Ytdeiinfljfgmeaa
open Go.RowKit
set_option linter.unusedVariables false
set_option linter.unusedSimpArgs false

/-- Do rows match at a variable? -/
def mateAt (A B : Rl) (x y : List Int) (v : Int) : Bool := !(decide (v ∈ B.vars) && decide (valZ A.vars x v ≠ valZ B.vars y v))
def mateR (A B : Rl) (x y : List Int) : Bool := A.vars.all (mateAt A B x y)
theorem mateR_iff {A B : Rl} {x y : List Int} : mateR A B x y = true ↔ Mate A B x y := by
  unfold mateR Mate
  rw [List.all_eq_true]
  constructor
  · intro h v h1 h2
    have h3 := h v h1
    unfold mateAt at h3
    rw [decide_eq_true h2, Bool.true_and, Bool.not_eq_true', decide_eq_false_iff_not, valZ_in h1, valZ_in h2] at h3
    exact Decidable.not_not.1 h3
  · intro h v h1
    unfold mateAt
    by_cases h2 : v ∈ B.vars
    · rw [decide_eq_true h2, Bool.true_and, Bool.not_eq_true', decide_eq_false_iff_not, valZ_in h1, valZ_in h2]
      exact fun h3 => h3 (h v h1 h2)
    · rw [decide_eq_false h2, Bool.false_and]
      rfl
set_option maxRecDepth 100000 in
set_option maxHeartbeats 4000000 in
theorem MatchR_any (va ra vb rb vx vy : Value) (A B : Rl) (x y : List Int) (w : World) (hA : RlR w va ra A) (hB : RlR w vb rb B) (hx : SlI .u64 w vx x) (hy : SlI .u64 w vy y) (hxl : x.length = A.vars.length) (hyl : y.length = B.vars.length) :
    Calls Try.prog 53 #[relV va ra, relV vb rb, vx, vy] w fun e w' => e = .returned (.bool (mateR A B x y)) ∧ Below w.heap.size w w' := by
  obtain ⟨W0, hW0⟩ : ∃ W, W = (w.alloc (.cells #[va, ra] 25)).alloc (.cells #[vb, rb] 25) := ⟨_, rfl⟩
  have b0 : Below w.heap.size w W0 := by rw [hW0]; exact later_trans (later_alloc _ _) (later_alloc _ _)
  have bA : RB W0 w.heap.size va ra := by rw [hW0]; exact box_alloc (box_new _ _ _) _
  have bB : RB W0 (w.heap.size + 1) vb rb := by
    rw [hW0]
    have h := box_new (w.alloc (.cells #[va, ra] 25)) #[vb, rb] 25
    rw [World.size_alloc] at h
    exact h
  have H := Lib.hid (And.intro hA (And.intro hB (And.intro hx (And.intro hy (And.intro hxl (And.intro hyl (And.intro b0 (And.intro bA bB))))))))
  obtain ⟨av, cv, rfl, v1, v2, -⟩ := hA.vars.open
  have hvm : A.vars.length ≤ 9223372036854775807 := by omega
  obtain ⟨ar, cr, rfl, -⟩ := hA.rows.open
  obtain ⟨bv, dv, rfl, -⟩ := hB.vars.open
  obtain ⟨br, dr, rfl, -⟩ := hB.rows.open
  obtain ⟨au, cu, rfl, -⟩ := hx.open
  obtain ⟨bu, du, rfl, -⟩ := hy.open
  obtain ⟨x0, x1, lX⟩ := two_of2 bA
  clear hA hB hx hy hxl hyl b0 bA bB v1 v2
  go_enter Try.func53, Try.ntmps53
  go_wp2_with fail
  rw [← hW0]
  clear hW0 x0 x1 lX
  go_loopw [18] (fun i wr => ∃ k : Nat, k ≤ A.vars.length ∧ i = .int .i64 k ∧ (∀ v, v ∈ A.vars.take k → mateAt A B x y v = true) ∧ Below W0.heap.size W0 wr) (fun i _ => A.vars.length - (intOf i).toNat)
  case atStart => exact ⟨0, Nat.zero_le _, rfl, fun v hv => by simp at hv, Below.refl _ _⟩
  case round =>
    obtain ⟨k, hk, rfl, hs, hb⟩ := hrel
    have hbw := later_trans H.out.2.2.2.2.2.2.1 hb
    by_cases hlt : k < A.vars.length
    · obtain ⟨_, _, e1, _, _, _, g4⟩ := (SlI.later H.out.1.vars hbw).open
      obtain ⟨be, oe, e2, _, gc⟩ := g4 (by omega)
      have ce1 := gc k hlt
      injection e1 with e1a e1b e1c
      subst e1a e1c
      subst e2
      have hst : ∀ v, v ∈ A.vars.take (k + 1) → v ∈ A.vars.take k ∨ v = A.vars[k] := fun v hv => by
        rw [List.take_succ_eq_append_getElem hlt, List.mem_append, List.mem_singleton] at hv
        exact hv
      have hmem : A.vars[k] ∈ A.vars := List.getElem_mem hlt
      obtain ⟨z, hz⟩ : ∃ z, A.vars[k] = z := ⟨_, rfl⟩
      rw [hz] at ce1 hst hmem
      have hV := Value_any _ _ _ A x z wr (H.out.1.later hbw) (SlI.later H.out.2.2.1 hbw) H.out.2.2.2.2.1
      have HV := Lib.hid hV
      obtain ⟨x0, x1, lX⟩ := two_of2 (kept hb H.out.2.2.2.2.2.2.2.1)
      have HO := Lib.hid (And.intro hs (And.intro hb (And.intro hbw (And.intro hlt (And.intro hst hmem)))))
      clear gc g4 e1b hz hst hb hbw hs hV hmem
      go_wp2_with fail
      refine HV.out.mono ?_
      rintro e w5 ⟨rfl, b5⟩
      have hV2 := Value_any _ _ _ B y z w5 (H.out.2.1.later (later_trans HO.out.2.2.1 b5)) (SlI.later H.out.2.2.2.1 (later_trans HO.out.2.2.1 b5)) H.out.2.2.2.2.2.1
      have HV2 := Lib.hid hV2
      obtain ⟨p, hp⟩ : ∃ p, valZ A.vars x z = p := ⟨_, rfl⟩
      obtain ⟨p2, hp2⟩ : ∃ p, decide (z ∈ A.vars) = p := ⟨_, rfl⟩
      clear x0 x1 lX
      obtain ⟨x0, x1, lX⟩ := two_of2 (kept b5 (kept HO.out.2.1 H.out.2.2.2.2.2.2.2.2))
      have H5 := Lib.hid (And.intro b5 hp)
      rw [hp, hp2]
      clear hV2 b5 hp hp2
      go_wp2_with fail
      refine HV2.out.mono ?_
      rintro e w6 ⟨rfl, b6⟩
      obtain ⟨u, hu⟩ : ∃ p, valZ B.vars y z = p := ⟨_, rfl⟩
      obtain ⟨q, hq⟩ : ∃ p, decide (z ∈ B.vars) = p := ⟨_, rfl⟩
      have hm : mateAt A B x y z = !(q && decide (p ≠ u)) := by unfold mateAt; rw [hq, H5.out.2, hu]
      have b06 := later_trans HO.out.2.1 (later_trans H5.out.1 b6)
      have H6 := Lib.hid (And.intro hm b06)
      rw [hu, hq]
      clear hu hq hm b06 b6 x0 x1 lX
      cases q with
      | false =>
        have HN := Lib.hid H6.out.1
        go_wp2_with fail
        go_roundw
        case rel => exact ⟨k + 1, HO.out.2.2.2.1, by go_num, fun v hv => by
          rcases HO.out.2.2.2.2.1 v hv with h | rfl
          · exact HO.out.1 v h
          · exact HN.out, H6.out.2⟩
        case measure => simp [intOf]; have := HO.out.2.2.2.1; omega
      | true =>
        by_cases hpu : p = u
        · have hpu2 : (p != u) = false := by rw [bne_eq_false_iff_eq]; exact hpu
          have HN := Lib.hid (show mateAt A B x y z = true by rw [H6.out.1, decide_eq_false (fun h => h hpu)]; rfl)
          subst hpu
          go_wp2_with fail
          go_roundw
          case rel => exact ⟨k + 1, HO.out.2.2.2.1, by go_num, fun v hv => by
            rcases HO.out.2.2.2.2.1 v hv with h | rfl
            · exact HO.out.1 v h
            · exact HN.out, H6.out.2⟩
          case measure => simp [intOf]; have := HO.out.2.2.2.1; omega
        · have hpu2 : (p != u) = true := by rw [bne_iff_ne]; exact hpu
          have HN := Lib.hid (show mateR A B x y = false from List.all_eq_false.2 ⟨z, HO.out.2.2.2.2.2, by rw [H6.out.1, decide_eq_true hpu]; decide⟩)
          clear hpu
          go_wp2_with fail
          go_ret
          exact ⟨ret_bool HN.out.symm, later_trans H.out.2.2.2.2.2.2.1 H6.out.2⟩
    · obtain rfl : k = A.vars.length := by omega
      rw [List.take_length] at hs
      have HN := Lib.hid (And.intro (show mateR A B x y = true from List.all_eq_true.2 hs) hbw)
      clear hs hb hbw
      go_wp2_with fail
      go_ret
      exact ⟨ret_bool HN.out.1.symm, HN.out.2⟩
set_option maxRecDepth 100000 in
set_option maxHeartbeats 4000000 in
theorem AloneR_any (va ra vb rb : Value) (A B : Rl) (w : World) (hA : RlR w va ra A) (hB : RlR w vb rb B) (hBl : B.vars.length ≤ 1048576) :
    Calls Try.prog 52 #[relV va ra, relV vb rb] w fun e w' => ∃ v', e = .returned v' ∧ w'.ownsRow w.heap.size 3 1 v' (aloneL A B).length ((aloneL A B).map (.int .i64)) ∧ Below w.heap.size w w' := by
  obtain ⟨i0, hi, hz0, hz1, hz2⟩ := info_parts info_int
  obtain ⟨W0, hW0⟩ : ∃ W, W = (w.alloc (.cells #[va, ra] 25)).alloc (.cells #[vb, rb] 25) := ⟨_, rfl⟩
  have b0 : Below w.heap.size w W0 := by rw [hW0]; exact later_trans (later_alloc _ _) (later_alloc _ _)
  have bA : RB W0 w.heap.size va ra := by rw [hW0]; exact box_alloc (box_new _ _ _) _
  have bB : RB W0 (w.heap.size + 1) vb rb := by
    rw [hW0]
    have h := box_new (w.alloc (.cells #[va, ra] 25)) #[vb, rb] 25
    rw [World.size_alloc] at h
    exact h
  have H := Lib.hid (And.intro hA (And.intro hB (And.intro b0 (And.intro bA bB))))
  obtain ⟨av, cv, rfl, -⟩ := hA.vars.open
  obtain ⟨ar, cr, rfl, -⟩ := hA.rows.open
  obtain ⟨bv, dv, rfl, v1, v2, -⟩ := hB.vars.open
  have hvm : B.vars.length ≤ 9223372036854775807 := by omega
  obtain ⟨br, dr, rfl, -⟩ := hB.rows.open
  obtain ⟨x0, x1, lX⟩ := two_of2 bB
  clear hA hB b0 bA bB v1 v2
  go_enter Try.func52, Try.ntmps52
  go_wp2_with fail
  rw [← hW0]
  clear hW0 x0 x1 lX
  go_loopw [5, 11] (fun v i wr => ∃ (k : Nat) (l : List Int), k ≤ B.vars.length ∧ i = .int .i64 k ∧ l = (B.vars.take k).filter (fun z => !decide (z ∈ A.vars)) ∧ wr.ownsRow W0.heap.size 3 1 v l.length (l.map (.int .i64)) ∧ Below W0.heap.size W0 wr) (fun _ i _ => B.vars.length - (intOf i).toNat)
  case atStart => exact ⟨0, [], Nat.zero_le _, rfl, rfl, World.ownsRow_nil _ _ _ _, Below.refl _ _⟩
  case round =>
    obtain ⟨k, l, hk, rfl, hl, hO, hb⟩ := hrel
    obtain ⟨a7, c7, rfl⟩ := owns_shape2 hO
    have hbw := later_trans H.out.2.2.1 hb
    by_cases hlt : k < B.vars.length
    · obtain ⟨_, _, e1, _, _, _, g4⟩ := (SlI.later H.out.2.1.vars hbw).open
      obtain ⟨be, oe, e2, _, gc⟩ := g4 (by omega)
      have ce1 := gc k hlt
      injection e1 with e1a e1b e1c
      subst e1a e1c
      subst e2
      have hst : (B.vars.take (k + 1)).filter (fun z => !decide (z ∈ A.vars)) = l ++ if B.vars[k] ∈ A.vars then [] else [B.vars[k]] := by
        rw [hl, List.take_succ_eq_append_getElem hlt, List.filter_append]
        by_cases q : B.vars[k] ∈ A.vars
        · simp [q]
        · simp [q]
      have hll : l.length ≤ k := by
        rw [hl]
        refine Nat.le_trans (List.length_filter_le _ _) ?_
        rw [List.length_take]
        omega
      obtain ⟨z, hz⟩ : ∃ z, B.vars[k] = z := ⟨_, rfl⟩
      rw [hz] at ce1 hst
      have hP := Place_any _ A.vars z wr (SlI.later H.out.1.vars hbw)
      have HP := Lib.hid hP
      obtain ⟨x0, x1, lX⟩ := two_of2 (kept hb H.out.2.2.2.1)
      have hz5 := hb.size
      have HO := Lib.hid (And.intro hb (And.intro hlt hst))
      clear gc g4 e1b hz hst hb hbw hP hl
      go_wp2_with fail
      refine HP.out.mono ?_
      rintro e w5 ⟨rfl, h5⟩
      subst h5
      clear x0 x1 lX
      by_cases hzA : z ∈ A.vars
      · obtain ⟨i, hi', -⟩ := idxI_lt hzA
        rw [hi']
        have hng : ¬ ((i : Int) < 0) := by omega
        have HN := Lib.hid (And.intro hO (show (B.vars.take (k + 1)).filter (fun z => !decide (z ∈ A.vars)) = l by rw [HO.out.2.2, if_pos hzA, List.append_nil]))
        clear hO hzA hi'
        go_wp2_with fail
        go_roundw
        case rel => exact ⟨k + 1, l, HO.out.2.1, by go_num, HN.out.2.symm, HN.out.1, HO.out.1⟩
        case measure => simp [intOf]; have := HO.out.2.1; omega
      · rw [idxI_out hzA]
        have HN := Lib.hid (show (B.vars.take (k + 1)).filter (fun z => !decide (z ∈ A.vars)) = l ++ [z] by rw [HO.out.2.2, if_neg hzA])
        clear hzA
        go_wp2_with (at_builtin; refine wpList_append_own _ rfl (.tmp 20) (.tmp 22) 22 rfl W0.heap.size 3 i0 _ 1 8 Try.underlying22 hi hz0 hz1 hz2 rfl (by decide) _ _ _ rfl (hO.alloc _) ⟨w5.heap.size, 0, none⟩ 1 1 [.int .i64 z] rfl rfl (cells_new _ _ _) (by simp [Value.oneCell']) (by unfold maxLen; omega) (by omega) (by simp; omega) ?_; intro v6 w6 hown6 hgrow6 _)
        have hb6 : Below W0.heap.size W0 w6 := (later_trans HO.out.1 (later_alloc w5 _)).grown hgrow6 (by simp; omega) (fun k e => owns_above hO k e)
        have HM := Lib.hid (And.intro hown6 hb6)
        clear hO hown6 hgrow6 hb6
        go_wp2_with fail
        go_roundw
        case rel => exact ⟨k + 1, l ++ [z], HO.out.2.1, by go_num, HN.out.symm, by simpa using HM.out.1, HM.out.2⟩
        case measure => simp [intOf]; have := HO.out.2.1; omega
    · obtain rfl : k = B.vars.length := by omega
      rw [List.take_length] at hl
      have HR := Lib.hid (And.intro (show wr.ownsRow w.heap.size 3 1 _ (aloneL A B).length ((aloneL A B).map (.int .i64)) by rw [show aloneL A B = l from hl.symm]; exact owns_down hO H.out.2.2.1.size) hbw)
      clear hO hb hl hbw
      go_wp2_with fail
      go_ret
      exact ⟨_, rfl, HR.out.1, HR.out.2⟩
end Go.Proofs.Ytdeiinfljfgmeaa
