/-
  hyper.Parts, walked.
-/
import Derived.Test.YtplidcbfbonjlaaDoorHzEach
namespace Go.Proofs.YtplidcbfbonjlaaDoor
open Go.RowKit Go.Shelf Go.Lib
set_option linter.unusedVariables false
set_option linter.unusedSimpArgs false

theorem hypB_yes {m : Int} {ls : List (List Int)} (h : hypB m ls = true) : 0 ≤ m ∧ m ≤ 32 ∧ ls.length ≤ 40 ∧ ∀ e ∈ ls, ∀ x ∈ e, 0 ≤ x ∧ x < m := by
  unfold hypB sizesB at h
  simp only [Bool.and_eq_true, decide_eq_true_eq] at h
  obtain ⟨⟨⟨h1, h2⟩, h3⟩, h4⟩ := h
  refine ⟨h1, h2, by omega, fun e he x hx => ?_⟩
  obtain ⟨j, hj, rfl⟩ := List.getElem_of_mem he
  unfold allR at h4
  have h5 := List.all_eq_true.1 h4 j (List.mem_range.2 hj)
  rw [rowN_at hj] at h5
  unfold edgeB vertsB allI at h5
  rw [Bool.and_eq_true] at h5
  obtain ⟨i, hi, rfl⟩ := List.getElem_of_mem hx
  have h6 := List.all_eq_true.1 h5.1 i (List.mem_range.2 hi)
  rw [getD_at hi] at h6
  simp only [Bool.and_eq_true, decide_eq_true_eq] at h6
  exact h6
theorem hypB_ok {m : Int} {ls : List (List Int)} (h : hypB m ls = true) : VertsOk ls := fun e he x hx => by
  obtain ⟨h1, h2, h3, h4⟩ := hypB_yes h
  have := h4 e he x hx
  exact ⟨this.1, by show x < 64; omega⟩
/-- What stands while parts are told. -/
structure PaW (w : World) (m : Int) (ev v : Value) (ps : List (Value × List Int)) (W : World) : Prop where
  bel : Below w.heap.size w W
  box : HB W w.heap.size m ev
  own : OwnRK .i64 3 27 (w.heap.size + 1) W v ps
theorem PaW.later {w W W' : World} {m : Int} {ev v : Value} {ps : List (Value × List Int)} (h : PaW w m ev v ps W) (hb : Below W.heap.size W W') : PaW w m ev v ps W' :=
  ⟨later_trans h.bel hb, kept hb h.box, h.own.later hb⟩
theorem eachF_any (s : Nat) (w : World) : Calls Tryd.prog 39 #[.int .u64 (s : Int)] w fun e w' => e = .returned (.func (.func 59) #[] #[.pointer (some ⟨w.heap.size, 0, none⟩)]) ∧ w' = w.alloc (.cells #[.int .u64 (s : Int)] 58) := by
  have hmf : ∀ (fn : Fn) (first cap : Array Value) (w : World), (Instr.makeFunc fn first cap).run Tryd.prog w = .ok (.func fn first cap) w := fun _ _ _ _ => rfl
  go_enter Tryd.func39, Tryd.ntmps39
  go_wp2
  go_ret
  exact ⟨rfl, rfl⟩
theorem collect_each (s X : Nat) (hs : s < 2 ^ 64) (w : World) (hX : w.heap[X]? = some (.cells #[.int .u64 (s : Int)] 58 (0, 0))) (hT : TabW w) :
    Calls Tryd.prog 38 #[.func (.func 59) #[] #[.pointer (some ⟨X, 0, none⟩)]] w fun e w' => ∃ v', e = .returned v' ∧ w'.ownsRow w.heap.size 3 1 v' (eachL s).length ((eachL s).map (.int .i64)) ∧ Wrote (fun b => b = X) w w' := by
  have hA := appendSeq_each s X hs w hX hT
  clear hs hX hT
  go_enter Tryd.func38, Tryd.ntmps38
  go_wp2_with fail
  refine hA.mono ?_
  rintro e w' ⟨v', rfl, h1, h2⟩
  obtain ⟨a, c, rfl⟩ := owns_shape2 h1
  have H := Lib.hid (And.intro h1 h2)
  clear h1 h2 hA
  go_wp2_with fail
  go_ret
  exact ⟨_, rfl, H.out.1, H.out.2⟩

theorem one_slI (w : World) {x : Int} (hx : (Lit.int .i64 x).wf = true) : SlI .i64 (w.alloc (.cells #[.int .i64 x] 3)) (.slice (some ⟨w.heap.size, 0, none⟩) 1 1) [x] := by
  refine ⟨⟨some ⟨w.heap.size, 0, none⟩, 1, rfl, by simp, (by unfold maxLen; omega), (fun h => by cases h), fun _ => ⟨_, _, rfl, (by simp), fun i u hu => ?_⟩⟩, fun y hy => by obtain rfl := List.mem_singleton.1 hy; exact hx⟩
  match i, hu with
  | 0, hu =>
    have e : Value.int .i64 x = u := by simpa using hu
    rw [← e]
    simp
  | i + 1, hu => simp at hu
theorem one_any (k : Nat) (hk : k < 64) (w : World) : Calls Tryd.prog 45 #[.slice (some ⟨w.heap.size, 0, none⟩) 1 1] (w.alloc (.cells #[.int .i64 (k : Int)] 3)) fun e w' => e = .returned (.int .u64 ((2 ^ k : Nat) : Int)) ∧ w' = w.alloc (.cells #[.int .i64 (k : Int)] 3) := by
  have h := of_any _ [(k : Int)] _ (one_slI w (x := k) (WalkArith.wf_i64 (by omega))) (fun x hx => by obtain rfl := List.mem_singleton.1 hx; exact ⟨by omega, by show (k : Int) < 64; omega⟩)
  have e : setL [(k : Int)] = 2 ^ k := by unfold setL; simp
  rw [e] at h
  exact h
theorem int_zero (d : Nat) : (d = 0 → (((d : Int) == 0) = true ∧ ((d : Int) != 0) = false)) ∧ (d ≠ 0 → (((d : Int) == 0) = false ∧ ((d : Int) != 0) = true)) :=
  ⟨fun h => by subst h; exact ⟨rfl, rfl⟩, fun h => ⟨by rw [beq_eq_false_iff_ne]; omega, by rw [bne_iff_ne]; omega⟩⟩

set_option maxRecDepth 100000 in
set_option maxHeartbeats 8000000 in
theorem Parts_any (m : Int) (ev : Value) (ls : List (List Int)) (w : World) (h : SlRK .i64 w ev ls) (hT : TabW w) (hok : hypB m ls = true) :
    Calls Tryd.prog 23 #[hypV m ev] w fun e w' => ∃ v', e = .returned v' ∧ SlRK .i64 w' v' (partsTo ls m.toNat) ∧ Below w.heap.size w w' := by
  obtain ⟨i0, hi, hz0, hz1, hz2⟩ := info_parts info_rowI
  have hb0 := later_alloc w (.cells #[.int .i64 m, ev] 24)
  have hC := hyperCheck_any m ev ls _ (h.later hb0)
  rw [if_pos hok] at hC
  obtain ⟨hm0, hm32, hl40, -⟩ := hypB_yes hok
  have hv := hypB_ok hok
  obtain ⟨n, rfl⟩ : ∃ n : Nat, m = n := ⟨m.toNat, by omega⟩
  have hn32 : n ≤ 32 := by omega
  obtain ⟨m, hm⟩ : ∃ m : Int, (n : Int) = m := ⟨_, rfl⟩
  rw [hm] at hC hb0 ⊢
  have H := Lib.hid (And.intro h (And.intro hT (And.intro hv (And.intro hl40 hm))))
  have HC := Lib.hid hC
  have HX := Lib.hid (box_new w #[.int .i64 m, ev] 24)
  have HB0 := Lib.hid hb0
  obtain ⟨ae, ce, rfl, -⟩ := h.open
  rw [← hm, show ((n : Int)).toNat = n from rfl]
  clear h hT hok hb0 hC hm0 hm32 hl40 hv
  rw [hm]
  clear hm
  go_enter Tryd.func23, Tryd.ntmps23
  go_wp2_with fail
  refine HC.out.mono ?_
  rintro e w1 ⟨rfl, hb1⟩
  have hX1 := kept hb1 HX.out
  have H1 := Lib.hid (And.intro hX1 (later_trans HB0.out hb1))
  have c0 : w1.cell? ⟨w.heap.size, 0, none⟩ = some (.int .i64 (n : Int)) := by rw [H.out.2.2.2.2]; simpa using box_cell (i := 0) hX1
  clear hb1 hX1
  go_wp2_with fail
  go_loopw [3, 4, 14] (fun v M i wr => ∃ (k : Nat) (s : Nat) (ps : List (Value × List Int)), k ≤ n ∧ i = .int .i64 k ∧ M = .int .u64 (s : Int) ∧ MetI ls k s ∧ ps.map Prod.snd = partsTo ls k ∧ PaW w m (.slice ae ls.length ce) v ps wr) (fun _ _ i _ => n - (intOf i).toNat)
  case atStart => exact ⟨0, 0, [], Nat.zero_le _, rfl, rfl, MetI.start _, rfl, ⟨H1.out.2, H1.out.1, ⟨World.ownsRow_nil _ _ _ _, fun p hp => by cases hp⟩⟩⟩
  case round =>
    obtain ⟨k, M, ps, hk, rfl, rfl, hM, hps, hW⟩ := hrel
    obtain ⟨av, cv, rfl⟩ := owns_shape2 hW.own.own
    by_cases hlt : k < n
    · have hk64 : k < 64 := by omega
      have hpsl : ps.length ≤ k := by have := congrArg List.length hps; rw [List.length_map] at this; rw [this]; exact partsTo_len _ _
      have HK := Lib.hid (And.intro hM (And.intro hps (And.intro hW (And.intro hlt hpsl))))
      have hnI : (k : Int) < n := by omega
      clear hM hps hW
      go_wp2_with fail
      rename_i hK1
      refine wp_scope_again 0 (fun μ a' W => ∃ (P : Nat), μ = 2 ^ 64 - P ∧ M.testBit k = false ∧ PartI ls k P ∧ PaW w m (.slice ae ls.length ce) (.slice av ps.length cv) ps W ∧ ∃ (u8 u15 u16 u17 u18 u19 u20 u21 u22 u23 u24 u25 u26 u27 u28 u29 u30 u31 u32 u33 u34 u35 u36 u37 u38 u39 u40 u41 u42 u43 u44 u45 u46 u47 u48 u49 u50 u51 u52 u53 u54 u55 u56 : Value), a' = { tmps := #[hypV m (.slice ae ls.length ce), .pointer (some ⟨w.heap.size, 0, none⟩), .slice none 0 0, .slice av ps.length cv, .int .u64 (M : Int), .int .i64 (k : Int), .int .u64 (P : Int), undef, u8, .agg #[.int .i64 m, .slice ae ls.length ce], .int .i64 0, .bool false, .pointer (some ⟨w.heap.size, 0, none⟩), .int .i64 (n : Int), .int .i64 (k : Int), u15, u16, u17, u18, u19, u20, u21, u22, u23, u24, u25, u26, u27, u28, u29, u30, u31, u32, u33, u34, u35, u36, u37, u38, u39, u40, u41, u42, u43, u44, u45, u46, u47, u48, u49, u50, u51, u52, u53, u54, u55, u56, undef], defers := [] }) rfl ?pass (fun again => ?first)
      case first =>
        have hOne := fun W => one_any k hk64 W
        have hq64 : 2 ^ k < 2 ^ 64 := Nat.pow_lt_pow_right (by decide) hk64
        have hPS := PartI.start ls hk64
        have hbit := and_bit (s := M) (n := k)
        obtain ⟨q, hq⟩ : ∃ q, 2 ^ k = q := ⟨_, rfl⟩
        rw [hq] at hq64 hPS hbit
        simp only [hq] at hOne
        have hand := bits_and_u64_nat M q HK.out.1.lt hq64
        obtain ⟨d, hd⟩ : ∃ d, M &&& q = d := ⟨_, rfl⟩
        rw [hd] at hand hbit
        have HO := Lib.hid (And.intro hOne (And.intro hPS hbit))
        clear hOne hq64 hPS hbit hq hd
        by_cases hd0 : d = 0
        · obtain ⟨z1, z2⟩ := (int_zero d).1 hd0
          have HD := Lib.hid hd0
          clear hd0
          go_wp2_with fail
          refine (HO.out.1 wr).mono ?_
          rintro e w2 ⟨rfl, rfl⟩
          have h2 := HO.out.1 (wr.alloc (.cells #[.int .i64 (k : Int)] 3))
          rw [World.size_alloc] at h2
          have HO2 := Lib.hid h2
          clear h2
          go_wp2_with fail
          refine HO2.out.mono ?_
          rintro e w3 ⟨rfl, rfl⟩
          go_wp2_with fail
          apply wp_label
          rename_i hK
          refine hK _ _ (again _ _ _ ⟨q, rfl, Bool.eq_false_iff.2 (fun h => HO.out.2.2.2 h HD.out), HO.out.2.1, HK.out.2.2.1.later (later_trans (later_alloc _ _) (later_alloc _ _)), _, _, _, _, _, _, _, _, _, _, _, _, _, _, _, _, _, _, _, _, _, _, _, _, _, _, _, _, _, _, _, _, _, _, _, _, _, _, _, _, _, _, _, rfl⟩)
        · obtain ⟨z1, z2⟩ := (int_zero d).2 hd0
          have HD := Lib.hid (HK.out.1.skip (HO.out.2.2.1 hd0))
          clear hd0
          go_wp2_with fail
          refine (HO.out.1 wr).mono ?_
          rintro e w2 ⟨rfl, rfl⟩
          go_wp2_with fail
          simp only [Exit.jump]
          refine hK1 _ _ ?_
          go_wp2_with fail
          go_roundw
          case rel => exact ⟨k + 1, M, ps, hlt, by go_num, rfl, HD.out.1, by rw [HD.out.2]; exact HK.out.2.1, HK.out.2.2.1.later (later_alloc _ _)⟩
          case measure => simp [intOf]; omega
      case pass =>
        rintro μ a' W ⟨P, rfl, hMk, hP, hW, u8, u15, u16, u17, u18, u19, u20, u21, u22, u23, u24, u25, u26, u27, u28, u29, u30, u31, u32, u33, u34, u35, u36, u37, u38, u39, u40, u41, u42, u43, u44, u45, u46, u47, u48, u49, u50, u51, u52, u53, u54, u55, u56, rfl⟩
        have hb0 := box_cell (i := 0) hW.box
        have hb1 := box_cell (i := 1) hW.box
        simp at hb0 hb1
        have HP := Lib.hid (And.intro hP hW)
        have HBit := Lib.hid hMk
        have HSets := Lib.hid (sets_any m (.slice ae ls.length ce) ls W (H.out.1.later hW.bel) H.out.2.2.1 (by have := H.out.2.2.2.1; omega))
        clear hP hW hMk
        go_wp2_with fail
        refine HSets.out.mono ?_
        rintro e w2 ⟨sv, rfl, hsv, hb2⟩
        obtain ⟨asv, csv, rfl⟩ := owns_shape2 hsv
        have H2 := Lib.hid (And.intro hsv (HP.out.2.later hb2))
        have hb2' := Lib.hid hb2
        clear hsv hb2 hb0 hb1
        go_wp2_with fail
        go_loop [6, 29] (fun p i => ∃ j : Nat, j ≤ ls.length ∧ p = .int .u64 (P : Int) ∧ i = .int .i64 j ∧ ∀ r, r < j → setL (rowN ls r) &&& P = 0 ∨ minus (setL (rowN ls r)) P = 0) (fun _ i => ls.length - (intOf i).toNat)
        case atStart => exact ⟨0, Nat.zero_le _, rfl, rfl, fun r hr => by omega⟩
        case round =>
          obtain ⟨j, hj, rfl, rfl, hcl⟩ := hrel
          have hl40 := H.out.2.2.2.1
          by_cases hjl : j < ls.length
          · obtain ⟨g, cap, hgc⟩ : ∃ g cap, Value.slice asv ls.length csv = .slice (some ⟨g, 0, none⟩) ls.length cap := by
              obtain ⟨l', hl'⟩ : ∃ l', ls.length = l' + 1 := ⟨ls.length - 1, by omega⟩
              have h1 := H2.out.1
              rw [hl'] at h1 ⊢
              exact ownsRow_succ h1
            injection hgc with hga hgb hgc
            subst hga hgc
            obtain ⟨cs, fs⟩ := owns_cell H2.out.1 (j := j) (u := .int .u64 ((setL (rowN ls j) : Nat) : Int)) (by unfold setsV; rw [List.getElem?_map, List.getElem?_eq_getElem hjl, rowN_at hjl]; rfl)
            have hmem := rowN_mem hjl
            have hSlt : setL (rowN ls j) < 2 ^ 64 := setL_lt (H.out.2.2.1 _ hmem)
            have hgrow := fun h1 => HP.out.1.grow H.out.2.2.1 hmem h1
            have hmeas := fun h1 h2 => HP.out.1.measure H.out.2.2.1 hmem h1 h2
            have hcl1 : (setL (rowN ls j) &&& P = 0 ∨ minus (setL (rowN ls j)) P = 0) → ∀ r, r < j + 1 → setL (rowN ls r) &&& P = 0 ∨ minus (setL (rowN ls r)) P = 0 := fun h1 r hr => by
              by_cases e : r = j
              · subst e; exact h1
              · exact hcl r (by omega)
            obtain ⟨S, hS⟩ : ∃ S, setL (rowN ls j) = S := ⟨_, rfl⟩
            rw [hS] at cs hSlt hcl1
            simp only [hS] at hgrow hmeas
            have hand := bits_and_u64_nat S P hSlt HP.out.1.lt
            have hnot := bits_andNot_u64_nat S P hSlt HP.out.1.lt
            have hor := bits_or_u64_nat P S HP.out.1.lt hSlt
            obtain ⟨d1, hd1⟩ : ∃ d1, S &&& P = d1 := ⟨_, rfl⟩
            obtain ⟨d2, hd2⟩ : ∃ d2, minus S P = d2 := ⟨_, rfl⟩
            obtain ⟨d3, hd3⟩ : ∃ d3, P ||| S = d3 := ⟨_, rfl⟩
            rw [hd1] at hand hcl1
            rw [hd2] at hnot hcl1
            rw [hd3] at hor
            simp only [hd1, hd2, hd3] at hgrow hmeas
            have HJ := Lib.hid (And.intro hcl1 (And.intro hgrow hmeas))
            have hjI : (j : Int) < ls.length := by omega
            clear hcl hcl1 hgrow hmeas hS hd1 hd2 hd3 hmem hSlt hgb
            by_cases e1 : d1 = 0
            · obtain ⟨z1, z2⟩ := (int_zero d1).1 e1
              have HE := Lib.hid e1
              clear e1
              go_wp2_with fail
              go_round
              case rel => first | exact ⟨j + 1, by omega, rfl, by go_num, HJ.out.1 (.inl HE.out)⟩ | ((repeat apply Exists.intro); refine ⟨?_, rfl⟩; exact ⟨j + 1, by omega, rfl, by go_num, HJ.out.1 (.inl HE.out)⟩)
              case measure => simp [intOf]; omega
            · obtain ⟨z1, z2⟩ := (int_zero d1).2 e1
              by_cases e2 : d2 = 0
              · obtain ⟨z3, z4⟩ := (int_zero d2).1 e2
                have HE := Lib.hid e2
                clear e1 e2
                go_wp2_with fail
                go_round
                case rel => first | exact ⟨j + 1, by omega, rfl, by go_num, HJ.out.1 (.inr HE.out)⟩ | ((repeat apply Exists.intro); refine ⟨?_, rfl⟩; exact ⟨j + 1, by omega, rfl, by go_num, HJ.out.1 (.inr HE.out)⟩)
                case measure => simp [intOf]; omega
              · obtain ⟨z3, z4⟩ := (int_zero d2).2 e2
                have HE := Lib.hid (And.intro e1 e2)
                clear e1 e2
                go_wp2_with fail
                apply wp_goto
                show _ ∧ _
                refine ⟨rfl, 2 ^ 64 - d3, HJ.out.2.2 HE.out.1 HE.out.2, d3, rfl, HBit.out, HJ.out.2.1 HE.out.1, H2.out.2, _, _, _, _, _, _, _, _, _, _, _, _, _, _, _, _, _, _, _, _, _, _, _, _, _, _, _, _, _, _, _, _, _, _, _, _, _, _, _, _, _, _, _, rfl⟩
          · obtain rfl : j = ls.length := by omega
            have hor := bits_or_u64_nat M P HK.out.1.lt HP.out.1.lt
            obtain ⟨d3, hd3⟩ : ∃ d3, M ||| P = d3 := ⟨_, rfl⟩
            rw [hd3] at hor
            have hdone := HP.out.1.done H.out.2.2.1 (by omega) (fun e he => by
              obtain ⟨r, hr, rfl⟩ := List.getElem_of_mem he
              have := hcl r hr
              rw [rowN_at hr] at this
              exact this)
            have HD := Lib.hid (And.intro hd3 (And.intro hdone H2.out.2))
            have hpsl := HK.out.2.2.2.2
            clear hcl hd3 hdone
            go_wp2_with fail
            refine (eachF_any P _).mono ?_
            rintro e w3 ⟨rfl, rfl⟩
            have hCl := collect_each P w2.heap.size HP.out.1.lt _ (box_new w2 #[.int .u64 (P : Int)] 58) ((H.out.2.1.later HD.out.2.2.bel).later (later_alloc _ _))
            rw [partL_is HD.out.2.1] at hCl
            have HCl := Lib.hid hCl
            clear hCl
            go_wp2_with fail
            refine HCl.out.mono ?_
            rintro e w4 ⟨v4, rfl, hv4, hw4⟩
            have hb4 : Below w2.heap.size w2 w4 := (later_alloc w2 _).trans (hw4.below (fun b hb => by omega) (by simp))
            have hW4 := HD.out.2.2.later hb4
            have hsz := hW4.bel.size
            have hsz2 : w.heap.size < w4.heap.size := lt_of_block hW4.box
            obtain ⟨a4, c4, rfl⟩ := owns_shape2 hv4
            have hv4' : w4.ownsRow (w.heap.size + 1) 3 1 (.slice a4 (partL ls k).length c4) (partL ls k).length ((partL ls k).map (.int .i64)) := owns_down hv4 (by have h1 := lt_of_block HD.out.2.2.box; simp; omega)
            have hown := hW4.own.own
            have H4 := Lib.hid (And.intro hW4 hv4')
            clear hv4 hw4 hb4 hW4 hv4'
            go_wp2_with (at_builtin; refine wpList_append_own _ rfl (.tmp 50) (.tmp 54) 22 rfl (w.heap.size + 1) 27 i0 _ 1 24 Tryd.underlying22 hi hz0 hz1 hz2 rfl (by decide) _ _ _ rfl (hown.alloc _) ⟨w4.heap.size, 0, none⟩ 1 1 [.slice a4 (partL ls k).length c4] rfl rfl (cells_new _ _ _) (by simp [Value.oneCell']) (by unfold maxLen; omega) (by omega) (by simp; omega) ?_; intro v6 w6 hown6 hgrow6 _; obtain ⟨g6, cap6, rfl⟩ := ownsRow_succ hown6)
            have hNx := OwnRK.next (by decide) H4.out.1.own (later_refl w4) H4.out.2 rfl (fun x hx => WalkArith.wf_i64 (by have := partL_bound ls k x hx; omega)) hown6 hgrow6
            have hMt := HK.out.1.take HBit.out HP.out.1.lt HD.out.2.1
            rw [HD.out.1] at hMt
            have hW6 : PaW w m (.slice ae ls.length ce) (.slice (some ⟨g6, 0, none⟩) (ps.length + 1) cap6) (ps ++ [(.slice a4 (partL ls k).length c4, partL ls k)]) w6 :=
              ⟨(later_trans H4.out.1.bel (later_alloc w4 _)).grown hgrow6 (by simp; omega) (fun k e => Nat.le_trans (Nat.le_succ _) (owns_above hown k e)), box_grown (hown.alloc _) hgrow6 (box_alloc H4.out.1.box _) (by decide), hNx⟩
            have HR := Lib.hid (And.intro hW6 hMt)
            clear hown hown6 hgrow6 hNx hMt hW6
            refine hK1 _ _ ?_
            go_wp2_with fail
            go_roundw
            case rel => first | exact ⟨k + 1, d3, _, HK.out.2.2.2.1, by go_num, rfl, HR.out.2.1, by rw [HR.out.2.2, List.map_append, HK.out.2.1]; rfl, HR.out.1⟩ | ((repeat apply Exists.intro); refine ⟨?_, rfl⟩; exact ⟨k + 1, d3, _, HK.out.2.2.2.1, by go_num, rfl, HR.out.2.1, by rw [HR.out.2.2, List.map_append, HK.out.2.1]; rfl, HR.out.1⟩)
            case measure => simp [intOf]; omega
    · obtain rfl : k = n := by omega
      have HR := Lib.hid (And.intro hps hW)
      clear hM hps hW
      go_wp2_with fail
      go_ret
      exact ⟨_, rfl, by rw [← HR.out.1]; exact HR.out.2.own.slR, HR.out.2.bel⟩
end Go.Proofs.YtplidcbfbonjlaaDoor
