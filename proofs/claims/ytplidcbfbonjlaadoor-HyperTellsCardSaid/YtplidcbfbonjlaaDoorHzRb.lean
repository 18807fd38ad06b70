/-
  The document's Part and Parts, walked.
-/
import Derived.Test.YtplidcbfbonjlaaDoorHzRa
namespace Go.Proofs.YtplidcbfbonjlaaDoor
open Go.RowKit Go.Shelf Go.Lib
set_option linter.unusedVariables false
set_option linter.unusedSimpArgs false

/-- The edge's vertices so far, where it meets. -/
def takeE (o e : List Int) (b : Bool) (t : Nat) : List Int := if b = true then (e.take t).foldl withI o else o
theorem takeE_zero (o e : List Int) (b : Bool) : takeE o e b 0 = o := by unfold takeE; cases b <;> simp
theorem takeE_next {o e : List Int} {t : Nat} (h : t < e.length) : takeE o e true (t + 1) = withI (takeE o e true t) e[t] := by
  unfold takeE
  rw [if_pos rfl, if_pos rfl, List.take_succ_eq_append_getElem h, List.foldl_append]
  rfl
theorem takeE_all (o e : List Int) : takeE o e (meetB o e) e.length = addE o e := by unfold takeE addE; rw [List.take_length]
theorem meetB_next {o e : List Int} {t : Nat} (h : t < e.length) : meetB o (e.take (t + 1)) = (meetB o (e.take t) || decide (e[t] ∈ o)) := by
  unfold meetB
  rw [List.take_succ_eq_append_getElem h, List.any_append]
  simp
theorem PartO.wf {ls : List (List Int)} {v : Nat} {o : List Int} (h : PartO ls v o) (hv : VertsOk ls) (h64 : v < 64) : (∀ x ∈ o, (Lit.int .i64 x).wf = true) ∧ o.length ≤ 64 := by
  have hb : ∀ x ∈ o, 0 ≤ x ∧ x < (64 : Nat) := fun x hx => Reach.bound hv ⟨by omega, by omega⟩ (h.all x hx)
  refine ⟨fun x hx => by have := hb x hx; exact WalkArith.wf_i64 (by omega), ?_⟩
  have := nodup_leI (o := o) (l := upL 64) (pw_nodup h.pw) fun x hx => upL_mem.2 (hb x hx)
  unfold upL at this
  rwa [List.length_map, List.length_range] at this
theorem PartO.takeE {ls : List (List Int)} {v : Nat} {o e : List Int} (h : PartO ls v o) (he : e ∈ ls) {b : Bool} (hb : meetB o e = b) (t : Nat) : PartO ls v (takeE o e b t) := by
  unfold Go.Proofs.YtplidcbfbonjlaaDoor.takeE
  cases b with
  | true => rw [if_pos rfl]; exact h.take he hb t
  | false => rw [if_neg (by decide)]; exact h
set_option maxRecDepth 100000 in
set_option maxHeartbeats 4000000 in
theorem Part20_any (mm v : Nat) (ev : Value) (ls : List (List Int)) (w : World) (h : SlRK .i64 w ev ls) (hy : hypB (mm : Int) ls = true) (hv : v < mm) :
    Calls Tryd.prog 49 #[hypV (mm : Int) ev, .int .i64 (v : Int)] w fun e w' => ∃ v', e = .returned v' ∧ w'.ownsRow w.heap.size 3 1 v' (partL ls v).length ((partL ls v).map (.int .i64)) ∧ Below w.heap.size w w' := by
  obtain ⟨W0, hW0⟩ : ∃ W, W = w.alloc (.cells #[.int .i64 mm, ev] 24) := ⟨_, rfl⟩
  have b0 : Below w.heap.size w W0 := by rw [hW0]; exact later_alloc _ _
  have bH : HB W0 w.heap.size mm ev := by rw [hW0]; exact box_new _ _ _
  have hy4 := hypB_yes hy
  have hvo := hypB_ok hy
  have h64 : v < 64 := by omega
  obtain ⟨ae, ce, rfl, -⟩ := h.open
  obtain ⟨n, hn⟩ : ∃ n, ls.length = n := ⟨_, rfl⟩
  have HN := Lib.hid hn
  have hn40 : n ≤ 40 := by omega
  have hmm : mm ≤ 32 := by omega
  have H0 := Lib.hid (And.intro (h.later b0) (And.intro b0 (And.intro hy4 (And.intro hvo h64))))
  rw [hn] at H0 bH hW0 ⊢
  have bH1 := kept (later_alloc W0 (.cells #[.int .i64 (v : Int)] 3)) bH
  obtain ⟨x0, x1, -, -, lX⟩ := two_of bH1
  have hO1 : (W0.alloc (.cells #[.int .i64 (v : Int)] 3)).ownsRow W0.heap.size 3 1 (.slice (some ⟨W0.heap.size, 0, none⟩) 1 1) 1 ([(v : Int)].map (.int .i64)) := ⟨rfl, .inr ⟨W0.heap.size, 1, #[.int .i64 (v : Int)], rfl, Nat.le_refl _, box_new W0 _ _, Nat.le_refl _, by decide, rfl, rfl⟩⟩
  have HB0 := Lib.hid (And.intro bH (And.intro hO1 (later_alloc W0 (.cells #[.int .i64 (v : Int)] 3))))
  clear h b0 bH hy hy4 hvo hn bH1 hO1 h64
  go_enter Tryd.func49, Tryd.ntmps49
  have hs0 : w.heap.size + 1 = W0.heap.size := by rw [hW0, World.size_alloc]
  go_upto_region 2 with fail
  rw [← hW0]
  try rw [hs0]
  clear hs0
  clear hW0
  go_wp2_with fail
  go_loopw [5, 17] (fun out k wr => ∃ j : Nat, j ≤ mm ∧ k = .int .i64 j ∧ wr.ownsRow W0.heap.size 3 1 out (partR ls [(v : Int)] j).length ((partR ls [(v : Int)] j).map (.int .i64)) ∧ Below W0.heap.size W0 wr) (fun _ k _ => mm - (intOf k).toNat)
  case atStart => exact ⟨0, Nat.zero_le _, rfl, HB0.out.2.1, HB0.out.2.2⟩
  case round =>
    obtain ⟨j, hj, rfl, hown, hb⟩ := hrel
    have bH2 := kept hb HB0.out.1
    clear x0 x1 lX
    obtain ⟨x0, x1, -, -, lX⟩ := two_of bH2
    have hP := PartO.rounds (ls := ls) (v := v) j
    by_cases hjm : j < mm
    · have hnx : partR ls [(v : Int)] (j + 1) = ls.foldl addE (partR ls [(v : Int)] j) := rfl
      obtain ⟨oj, hoj⟩ : ∃ o, partR ls [(v : Int)] j = o := ⟨_, rfl⟩
      rw [hoj] at hown hP hnx
      have HJ := Lib.hid (And.intro hown (And.intro hb (And.intro hP hnx)))
      clear hown hb hP hnx hoj bH2
      go_wp2_with fail
      go_loopw [5, 22] (fun out k wr2 => ∃ i : Nat, i ≤ n ∧ k = .int .i64 i ∧ wr2.ownsRow W0.heap.size 3 1 out ((ls.take i).foldl addE oj).length (((ls.take i).foldl addE oj).map (.int .i64)) ∧ Below W0.heap.size W0 wr2) (fun _ k _ => n - (intOf k).toNat)
      case atStart => exact ⟨0, Nat.zero_le _, rfl, HJ.out.1, HJ.out.2.1⟩
      case round =>
        obtain ⟨i, hi, rfl, hown, hb⟩ := hrel
        clear x0 x1 lX
        by_cases hin : i < n
        · have hil : i < ls.length := by rw [HN.out]; exact hin
          obtain ⟨_, _, e1, _, _, _, f4⟩ := (H0.out.1.later hb).open
          obtain ⟨b, o, e2, hbw, fc⟩ := f4 (by omega)
          injection e1 with e1a e1b e1c
          subst e1a e1c
          subst e2
          obtain ⟨rv, cr, hrv⟩ := fc i hil
          obtain ⟨a2, c2, rfl, s1, s2, s3, s4⟩ := hrv.open
          have hPi := (PartO.adds (es := ls.take i) HJ.out.2.2.1 fun e he => List.mem_of_mem_take he).1
          have hfn : (ls.take (i + 1)).foldl addE oj = addE ((ls.take i).foldl addE oj) (rowN ls i) := by
            rw [List.take_succ_eq_append_getElem hil, List.foldl_append, rowN_at hil]; rfl
          obtain ⟨oi, hoi⟩ : ∃ o, (ls.take i).foldl addE oj = o := ⟨_, rfl⟩
          rw [hoi] at hown hPi hfn
          have hwf := hPi.wf H0.out.2.2.2.1 H0.out.2.2.2.2
          obtain ⟨ao, co, rfl⟩ := owns_shape2 hown
          have hSo := SlI.of_owns hown hwf.1
          obtain ⟨ei, hei⟩ : ∃ e, rowN ls i = e := ⟨_, rfl⟩
          have hmem : ei ∈ ls := by rw [← hei]; exact rowN_mem hil
          rw [hei] at hrv hfn cr s1 s4
          obtain ⟨le, hle⟩ : ∃ l, ei.length = l := ⟨_, rfl⟩
          have HI := Lib.hid (And.intro hown (And.intro hb (And.intro hPi (And.intro hfn (And.intro hSo (And.intro hmem (And.intro hrv (And.intro s4 (And.intro hle hwf)))))))))
          rw [hle] at cr s1
          have hle3 : le ≤ 9223372036854775807 := by omega
          clear hown hb hPi hfn hSo hmem hrv s4 hle hwf f4 fc e1b hil hoi hei s1 s2 s3
          go_wp2_with fail
          go_loop [8, 28] (fun c k => ∃ t : Nat, t ≤ le ∧ k = .int .i64 t ∧ c = .bool (meetB oi (ei.take t))) (fun _ k => le - (intOf k).toNat)
          case atStart => exact ⟨0, Nat.zero_le _, rfl, rfl⟩
          case round =>
            obtain ⟨t, ht, rfl, rfl⟩ := hrel
            by_cases htl : t < le
            · have hte : t < ei.length := by rw [HI.out.2.2.2.2.2.2.2.2.1]; exact htl
              obtain ⟨bb, oo, rfl, hbb, hcs⟩ := HI.out.2.2.2.2.2.2.2.1 (by omega)
              have ca := hcs t hte
              have hmn := meetB_next (o := oi) hte
              obtain ⟨x, hx⟩ : ∃ x, ei[t] = x := ⟨_, rfl⟩
              rw [hx] at ca hmn
              have HH := Lib.hid (Has_any _ oi x _ HI.out.2.2.2.2.1)
              obtain ⟨mb, hmb⟩ : ∃ b, meetB oi (ei.take t) = b := ⟨_, rfl⟩
              rw [hmb] at hmn ⊢
              have HM := Lib.hid hmn
              clear hcs hx hmn hmb
              cases mb with
              | true =>
                go_wp2_with fail
                go_round
                case rel => exact ⟨t + 1, by omega, by go_num, by rw [HM.out]; rfl⟩
                case measure => simp [intOf]; omega
              | false =>
                go_wp2_with fail
                refine HH.out.mono ?_
                rintro e w9 ⟨rfl, h9⟩
                rw [h9]
                clear h9 w9
                go_wp2_with fail
                go_round
                case rel => exact ⟨t + 1, by omega, by go_num, by rw [HM.out, Bool.false_or]⟩
                case measure => simp [intOf]; omega
            · obtain rfl : t = le := by omega
              have htk : ei.take t = ei := List.take_of_length_le (by have := HI.out.2.2.2.2.2.2.2.2.1; omega)
              rw [htk]
              obtain ⟨mb, hmb⟩ : ∃ b, meetB oi ei = b := ⟨_, rfl⟩
              have HM := Lib.hid hmb
              rw [hmb]
              clear hmb htk
              go_wp2_with fail
              go_loopw [5, 41] (fun out k wr3 => ∃ s : Nat, s ≤ t ∧ k = .int .i64 s ∧ wr3.ownsRow W0.heap.size 3 1 out (takeE oi ei mb s).length ((takeE oi ei mb s).map (.int .i64)) ∧ Below wr.heap.size wr wr3) (fun _ k _ => t - (intOf k).toNat)
              case atStart => exact ⟨0, Nat.zero_le _, rfl, by rw [takeE_zero]; exact HI.out.1, Below.refl _ _⟩
              case round =>
                obtain ⟨s, hs, rfl, hown, hb⟩ := hrel
                obtain ⟨a3, c3, rfl⟩ := owns_shape2 hown
                by_cases hst : s < t
                · have hse : s < ei.length := by have := HI.out.2.2.2.2.2.2.2.2.1; omega
                  obtain ⟨bb, oo, rfl, hbb, hcs⟩ := HI.out.2.2.2.2.2.2.2.1 (by omega)
                  have ca := cell_next hb (hcs s hse)
                  have hPs := HI.out.2.2.1.takeE HI.out.2.2.2.2.2.1 HM.out s
                  have hws := hPs.wf H0.out.2.2.2.1 H0.out.2.2.2.2
                  have htn := takeE_next (o := oi) hse
                  have hfs : takeE oi ei false (s + 1) = takeE oi ei false s := rfl
                  obtain ⟨x, hx⟩ : ∃ x, ei[s] = x := ⟨_, rfl⟩
                  rw [hx] at ca htn
                  have HT := Lib.hid (And.intro htn hfs)
                  cases mb with
                  | true =>
                    obtain ⟨os, hos⟩ : ∃ o, takeE oi ei true s = o := ⟨_, rfl⟩
                    rw [hos] at hown hws
                    rw [hos]
                    have HOS := Lib.hid hos
                    have hW := With_any (.slice a3 os.length c3) os x wr (SlI.of_owns hown hws.1) (by omega)
                    have HW := Lib.hid (And.intro hW (And.intro hb hown))
                    clear hW hb hown hws hos hPs htn hfs hcs hx
                    go_wp2_with fail
                    refine HW.out.1.mono ?_
                    rintro e w2 ⟨v2, rfl, ho2, hb2⟩
                    obtain ⟨a9, c9, rfl⟩ := owns_shape2 ho2
                    have HO2 := Lib.hid (And.intro ho2 hb2)
                    clear ho2 hb2
                    go_wp2_with fail
                    go_roundw
                    case rel =>
                      refine ⟨s + 1, by omega, by go_num, ?_, later_trans HW.out.2.1 HO2.out.2⟩
                      rw [HT.out.1, HOS.out]
                      exact owns_down HO2.out.1 (Nat.le_trans HI.out.2.1.size HW.out.2.1.size)
                    case measure => simp [intOf]; omega
                  | false =>
                    have HW := Lib.hid (And.intro hb hown)
                    clear hb hown hws hPs htn hfs hcs hx
                    go_wp2_with fail
                    go_roundw
                    case rel => exact ⟨s + 1, by omega, by go_num, by rw [HT.out.2]; exact HW.out.2, HW.out.1⟩
                    case measure => simp [intOf]; omega
                · obtain rfl : s = t := by omega
                  have hal := takeE_all oi ei
                  rw [HM.out, HI.out.2.2.2.2.2.2.2.2.1] at hal
                  rw [hal] at hown ⊢
                  have HE := Lib.hid (And.intro hown (later_trans HI.out.2.1 hb))
                  clear hown hb hal
                  go_wp2_with fail
                  go_roundw
                  case rel => exact ⟨i + 1, by omega, by go_num, by rw [HI.out.2.2.2.1]; exact HE.out.1, HE.out.2⟩
                  case measure => simp [intOf]; omega
        · obtain rfl : i = n := by omega
          have htk : ls.take i = ls := List.take_of_length_le (by have := HN.out; omega)
          rw [htk] at hown
          have HE := Lib.hid (And.intro hown hb)
          have bH2 := kept hb HB0.out.1
          clear hown hb htk
          go_wp2_with fail
          go_roundw
          case rel => exact ⟨j + 1, by omega, by go_num, by rw [HJ.out.2.2.2]; exact HE.out.1, HE.out.2⟩
          case measure => simp [intOf]; omega
    · obtain rfl : j = mm := by omega
      have hrp := rounds_part hv (by omega) H0.out.2.2.1.2.2.2
      rw [hrp] at hown
      have HE := Lib.hid (And.intro hown (later_trans H0.out.2.1 hb))
      clear hown hb
      go_wp2_with fail
      go_ret
      exact ⟨_, rfl, owns_down HE.out.1 H0.out.2.1.size, HE.out.2⟩
set_option maxRecDepth 100000 in
set_option maxHeartbeats 4000000 in
theorem Parts20_any (m : Int) (ev : Value) (ls : List (List Int)) (w : World) (h : SlRK .i64 w ev ls) (hy : hypB m ls = true) :
    Calls Tryd.prog 21 #[hypV m ev] w fun e w' => ∃ v', e = .returned v' ∧ SlRK .i64 w' v' (partsTo ls m.toNat) ∧ Below w.heap.size w w' := by
  obtain ⟨i0, hi0, hz0, hz1, hz2⟩ := info_parts info_rowI
  have hy4 := hypB_yes hy
  obtain ⟨mm, rfl⟩ : ∃ mm : Nat, m = mm := ⟨m.toNat, (Int.toNat_of_nonneg hy4.1).symm⟩
  have hmm : mm ≤ 32 := by omega
  obtain ⟨W0, hW0⟩ : ∃ W, W = w.alloc (.cells #[.int .i64 mm, ev] 24) := ⟨_, rfl⟩
  have b0 : Below w.heap.size w W0 := by rw [hW0]; exact later_alloc _ _
  have bH : HB W0 w.heap.size mm ev := by rw [hW0]; exact box_new _ _ _
  have hPa := fun (v : Nat) (hv : v < mm) (W : World) (hb : Below W0.heap.size W0 W) => Part20_any mm v ev ls W ((h.later b0).later hb) hy hv
  obtain ⟨ae, ce, rfl, -⟩ := h.open
  have HP := Lib.hid (And.intro hPa (And.intro b0 (And.intro bH (hypB_ok hy))))
  obtain ⟨x0, x1, -, -, lX⟩ := two_of bH
  clear h b0 bH hPa hy4
  go_enter Tryd.func21, Tryd.ntmps21
  go_upto_region 2 with fail
  rw [← hW0]
  clear hW0
  go_wp2_with fail
  go_loopw [3, 8] (fun out k wr => ∃ (j : Nat) (ps : List (Value × List Int)), j ≤ mm ∧ k = .int .i64 j ∧ OwnRK .i64 3 27 W0.heap.size wr out ps ∧ ps.map Prod.snd = partsTo ls j ∧ Below W0.heap.size W0 wr) (fun _ k _ => mm - (intOf k).toNat)
  case atStart => exact ⟨0, [], Nat.zero_le _, rfl, OwnRK.nil _ _ _ _ _, rfl, Below.refl _ _⟩
  case round =>
    obtain ⟨j, ps, hj, rfl, hown, hps, hb⟩ := hrel
    obtain ⟨av, cv, rfl⟩ := owns_shape2 hown.own
    clear x0 x1 lX
    obtain ⟨x0, x1, -, -, lX⟩ := two_of (kept hb HP.out.2.2.1)
    by_cases hjm : j < mm
    · have hpl : ps.length ≤ 32 := by
        have h1 := partsTo_len ls j
        rw [← hps, List.length_map] at h1
        omega
      have hPj := HP.out.1 j hjm wr hb
      have hnx := parts_next (v := j) HP.out.2.2.2 (by omega)
      have hbd := partL_bound ls j
      have hpn := partL_len ls j
      obtain ⟨pj, hpj⟩ : ∃ p, partL ls j = p := ⟨_, rfl⟩
      rw [hpj] at hPj hnx hbd hpn
      have HJ := Lib.hid (And.intro hown (And.intro hps (And.intro hb (And.intro hPj (And.intro hnx hbd)))))
      clear hown hps hb hPj hnx hpj hbd
      have hjI : (j : Int) < mm := by omega
      go_wp2_with fail
      refine HJ.out.2.2.2.1.mono ?_
      rintro e w2 ⟨vp, rfl, ho2, hb2⟩
      have hpos := HJ.out.2.2.2.2.1.2
      have hwf : ∀ x ∈ pj, (Lit.int .i64 x).wf = true := fun x hx => by have := HJ.out.2.2.2.2.2 x hx; exact WalkArith.wf_i64 (by omega)
      obtain ⟨ap, cp, e1, _, _, _, f4⟩ := (SlI.of_owns ho2 hwf).open
      obtain ⟨bp, op, rfl, hbp, fc⟩ := f4 hpos
      subst e1
      have f0 := fc 0 hpos
      rw [← getD_at hpos, Nat.add_zero] at f0
      have hnx := HJ.out.2.2.2.2.1.1
      obtain ⟨y, hyy⟩ : ∃ y, pj.getD 0 0 = y := ⟨_, rfl⟩
      rw [hyy] at f0 hnx
      have hO2 := owns_later HJ.out.1.own hb2
      have HB := Lib.hid (And.intro hb2 (And.intro ho2 (And.intro hwf hnx)))
      have hpsz : 0 < pj.length := hpos
      have hsz : W0.heap.size ≤ w2.heap.size := Nat.le_trans HJ.out.2.2.1.size hb2.size
      clear fc f4 hyy hpos ho2 hb2 hwf hnx
      by_cases hyj : y = (j : Int)
      · have HNX := Lib.hid (show partsTo ls (j + 1) = partsTo ls j ++ [pj] from by rw [HB.out.2.2.2, if_pos hyj])
        have hye : (y == (j : Int)) = true := by rw [beq_iff_eq]; exact hyj
        clear hyj
        go_wp2_with (at_builtin; refine wpList_append_own _ rfl (.tmp 19) (.tmp 21) 22 rfl W0.heap.size 27 i0 _ 1 24 Tryd.underlying22 hi0 hz0 hz1 hz2 rfl (by decide) _ _ _ rfl (hO2.alloc _) ⟨w2.heap.size, 0, none⟩ 1 1 [.slice (some ⟨bp, op, none⟩) pj.length cp] rfl rfl (cells_new _ _ _) (by simp [Value.oneCell']) (by unfold maxLen; omega) (by omega) (by simp; omega) ?_; intro v6 w6 hown6 hgrow6 _; obtain ⟨g6, cap6, rfl⟩ := ownsRow_succ hown6)
        have hN := OwnRK.next (by decide) HJ.out.1 HB.out.1 (owns_down HB.out.2.1 HJ.out.2.2.1.size) rfl HB.out.2.2.1 hown6 hgrow6
        have hA := later_trans HJ.out.2.2.1 (later_trans HB.out.1 (later_alloc w2 (.cells #[.slice (some ⟨bp, op, none⟩) pj.length cp] 27)))
        have HF := Lib.hid (And.intro hN (hA.grown hgrow6 hA.size (fun k e => owns_above hO2 k e)))
        have HS : Hid ((ps ++ [(Value.slice (some ⟨bp, op, none⟩) pj.length cp, pj)]).map Prod.snd = partsTo ls (j + 1)) := Lib.hid (by rw [List.map_append, HJ.out.2.1, HNX.out]; rfl)
        clear hN hA hown6 hgrow6 hO2
        go_roundw
        case rel => first | exact ⟨j + 1, _, by omega, by go_num, HF.out.1, HS.out, HF.out.2⟩ | ((repeat apply Exists.intro); refine ⟨?_, rfl⟩; exact ⟨j + 1, _, by omega, by go_num, HF.out.1, HS.out, HF.out.2⟩)
        case measure => simp [intOf]; omega
      · have HNX := Lib.hid (show partsTo ls (j + 1) = partsTo ls j from by rw [HB.out.2.2.2, if_neg hyj, List.append_nil])
        have hye : (y == (j : Int)) = false := by rw [beq_eq_false_iff_ne]; exact hyj
        go_wp2_with fail
        go_roundw
        case rel => exact ⟨j + 1, ps, by omega, by go_num, HJ.out.1.later HB.out.1, by rw [HNX.out]; exact HJ.out.2.1, later_trans HJ.out.2.2.1 HB.out.1⟩
        case measure => simp [intOf]; omega
    · obtain rfl : j = mm := by omega
      have hR := hown.slR
      rw [hps] at hR
      have HE := Lib.hid (And.intro hR (later_trans HP.out.2.1 hb))
      clear hown hps hb hR
      go_wp2_with fail
      go_ret
      exact ⟨_, rfl, HE.out.1, HE.out.2⟩
end Go.Proofs.YtplidcbfbonjlaaDoor
