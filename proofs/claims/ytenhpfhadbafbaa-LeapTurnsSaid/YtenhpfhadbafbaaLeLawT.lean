/-
  The law LeapTurns, walked.
-/
import Derived.Test.YtenhpfhadbafbaaLeLawP
import Derived.Test.YtenhpfhadbafbaaLeRev
import Derived.Test.YtenhpfhadbafbaaLeWakes
namespace Go.Proofs.Ytenhpfhadbafbaa
open Go.RowKit
set_option linter.unusedVariables false

set_option maxRecDepth 100000 in
set_option maxHeartbeats 8000000 in
theorem lawTurns_walk (vx vm : Value) (xs : List (List Int)) (more : List Int) (w : World) (hx : SlR w vx xs) (hm : SlI .u64 w vm more) :
    Calls Try.prog 5 #[vx, vm] w fun e w' => e = .returned (.bool true) ∧ Below w.heap.size w w' := by
  obtain ⟨i0, hi, hz0, hz1, hz2⟩ := info_parts info_row
  obtain ⟨ax, cx, rfl, -⟩ := hx.open
  obtain ⟨am, cm, rfl, m1, m2, m3, -⟩ := hm.open
  obtain ⟨mm, hmm⟩ : ∃ m, min more.length 40 = m := ⟨_, rfl⟩
  have hmin : Value.int .i64 (if (40 : Int) < more.length then (40 : Int) else (more.length : Int)) = .int .i64 (mm : Int) := by rw [show (if (40 : Int) < more.length then (40 : Int) else (more.length : Int)) = (mm : Int) from by split <;> omega]
  have hmc : mm ≤ cm := by omega
  have hml : mm ≤ more.length := by omega
  have hm40 : mm ≤ 40 := by omega
  have hmz : more.length ≤ 9223372036854775807 := by omega
  have HX := Lib.hid hx
  have HM := Lib.hid hm
  clear hx hm m1 m2 m3 hmm
  go_enter Try.func5, Try.ntmps5
  go_wp2_with fail
  refine (wakes_any _).mono ?_
  rintro e w1 ⟨rfl, hb1⟩
  have hs0 := hb1.size
  have hx1 := HX.out.later hb1
  go_wp2_with fail
  refine (own_any _ _ _ hx1).mono ?_
  rintro e w2 ⟨v2, ps, rfl, hO2, hp2, hb2⟩
  have hs1 := hb2.size
  have hb2 := later_trans hb1 hb2
  have hpl : ps.length ≤ 6 := by
    have := congrArg List.length hp2
    rw [List.length_map] at this
    rw [this]
    exact ownOf_len _
  obtain ⟨ms, hms⟩ : ∃ ms, ps.map Prod.snd = ms := ⟨_, rfl⟩
  have hml6 : ms.length ≤ 6 := by rw [← hms, List.length_map]; exact hpl
  have h40 : ∀ r, r < ms.length → (rowN ms r).length ≤ 40 := by rw [← hms, hp2]; exact own_short xs
  have h1000 : ∀ r, r < ms.length → (rowN ms r).length ≤ 1000 := fun r hr => Nat.le_trans (h40 r hr) (by omega)
  have hR2 := hO2.slR
  rw [hms] at hR2
  have hnat := slR_nat hR2
  clear hx1 hb1 hp2
  go_wp2_with fail
  refine (meetL_any _ _ _ hR2 h1000 (by omega)).mono ?_
  rintro e w3 ⟨u3, n3, rfl, hown3, hb3, -, -⟩
  have hwf := meetOf_wf hR2
  have hO3 := hO2.later hb3
  have hs2 := hb3.size
  have hb3 := later_trans hb2 hb3
  obtain ⟨a3, c3, rfl⟩ := owns_shape2 hown3
  obtain ⟨ec, hec⟩ : ∃ ec, errOf ms = ec := ⟨_, rfl⟩
  rw [hec]
  clear hO2 hR2 hb2
  obtain ⟨a2, c2, rfl⟩ := owns_shape2 hO3.own
  go_wp2_with fail
  refine (reverse_any hO3 (by omega) (show w1.heap.size ≤ w3.heap.size by omega)).mono ?_
  rintro e w4 ⟨rfl, qs, hq, hO4, hg4⟩
  have hql := hq.length_eq
  have hown4 := own_grown hO3.own hg4 hown3 (by decide)
  have hb4 : Below w.heap.size w w4 := hb3.grown hg4 (by omega) (fun k e => by have := owns_above hO3.own k e; have := hb3.size; omega)
  have hs4 := hb4.size
  have hs34 := hg4.size
  have hpq : (qs.map Prod.snd).Perm ms := by rw [← hms]; exact hq.map _
  obtain ⟨ms', hms'⟩ : ∃ ms', qs.map Prod.snd = ms' := ⟨_, rfl⟩
  rw [hms'] at hpq
  have hql' : ms'.length = qs.length := by rw [← hms', List.length_map]
  have hR4 := hO4.slR
  rw [hms'] at hR4
  have h40' := row_perm_short hpq h40
  have h1000' : ∀ r, r < ms'.length → (rowN ms' r).length ≤ 1000 := fun r hr => Nat.le_trans (h40' r hr) (by omega)
  have hme := meetOf_perm hpq h1000 hnat
  have hee : errOf ms' = ec := (errOf_perm hpq).trans hec
  clear hO3 hown3 hg4 hb3
  go_wp2_with fail
  refine (meetL_any _ _ _ hR4 h1000' (by omega)).mono ?_
  rintro e w5 ⟨u5, n5, rfl, hown5, hb5, -, -⟩
  rw [hee]
  rw [hme] at hown5
  have hO5 := hO4.later hb5
  have hown4 := owns_later hown4 hb5
  have hs5 := hb5.size
  have hb5 := later_trans hb4 hb5
  obtain ⟨a5, c5, rfl⟩ := owns_shape2 hown5
  have hne : (ec != ec) = false := by simp
  clear hO4 hR4 hb4
  have hE := equal_any _ _ _ _ w5 (SlI.of_owns hown4 hwf) (SlI.of_owns hown5 hwf)
  rw [decide_eq_true rfl] at hE
  have hO5q := hO5.own
  rw [hql] at hO5q
  have hps6 : ps.length ≤ 9223372036854775807 := by omega
  have HE := Lib.hid hE
  have HMO := Lib.hid (And.intro hown4 hown5)
  have HO5 := Lib.hid hO5
  have HB5 := Lib.hid hb5
  clear hE hown4 hown5 hO5 hb5
  go_wp2_with first
    | (go_at_call 18; refine HE.out.mono ?_; rintro e w6 ⟨rfl, n6, hw6⟩; have hb6 : Below w5.heap.size w5 w6 := (by rw [hw6]; exact later_drewN w5 n6); have hO6 := owns_later hO5q hb6; have hs6 := hb6.size; have HB6 := Lib.hid hb6; clear hw6 hb6)
    | (at_builtin; refine wpList_append_own _ rfl (.tmp 45) (.tmp 51) 22 rfl w1.heap.size 32 i0 _ 1 24 Try.underlying22 hi hz0 hz1 hz2 rfl (by decide) _ _ _ rfl (hO6.alloc _) ⟨w6.heap.size, 0, none⟩ 1 1 [.slice am mm cm] rfl rfl (cells_new _ _ _) (by simp [Value.oneCell']) (by unfold maxLen; omega) (by omega) (by simp; omega) ?_; intro v7 w7 hown7 hgrow7 _; obtain ⟨g7, cap7, rfl⟩ := ownsRow_succ hown7)
    | fail
  have hal := later_alloc w6 (.cells #[.slice am mm cm] 32)
  have hb57 := later_trans HB6.out hal
  have hO6a := owns_later hO6 hal
  have hb7 : Below w.heap.size w w7 := (later_trans HB5.out hb57).grown hgrow7 (by simp; omega) (fun k e => by have := owns_above hO6 k e; omega)
  obtain ⟨ls, hls⟩ : ∃ ls, ms' ++ [more.take mm] = ls := ⟨_, rfl⟩
  have hlm : ls.length = ms'.length + 1 := by rw [← hls]; simp
  have hR7 : SlR w7 (.slice (some ⟨g7, 0, none⟩) (ps.length + 1) cap7) ls := by
    have := slR_of (w := w7) (v := .slice (some ⟨g7, 0, none⟩) (ps.length + 1) cap7) (qs ++ [(.slice am mm cm, more.take mm)]) (by
      have := SlC.of_owns hown7
      simpa using this) (fun p hp => by
      rcases List.mem_append.1 hp with hp | hp
      · have h1 := own_grown hO6a hgrow7 (owns_later (HO5.out.rows p hp).1 hb57) (by decide)
        exact SlI.of_owns h1 (HO5.out.rows p hp).2
      · obtain rfl := List.mem_singleton.1 hp
        exact (HM.out.cut2 hml).later hb7)
    rw [List.map_append, hms'] at this
    rw [← hls]
    exact this
  have h1000l : ∀ r, r < ls.length → (rowN ls r).length ≤ 1000 := by
    rw [← hls]
    exact row_more (p := fun l => l.length ≤ 1000) h1000' (by rw [List.length_take]; omega)
  have hA7 : SlI .u64 w7 (.slice a3 (meetOf ms).length c3) (meetOf ms) := SlI.of_owns (own_grown hO6a hgrow7 (owns_later HMO.out.1 hb57) (by decide)) hwf
  have hM7 := HM.out.later hb7
  have hwfl := meetOf_wf hR7
  have hl19 : ls.length ≤ 19 := by omega
  refine (meetL_any _ _ _ hR7 h1000l hl19).mono ?_
  rintro e w8 ⟨u8, n8, rfl, hown8, hb8, -, -⟩
  have HR := Lib.hid (rowsOk_of (ls := ls) · h1000l (slR_nat hR7))
  have hA8 := hA7.later hb8
  have hM8 := hM7.later hb8
  have hc8 := SlI.of_owns hown8 hwfl
  have hb8 := later_trans hb7 hb8
  obtain ⟨a8, c8, rfl⟩ := owns_shape2 hown8
  have HH := Lib.hid (And.intro hA8 (And.intro hM8 (And.intro hc8 hb8)))
  clear hA7 hM7 hb7 hR7 hown8 hA8 hM8 hc8 hb8 hO6a hb57 hal hown7 hgrow7 hO5q hO6
  by_cases hok : okB ls = true
  · rw [errOf_yes hok]
    obtain ⟨a9, c9, e9, l1, l2, l3, l4⟩ := HH.out.2.2.1.open
    cases e9
    have HL := Lib.hid l4
    have hlen : (meetOf ls).length ≤ 9223372036854775807 := by omega
    have hrise : risesB (meetOf ls) = true := by
      rw [meetOf_yes hok]
      exact decide_eq_true (commonAll_pw ((HR.out hok).rise 0 (HR.out hok).some))
    have hmem : ∀ n ∈ meetOf ls, n ∈ more ∧ (ec = 0 → n ∈ meetOf ms) := fun n hn => by
      rw [meetOf_yes hok] at hn
      have h1 := (commonAll_mem (HR.out hok).some).1 hn
      refine ⟨?_, fun he => ?_⟩
      · have := h1 ms'.length (by omega)
        rw [← hls, rowN_last] at this
        exact List.mem_of_mem_take this
      · by_cases hm : okB ms = true
        · rw [← hme, meetOf_yes ((okB_perm hpq).trans hm)]
          have hm' := (okB_iff.1 ((okB_perm hpq).trans hm)).1
          refine (commonAll_mem (by omega)).2 fun r hr => ?_
          have := h1 r (by omega)
          rw [← hls, rowN_more hr] at this
          exact this
        · rw [errOf_no (Bool.eq_false_iff.2 hm)] at hec
          omega
    have HME := Lib.hid hmem
    clear l1 l2 l3 l4 hmem
    have HEC := Lib.hid hec
    clear hec hee
    by_cases he : ec = 0
    · subst he
      go_wp2_with fail
      go_loopw [64] (fun k wr => ∃ i : Nat, i ≤ (meetOf ls).length ∧ k = .int .i64 i ∧ wr = w8) (fun k _ => (meetOf ls).length - (intOf k).toNat)
      case atStart => exact ⟨0, Nat.zero_le _, rfl, rfl⟩
      case round =>
        obtain ⟨i, hi', rfl, rfl⟩ := hrel
        by_cases hlt : i < (meetOf ls).length
        · obtain ⟨b1, o1, rfl, hb1w, hc1⟩ := HL.out (by omega)
          have hx := hc1 i hlt
          obtain ⟨n, hn⟩ : ∃ n, (meetOf ls)[i] = n := ⟨_, rfl⟩
          rw [hn] at hx
          have hmn := HME.out n (by rw [← hn]; exact List.getElem_mem hlt)
          have hC2 := contains_any _ _ n wr HH.out.2.1
          rw [decide_eq_true hmn.1] at hC2
          have HC2 := Lib.hid hC2
          clear hc1 hn hC2
          have hC1 := contains_any _ _ n wr HH.out.1
          rw [decide_eq_true (hmn.2 (by first | rfl | trivial))] at hC1
          have HC1 := Lib.hid hC1
          clear hC1 hmn
          go_wp2_with first
            | (go_at_call 20; first | (refine HC1.out.mono ?_; rintro e w9 ⟨rfl, rfl⟩) | (refine HC2.out.mono ?_; rintro e w9 ⟨rfl, rfl⟩))
            | fail
          go_roundw
          case rel => exact ⟨i + 1, by omega, by go_num, by first | rfl | trivial⟩
          case measure => simp [intOf]; omega
        · go_wp2_with (refine (isSorted_any _ _ _ HH.out.2.2.1 hrise).mono ?_; rintro e w9 ⟨rfl, hb9⟩)
          go_ret
          exact ⟨rfl, later_trans HH.out.2.2.2 hb9⟩
    · have hee1 : (ec == 0) = false := by rw [beq_eq_false_iff_ne]; exact he
      go_wp2_with fail
      go_loopw [64] (fun k wr => ∃ i : Nat, i ≤ (meetOf ls).length ∧ k = .int .i64 i ∧ wr = w8) (fun k _ => (meetOf ls).length - (intOf k).toNat)
      case atStart => exact ⟨0, Nat.zero_le _, rfl, rfl⟩
      case round =>
        obtain ⟨i, hi', rfl, rfl⟩ := hrel
        by_cases hlt : i < (meetOf ls).length
        · obtain ⟨b1, o1, rfl, hb1w, hc1⟩ := HL.out (by omega)
          have hx := hc1 i hlt
          obtain ⟨n, hn⟩ : ∃ n, (meetOf ls)[i] = n := ⟨_, rfl⟩
          rw [hn] at hx
          have hmn := HME.out n (by rw [← hn]; exact List.getElem_mem hlt)
          have hC2 := contains_any _ _ n wr HH.out.2.1
          rw [decide_eq_true hmn.1] at hC2
          have HC2 := Lib.hid hC2
          clear hc1 hn hC2
          clear hmn
          go_wp2_with first
            | (go_at_call 20; refine HC2.out.mono ?_; rintro e w9 ⟨rfl, rfl⟩)
            | fail
          go_roundw
          case rel => exact ⟨i + 1, by omega, by go_num, by first | rfl | trivial⟩
          case measure => simp [intOf]; omega
        · go_wp2_with (refine (isSorted_any _ _ _ HH.out.2.2.1 hrise).mono ?_; rintro e w9 ⟨rfl, hb9⟩)
          go_ret
          exact ⟨rfl, later_trans HH.out.2.2.2 hb9⟩
  · have hok := Bool.eq_false_iff.2 hok
    rw [errOf_no hok]
    have hmz : meetOf ls = [] := meetOf_no hok
    rw [hmz]
    simp only [List.length_nil]
    go_wp2_with fail
    go_ret
    exact ⟨rfl, HH.out.2.2.2⟩
end Go.Proofs.Ytenhpfhadbafbaa
