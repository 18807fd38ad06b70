/-
  The document's answer for the cursor (colanderref08), walked: Path. (Printed by mkcur3.py.)
-/
import Derived.Test.YtdfnfdgkhflonaaCuR2
namespace Go.Proofs.Ytdfnfdgkhflonaa
open Go.RowKit
set_option linter.unusedVariables false

set_option maxRecDepth 100000 in
set_option maxHeartbeats 4000000 in
theorem path08_any {ab al : Option Addr} {nb cb nl cl d : Nat} {w : World} {z1 z2 le mo : Int} {rows : List (List Int × Nat)} (hd : d ≤ 2) (hl : rows.length = d)
    (hR : ∀ k, 1 ≤ k → k ≤ d → ∃ xs r, RowIs #[.slice ab nb cb, .slice al nl cl, .int .i64 d, .int .i64 0, .int .i64 z1, .int .i64 z2, .int .i64 le, .int .i64 mo] k xs w ∧ (if k = 1 then z1 else z2) = (r : Nat) ∧ xs.length ≤ 1048576 ∧ ((∀ h : r < xs.length, pathR (rows.take k) = pathR (rows.take (k - 1)) ++ [xs[r]]) ∧ (¬ r < xs.length → pathR (rows.take k) = pathR (rows.take (k - 1))))) :
    Calls Try.prog 63 #[.agg #[.slice ab nb cb, .slice al nl cl, .int .i64 d, .int .i64 0, .int .i64 z1, .int .i64 z2, .int .i64 le, .int .i64 mo]] w fun e w' => ∃ v', e = .returned v' ∧ w'.ownsRow w.heap.size 38 1 v' (pathR rows).length ((pathR rows).map (.int .u64)) ∧ Below w.heap.size w w' := by
  obtain ⟨i0, hi, hz0, hz1, hz2⟩ := info_parts info_u64
  have HRow := Lib.hid hR
  have HL := Lib.hid hl
  clear hR hl
  go_enter Try.func63, Try.ntmps63
  go_wp2_with fail
  go_loopw [3, 4] (fun out kv wr => ∃ k : Nat, 1 ≤ k ∧ k ≤ d + 1 ∧ kv = .int .i64 k ∧ wr.ownsRow w.heap.size 38 1 out (pathR (rows.take (k - 1))).length ((pathR (rows.take (k - 1))).map (.int .u64)) ∧ Below w.heap.size w wr ∧ wr.heap[w.heap.size]? = some (.cells #[.slice ab nb cb, .slice al nl cl, .int .i64 d, .int .i64 0, .int .i64 z1, .int .i64 z2, .int .i64 le, .int .i64 mo] 36 (0, 0))) (fun _ k _ => 4 - (intOf k).toNat)
  case atStart => exact ⟨1, by omega, by omega, rfl, World.ownsRow_nil _ _ _ _, later_alloc w _, box_new w _ _⟩
  case round =>
    obtain ⟨k, hk1, hk2, rfl, hown, hb, hX⟩ := hrel
    by_cases hkd : k ≤ d
    · have hkc : k = 1 ∨ k = 2 := by omega
      rcases hkc with rfl | rfl
      · obtain ⟨xs, r, hR, hz, hxl, hrow⟩ := HRow.out 1 (by omega) (by omega)
        have hz : z1 = r := hz
        subst hz
        have HR := Lib.hid (hR.later hb)
        obtain ⟨y0, y1, y2, y3, y4, y5, y6, y7⟩ := box8 hX
        have HST := Lib.hid hrow
        have HB := Lib.hid hb
        have HX := Lib.hid hX
        have hdk : (1 : Int) ≤ d := by omega
        have HOwn := Lib.hid hown
        clear hR hrow hb hX hown
        go_wp2_with fail
        refine (HR.out _ (Below.refl _ _)).mono ?_
        rintro e w2 ⟨ar, cr, rfl, sr, hb2⟩
        have HSR := Lib.hid sr
        have hX2 := (hb2.block _ (lt_of_block HX.out)).trans HX.out
        have hbw2 := later_trans HB.out hb2
        have hown2 := owns_later HOwn.out hb2
        obtain ⟨x0, x1, x2, x3, x4, x5, x6, x7⟩ := box8 hX2
        have HX2 := Lib.hid hX2
        have HB2 := Lib.hid hbw2
        have hsz2 := hbw2.size
        clear HX HB HOwn hb2 hX2 sr y0 y1 y2 y3 y4 y5 y6 y7 hbw2
        by_cases hlt : r < xs.length
        · obtain ⟨a', c', e1, _, _, h4⟩ := HSR.out.open'
          cases e1
          obtain ⟨br, or_, rfl, _, hcx⟩ := h4 (by omega)
          have hcy := hcx r hlt
          clear hcx
          obtain ⟨x, hx⟩ : ∃ x, xs[r] = x := ⟨_, rfl⟩
          rw [hx] at hcy
          have HSX := Lib.hid (HST.out.1 hlt)
          rw [hx] at HSX
          have hltI : (r : Int) < xs.length := by omega
          obtain ⟨m, hm⟩ : ∃ m, (pathR (rows.take 0)).length = m := ⟨_, rfl⟩
          rw [hm] at hown2
          obtain ⟨ao, co, rfl⟩ := owns_shape2 hown2
          have hml : m ≤ 2 := by have := pathR_len (rows.take 0); rw [List.length_take] at this; omega
          have HM := Lib.hid hm
          clear hx h4 hm
          go_wp2_with (at_builtin; refine wpList_append_own _ rfl (.tmp 22) (.tmp 30) 23 rfl w.heap.size 38 i0 _ 1 8 Try.underlying23 hi hz0 hz1 hz2 rfl (by decide) _ _ _ rfl (hown2.alloc _) ⟨_, 0, none⟩ 1 1 [.int .u64 x] rfl rfl (cells_new _ _ _) (by simp [Value.oneCell']) (by unfold maxLen; omega) (by omega) (by simp; omega) ?_; intro v6 w6 hown6 hgrow6 _; obtain ⟨g6, cap6, rfl⟩ := ownsRow_succ hown6)
          go_roundw
          case rel =>
            refine ⟨2, by omega, by omega, by go_num, ?_, (later_trans HB2.out (later_alloc _ _)).grown hgrow6 (by simp; omega) (owns_above hown2), box_grown (hown2.alloc _) hgrow6 (box_alloc HX2.out _) (by decide)⟩
            rw [show 2 - 1 = 1 from rfl, HSX.out]
            rw [List.length_append, List.map_append, HM.out]
            exact hown6
          case measure => first | (simp [intOf]; done) | (simp [intOf]; omega)
        · have HSX := Lib.hid (HST.out.2 hlt)
          go_wp2_with fail
          go_roundw
          case rel =>
            refine ⟨2, by omega, by omega, by go_num, ?_, HB2.out, HX2.out⟩
            rw [show 2 - 1 = 1 from rfl, HSX.out]
            exact hown2
          case measure => first | (simp [intOf]; done) | (simp [intOf]; omega)
      · obtain ⟨xs, r, hR, hz, hxl, hrow⟩ := HRow.out 2 (by omega) (by omega)
        have hz : z2 = r := hz
        subst hz
        have HR := Lib.hid (hR.later hb)
        obtain ⟨y0, y1, y2, y3, y4, y5, y6, y7⟩ := box8 hX
        have HST := Lib.hid hrow
        have HB := Lib.hid hb
        have HX := Lib.hid hX
        have hdk : (2 : Int) ≤ d := by omega
        have HOwn := Lib.hid hown
        clear hR hrow hb hX hown
        go_wp2_with fail
        refine (HR.out _ (Below.refl _ _)).mono ?_
        rintro e w2 ⟨ar, cr, rfl, sr, hb2⟩
        have HSR := Lib.hid sr
        have hX2 := (hb2.block _ (lt_of_block HX.out)).trans HX.out
        have hbw2 := later_trans HB.out hb2
        have hown2 := owns_later HOwn.out hb2
        obtain ⟨x0, x1, x2, x3, x4, x5, x6, x7⟩ := box8 hX2
        have HX2 := Lib.hid hX2
        have HB2 := Lib.hid hbw2
        have hsz2 := hbw2.size
        clear HX HB HOwn hb2 hX2 sr y0 y1 y2 y3 y4 y5 y6 y7 hbw2
        by_cases hlt : r < xs.length
        · obtain ⟨a', c', e1, _, _, h4⟩ := HSR.out.open'
          cases e1
          obtain ⟨br, or_, rfl, _, hcx⟩ := h4 (by omega)
          have hcy := hcx r hlt
          clear hcx
          obtain ⟨x, hx⟩ : ∃ x, xs[r] = x := ⟨_, rfl⟩
          rw [hx] at hcy
          have HSX := Lib.hid (HST.out.1 hlt)
          rw [hx] at HSX
          have hltI : (r : Int) < xs.length := by omega
          obtain ⟨m, hm⟩ : ∃ m, (pathR (rows.take 1)).length = m := ⟨_, rfl⟩
          rw [hm] at hown2
          obtain ⟨ao, co, rfl⟩ := owns_shape2 hown2
          have hml : m ≤ 2 := by have := pathR_len (rows.take 1); rw [List.length_take] at this; omega
          have HM := Lib.hid hm
          clear hx h4 hm
          go_wp2_with (at_builtin; refine wpList_append_own _ rfl (.tmp 22) (.tmp 30) 23 rfl w.heap.size 38 i0 _ 1 8 Try.underlying23 hi hz0 hz1 hz2 rfl (by decide) _ _ _ rfl (hown2.alloc _) ⟨_, 0, none⟩ 1 1 [.int .u64 x] rfl rfl (cells_new _ _ _) (by simp [Value.oneCell']) (by unfold maxLen; omega) (by omega) (by simp; omega) ?_; intro v6 w6 hown6 hgrow6 _; obtain ⟨g6, cap6, rfl⟩ := ownsRow_succ hown6)
          go_roundw
          case rel =>
            refine ⟨3, by omega, by omega, by go_num, ?_, (later_trans HB2.out (later_alloc _ _)).grown hgrow6 (by simp; omega) (owns_above hown2), box_grown (hown2.alloc _) hgrow6 (box_alloc HX2.out _) (by decide)⟩
            rw [show 3 - 1 = 2 from rfl, HSX.out]
            rw [List.length_append, List.map_append, HM.out]
            exact hown6
          case measure => first | (simp [intOf]; done) | (simp [intOf]; omega)
        · have HSX := Lib.hid (HST.out.2 hlt)
          go_wp2_with fail
          go_roundw
          case rel =>
            refine ⟨3, by omega, by omega, by go_num, ?_, HB2.out, HX2.out⟩
            rw [show 3 - 1 = 2 from rfl, HSX.out]
            exact hown2
          case measure => first | (simp [intOf]; done) | (simp [intOf]; omega)
    · obtain rfl : k = d + 1 := by omega
      have e : rows.take (d + 1 - 1) = rows := List.take_of_length_le (by rw [HL.out]; omega)
      rw [e] at hown
      obtain ⟨y0, y1, y2, y3, y4, y5, y6, y7⟩ := box8 hX
      obtain ⟨ao, co, rfl⟩ := owns_shape2 hown
      go_wp2_with fail
      go_ret
      exact ⟨_, rfl, hown, hb⟩
end Go.Proofs.Ytdfnfdgkhflonaa
