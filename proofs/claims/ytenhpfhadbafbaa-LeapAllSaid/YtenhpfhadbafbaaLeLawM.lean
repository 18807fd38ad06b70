/-
  The law LeapMeets, walked.
-/
import Derived.Test.YtenhpfhadbafbaaLeLawP
import Derived.Test.YtenhpfhadbafbaaLeWakes
namespace Go.Proofs.Ytenhpfhadbafbaa
open Go.RowKit
set_option linter.unusedVariables false

theorem boundOf_fits {k s m : Nat} (hk : k ≤ 64) (hs : s ≤ 1000) (hm : m ≤ 1000) : boundOf k s m ≤ 9223372036854775807 := by
  unfold boundOf
  have hlg := lg_le (1 + m : Int) (by omega)
  have h1 : 4 * k * (1 + s) ≤ 256 * 1001 := Nat.mul_le_mul (by omega) (by omega)
  have h2 : 4 * k * (1 + s) * (1 + lg (1 + m : Int)) ≤ 256 * 1001 * 63 := Nat.mul_le_mul h1 (by omega)
  omega

set_option maxRecDepth 100000 in
set_option maxHeartbeats 8000000 in
theorem lawMeets_walk (vx : Value) (xs : List (List Int)) (key mo : Int) (w : World) (hx : SlR w vx xs) (hmo : (Lit.int .i64 mo).wf = true) :
    Calls Try.prog 6 #[vx, .int .u64 key, .int .i64 mo] w fun e w' => e = .returned (.bool true) ∧ Below w.heap.size w w' := by
  obtain ⟨ax, cx, rfl, -⟩ := hx.open
  have hmo2 := (wf_i64 hmo).2
  have HX := Lib.hid hx
  clear hx hmo
  go_enter Try.func6, Try.ntmps6
  go_wp2_with fail
  refine (wakes_any _).mono ?_
  rintro e w1 ⟨rfl, hb1⟩
  have hx1 := HX.out.later hb1
  go_wp2_with fail
  refine (own_any _ _ _ hx1).mono ?_
  rintro e w2 ⟨v2, ps, rfl, hO2, hp2, hb2⟩
  have hb2 := later_trans hb1 hb2
  obtain ⟨ms, hms⟩ : ∃ ms, ownOf xs = ms := ⟨_, rfl⟩
  have hml6 : ms.length ≤ 6 := by rw [← hms]; exact ownOf_len _
  have h40 : ∀ r, r < ms.length → (rowN ms r).length ≤ 40 := by rw [← hms]; exact own_short xs
  have h1000 : ∀ r, r < ms.length → (rowN ms r).length ≤ 1000 := fun r hr => Nat.le_trans (h40 r hr) (by omega)
  have hR2 := hO2.slR
  rw [hp2, hms] at hR2
  have hnat := slR_nat hR2
  have hwf := meetOf_wf hR2
  obtain ⟨a2, c2, rfl, -⟩ := hR2.open
  clear hO2 hp2 hb1 hx1
  have HN := Lib.hid (And.intro h1000 hnat)
  go_wp2_with fail
  refine (meetL_any _ _ _ hR2 h1000 (by omega)).mono ?_
  rintro e w3 ⟨u3, n3, rfl, hown3, hb3, hle3, hz3⟩
  have hR3 := hR2.later hb3
  have hA3 := SlI.of_owns hown3 hwf
  have hb3 := later_trans hb2 hb3
  obtain ⟨a3, c3, rfl⟩ := owns_shape2 hown3
  clear hR2 hb2 hown3
  go_wp2_with fail
  refine (Bound_any _ _ _ hR3 h1000).mono ?_
  rintro e w4 ⟨rfl, hb4⟩
  have hR4 := hR3.later hb4
  have hA4 := hA3.later hb4
  have hb4 := later_trans hb3 hb4
  clear hR3 hA3 hb3
  by_cases hok : okB ms = true
  · rw [if_pos hok, if_pos hok]
    have hk := okB_iff.1 hok
    have hbf := boundOf_fits (k := ms.length) (s := minTo ms ms.length) (m := maxTo ms ms.length) (by omega) (minTo_most h1000 (by omega) ms.length (Nat.le_refl _)) (maxTo_le h1000 (by omega) ms.length (Nat.le_refl _))
    have hle3 := hle3 hok
    obtain ⟨bd, hbd⟩ : ∃ bd, boundOf ms.length (minTo ms ms.length) (maxTo ms ms.length) = bd := ⟨_, rfl⟩
    have HBD := Lib.hid hbd
    rw [hbd] at hle3 hbf ⊢
    have he0 := errOf_yes hok
    rw [he0]
    have hmy := meetOf_yes hok
    rw [hmy] at hA4 hwf ⊢
    have h00 : 0 < ms.length := by omega
    have hle3I : ((bd : Int) < n3) = False := eq_false (by omega)
    have hle3J : (bd < n3) = False := eq_false (by omega)
    clear hk hz3 hbd
    go_wp2_with fail
    refine (Some_any _ _ key mo _ hR4 h1000 hnat hmo2).mono ?_
    rintro e w5 ⟨hb5, h5⟩
    have hR5 := hR4.later hb5
    have hA5 := hA4.later hb5
    have hb5 := later_trans hb4 hb5
    clear hR4 hA4 hb4
    rcases h5 with ⟨h5, -⟩ | ⟨-, hneg, rfl⟩ | ⟨-, hpos, u5, rfl, hown5⟩
    · exact absurd h5 (by rw [hok]; decide)
    · have hnegI : (mo < 0) = True := eq_true hneg
      have hRt := right_any _ _ w5 hR5
      rw [hok] at hRt
      have HB5 := Lib.hid hb5
      have HR5 := Lib.hid hR5
      have HA5 := Lib.hid hA5
      have hsh := h1000 0 h00
      clear hb5 hR5 hA5
      go_wp2_with first
        | (go_at_call 9; refine hRt.mono ?_; rintro e w6 ⟨rfl, rfl⟩)
        | (go_at_call 24; refine (refCommon_any _ _ _ HR5.out h00 (by omega)).mono ?_; rintro e w7 ⟨u7, rfl, hown7, hb7⟩; obtain ⟨a7, c7, rfl⟩ := owns_shape2 hown7
           have HC7 := Lib.hid (SlI.of_owns hown7 hwf)
           have HR7 := Lib.hid (HR5.out.later hb7)
           have HA7 := Lib.hid (HA5.out.later hb7)
           have HB7 := Lib.hid (later_trans HB5.out hb7)
           clear hown7 hb7)
        | (go_at_call 23; refine (Check_any _ _ _ HR7.out).mono ?_; rw [if_pos hok]; rintro e w8 ⟨rfl, n8, hw8⟩; have hb8 : Below w7.heap.size w7 w8 := (by rw [hw8]; exact later_drewN _ _)
           have HC8 := Lib.hid (HC7.out.later hb8)
           have HR8 := Lib.hid (HR7.out.later hb8)
           have HA8 := Lib.hid (HA7.out.later hb8)
           have HB8 := Lib.hid (later_trans HB7.out hb8)
           clear hb8 hw8)
        | (go_at_call 18; refine (equal_any _ _ _ _ _ HA8.out HC8.out).mono ?_; rw [decide_eq_true rfl]; rintro e w9 ⟨rfl, n9, hw9⟩; have hb9 : Below w8.heap.size w8 w9 := (by rw [hw9]; exact later_drewN _ _)
           have HC9 := Lib.hid (HC8.out.later hb9)
           have HR9 := Lib.hid (HR8.out.later hb9)
           have HB9 := Lib.hid (later_trans HB8.out hb9)
           clear hb9 hw9)
        | (go_at_call 13; refine (refBound_any _ _ _ HR9.out HN.out.1 h00 (by omega)).mono ?_; rw [HBD.out]; rintro e w10 ⟨rfl, rfl⟩)
        | fail
      go_ret
      exact ⟨rfl, HB9.out⟩
    · have hposI : (mo < 0) = False := eq_false (by omega)
      have hwf5 : ∀ n ∈ someOf (commonAll ms) key mo, (Lit.int .u64 n).wf = true := fun n hn => hwf n (List.mem_filter.1 (List.mem_of_mem_take hn)).1
      have hS5 := SlI.of_owns hown5 hwf5
      obtain ⟨a5, c5, rfl⟩ := owns_shape2 hown5
      have hRt := right_any _ _ w5 hR5
      rw [hok] at hRt
      have HB5 := Lib.hid hb5
      have HR5 := Lib.hid hR5
      have HA5 := Lib.hid hA5
      have hsh := h1000 0 h00
      have HS5 := Lib.hid hS5
      have HXX := Lib.hid (HX.out.later hb5)
      clear hown5 hS5
      clear hb5 hR5 hA5
      go_wp2_with first
        | (go_at_call 9; refine hRt.mono ?_; rintro e w6 ⟨rfl, rfl⟩)
        | (go_at_call 24; refine (refCommon_any _ _ _ HR5.out h00 (by omega)).mono ?_; rintro e w7 ⟨u7, rfl, hown7, hb7⟩; obtain ⟨a7, c7, rfl⟩ := owns_shape2 hown7
           have HC7 := Lib.hid (SlI.of_owns hown7 hwf)
           have HR7 := Lib.hid (HR5.out.later hb7)
           have HA7 := Lib.hid (HA5.out.later hb7)
           have HB7 := Lib.hid (later_trans HB5.out hb7)
           have HS7 := Lib.hid (HS5.out.later hb7)
           have HX7 := Lib.hid (HXX.out.later hb7)
           clear hown7 hb7)
        | (go_at_call 23; refine (Check_any _ _ _ HR7.out).mono ?_; rw [if_pos hok]; rintro e w8 ⟨rfl, n8, hw8⟩; have hb8 : Below w7.heap.size w7 w8 := (by rw [hw8]; exact later_drewN _ _)
           have HC8 := Lib.hid (HC7.out.later hb8)
           have HR8 := Lib.hid (HR7.out.later hb8)
           have HA8 := Lib.hid (HA7.out.later hb8)
           have HB8 := Lib.hid (later_trans HB7.out hb8)
           have HS8 := Lib.hid (HS7.out.later hb8)
           have HX8 := Lib.hid (HX7.out.later hb8)
           clear hb8 hw8)
        | (go_at_call 18; refine (equal_any _ _ _ _ _ HA8.out HC8.out).mono ?_; rw [decide_eq_true rfl]; rintro e w9 ⟨rfl, n9, hw9⟩; have hb9 : Below w8.heap.size w8 w9 := (by rw [hw9]; exact later_drewN _ _)
           have HC9 := Lib.hid (HC8.out.later hb9)
           have HR9 := Lib.hid (HR8.out.later hb9)
           have HB9 := Lib.hid (later_trans HB8.out hb9)
           have HS9 := Lib.hid (HS8.out.later hb9)
           have HX9 := Lib.hid (HX8.out.later hb9)
           clear hb9 hw9)
        | (go_at_call 13; refine (refBound_any _ _ _ HR9.out HN.out.1 h00 (by omega)).mono ?_; rw [HBD.out]; rintro e w10 ⟨rfl, rfl⟩)
        | fail
      have hcl : (commonAll ms).length ≤ 1000 := Nat.le_trans (List.length_filter_le _ _) hsh
      refine (refSome_any _ _ key mo _ HC9.out (by omega)).mono ?_
      rintro e w11 ⟨u11, rfl, hown11, hb11⟩
      have hS11 := HS9.out.later hb11
      have hX11 := HX9.out.later hb11
      have hR11 := HR9.out.later hb11
      have hD11 := SlI.of_owns hown11 hwf5
      have hB11 := later_trans HB9.out hb11
      obtain ⟨a11, c11, rfl⟩ := owns_shape2 hown11
      clear hown11 hb11
      go_wp2_with fail
      refine (equal_any _ _ _ _ _ hS11 hD11).mono ?_
      rw [decide_eq_true rfl]
      rintro e w12 ⟨rfl, n12, hw12⟩
      have hb12 : Below w11.heap.size w11 w12 := by rw [hw12]; exact later_drewN _ _
      have hX12 := hX11.later hb12
      have hR12 := hR11.later hb12
      have hB12 := later_trans hB11 hb12
      clear hw12 hb12 hS11 hD11 hX11 hR11 hB11
      go_wp2_with fail
      refine (own_any _ _ _ hX12).mono ?_
      rintro e w13 ⟨v13, ps13, rfl, hO13, hp13, hb13⟩
      have hR13 := hR12.later hb13
      have hQ13 := hO13.slR
      rw [hp13, hms] at hQ13
      have hB13 := later_trans hB12 hb13
      clear hX12 hR12 hB12 hO13 hp13 hb13
      obtain ⟨a13, c13, rfl, -⟩ := hQ13.open
      go_wp2_with fail
      refine (same_any _ _ _ _ _ hR13 hQ13).mono ?_
      rw [decide_eq_true rfl]
      rintro e w14 ⟨rfl, n14, hw14⟩
      have hB14 : Below w.heap.size w w14 := by rw [hw14]; exact later_trans hB13 (later_drewN _ _)
      clear hw14 hR13 hQ13 hB13
      go_wp2_with fail
      go_ret
      exact ⟨rfl, hB14⟩
  · have hok := Bool.eq_false_iff.2 hok
    have hok' : ¬ okB ms = true := by rw [hok]; decide
    rw [if_neg hok', if_neg hok']
    obtain rfl := hz3 hok
    have he0 := errOf_no hok
    rw [he0]
    have hmn := meetOf_no hok
    rw [hmn] at hA4 ⊢
    clear hle3 hz3
    go_wp2_with fail
    refine (Some_any _ _ key mo _ hR4 h1000 hnat hmo2).mono ?_
    rintro e w5 ⟨hb5, h5⟩
    have hR5 := hR4.later hb5
    have hb5 := later_trans hb4 hb5
    clear hR4 hA4 hb4
    rcases h5 with ⟨-, rfl⟩ | ⟨h5, -⟩ | ⟨h5, -⟩
    · have hC := Check_any _ _ w5 hR5
      rw [if_neg hok'] at hC
      have hRt := right_any _ _ w5 hR5
      rw [hok] at hRt
      have HB := Lib.hid hb5
      go_wp2_with first
        | (go_at_call 9; refine hRt.mono ?_; rintro e w6 ⟨rfl, rfl⟩)
        | (go_at_call 23; refine hC.mono ?_; rintro e w7 ⟨rfl, n7, rfl⟩)
        | fail
      go_ret
      exact ⟨rfl, later_trans HB.out (later_drewN _ _)⟩
    · exact absurd h5 hok'
    · exact absurd h5 hok'
end Go.Proofs.Ytenhpfhadbafbaa
