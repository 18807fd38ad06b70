/-
  The law LeapAll, walked.
-/
import Derived.Test.YtenhpfhadbafbaaLeLawM
import Derived.Test.YtenhpfhadbafbaaLeRefLp
namespace Go.Proofs.Ytenhpfhadbafbaa
open Go.RowKit
set_option linter.unusedVariables false

def intsN (a : List Nat) : List Int := a.map (fun (n : Nat) => (n : Int))
theorem natsOf_ints (a : List Nat) : natsOf (intsN a) = a := by
  unfold natsOf intsN
  rw [List.map_map]
  simp [Function.comp_def]
theorem cellsN (a : List Nat) : a.map (fun (n : Nat) => Value.int .i64 (n : Int)) = (intsN a).map (Value.int .i64) := by unfold intsN; rw [List.map_map]; rfl
theorem wfN {a : List Nat} {B : Nat} (hB : B ≤ 9223372036854775807) (h : ∀ n ∈ a, n ≤ B) : ∀ x ∈ intsN a, (Lit.int .i64 x).wf = true := fun x hx => by
  obtain ⟨n, hn, rfl⟩ := List.mem_map.1 hx
  have := h n hn
  have h2 : -9223372036854775808 ≤ (n : Int) ∧ (n : Int) ≤ 9223372036854775807 := ⟨by omega, by omega⟩
  simpa [Lit.wf, IntKind.min, IntKind.max, IntKind.wrap, IntKind.signed, IntKind.bits] using h2
/-- Places in rows, none behind its row's end. -/
def InRows (ls : List (List Int)) (a : List Nat) : Prop := a.length = ls.length ∧ ∀ r, r < ls.length → atN a r ≤ (rowN ls r).length
theorem InRows.may {ls : List (List Int)} {a : List Nat} (h : InRows ls a) : MayAt ls (intsN a) := by
  refine ⟨by simpa [intsN] using h.1, fun r hr => ?_⟩
  have h1 := h.2 r hr
  have h2 : r < a.length := by rw [h.1]; exact hr
  have e : (intsN a).getD r 0 = (atN a r : Int) := by simp [intsN, atN, List.getD, List.getElem?_eq_getElem h2]
  rw [e]
  omega
theorem InRows.few {ls : List (List Int)} {a : List Nat} (h : InRows ls a) (hS : ∀ r, r < ls.length → (rowN ls r).length ≤ 1000) : ∀ n ∈ a, n ≤ 1000 := fun n hn => by
  obtain ⟨r, hr, rfl⟩ := List.getElem_of_mem hn
  have h1 := h.2 r (by rw [← h.1]; exact hr)
  have h2 := hS r (by rw [← h.1]; exact hr)
  have e : atN a r = a[r] := by simp [atN, List.getD, List.getElem?_eq_getElem hr]
  omega
theorem inRows_zero (ls : List (List Int)) : InRows ls (List.replicate ls.length 0) := by
  refine ⟨by simp, fun r hr => ?_⟩
  have e : atN (List.replicate ls.length 0) r = 0 := by simp [atN, List.getD, hr]
  omega
theorem inRows_next {ls : List (List Int)} {a ats : List Nat} {key : Int} {t : Nat} (h : LeapY ls a ats key t) (h0 : 0 < ls.length) : InRows ls (ats.set 0 (atN ats 0 + 1)) := by
  refine ⟨by rw [List.length_set]; exact h.n, fun r hr => ?_⟩
  have h1 := (h.at_ r hr).1
  rw [atN_set (by rw [h.n]; exact h0)]
  split
  · rename_i e; subst e; omega
  · omega
theorem commonAll_few {ls : List (List Int)} {B : Nat} (hS : ∀ r, r < ls.length → (rowN ls r).length ≤ B) (h0 : 0 < ls.length) : (commonAll ls).length ≤ B := Nat.le_trans (List.length_filter_le _ _) (hS 0 h0)

theorem someOf_all {l : List Int} (h : ∀ n ∈ l, 0 ≤ n) : someOf l 0 (l.length : Int) = l := by
  unfold someOf
  rw [List.filter_eq_self.2 (fun n hn => by simpa [geB] using h n hn), Int.toNat_natCast, List.take_of_length_le (Nat.le_refl _)]

set_option maxRecDepth 100000 in
set_option maxHeartbeats 16000000 in
theorem lawAll_walk (vx : Value) (xs : List (List Int)) (w : World) (hx : SlR w vx xs) :
    Calls Try.prog 4 #[vx] w fun e w' => e = .returned (.bool true) ∧ Below w.heap.size w w' := by
  obtain ⟨i0, hi, hz0, hz1, hz2⟩ := info_parts info_int
  obtain ⟨j0, hju, jz0, jz1, jz2⟩ := info_parts info_u64
  obtain ⟨ax, cx, rfl, -⟩ := hx.open
  have HX := Lib.hid hx
  clear hx
  go_enter Try.func4, Try.ntmps4
  go_wp2_with fail
  refine (wakes_any _).mono ?_
  rintro e w1 ⟨rfl, hb1⟩
  have hx1 := HX.out.later hb1
  go_wp2_with fail
  refine (own_any _ _ _ hx1).mono ?_
  rintro e w2 ⟨v2, ps, rfl, hO2, hp2, hb2⟩
  have hb2 := later_trans hb1 hb2
  obtain ⟨ms, hms⟩ : ∃ ms, ownOf xs = ms := ⟨_, rfl⟩
  have hml6 : ms.length ≤ 6 := by rw [← hms]; exact ownOf_len _
  have h40 : ∀ r, r < ms.length → (rowN ms r).length ≤ 40 := by rw [← hms]; exact own_short xs
  have h1000 : ∀ r, r < ms.length → (rowN ms r).length ≤ 1000 := fun r hr => Nat.le_trans (h40 r hr) (by omega)
  have hR2 := hO2.slR
  rw [hp2, hms] at hR2
  have hnat := slR_nat hR2
  have hwf := meetOf_wf hR2
  obtain ⟨a2, c2, rfl, -⟩ := hR2.open
  clear hO2 hp2 hb1 hx1 hms
  go_wp2_with fail
  refine (meetL_any _ _ _ hR2 h1000 (by omega)).mono ?_
  rintro e w3 ⟨u3, n3, rfl, hown3, hb3, -, -⟩
  have hR3 := hR2.later hb3
  have hs23 := hb3.size
  have hb3 := later_trans hb2 hb3
  obtain ⟨a3, c3, rfl⟩ := owns_shape2 hown3
  clear hR2 hb2
  by_cases hok : okB ms = true
  · have hk := okB_iff.1 hok
    have h00 : 0 < ms.length := by omega
    have hR := rowsOk_of hok h1000 hnat
    rw [errOf_yes hok]
    rw [meetOf_yes hok] at hown3 hwf ⊢
    have HR := Lib.hid (And.intro hR (And.intro h40 (And.intro hwf hnat)))
    have HR3 := Lib.hid hR3
    have hcf := commonAll_few h40 h00
    have hA3 := SlI.of_owns hown3 hwf
    have HA3 := Lib.hid hA3
    have HB3 := Lib.hid hb3
    have hmz : (ms.length : Int) ≤ 6 := by omega
    clear hk hR h40 hwf hR3 hA3 hown3 hb3 hnat
    go_wp2_with (at_make; refine wpList_make_full _ rfl (.tmp 32) (.tmp 32) 27 rfl w3.heap.size 3 i0 _ 1 Try.underlying27 hi hz0 hz1 .i64 .i64 _ _ ms.length rfl rfl (by omega) (by omega) (by rw [hz2]; omega) (by unfold maxLen; omega) (Nat.le_refl _) ?_; intro w4 hown4 hgrow4; have hb4 : Below w3.heap.size w3 w4 := (Below.refl _ w3).grown hgrow4 (Nat.le_refl _) (fun k e => (by cases e)); rw [made_zeros] at hown4; have hz4 := hb4.size; have HW4 := Lib.hid (And.intro hb4 hown4); clear hb4 hown4 hgrow4)
    go_loopw [7, 8, 34] (fun at_ al k wr => ∃ (i : Nat) (pre : List Int) (a : List Nat) (g c : Nat), i ≤ 42 ∧ k = .int .i64 i ∧ pre.length = i ∧ at_ = .slice (some ⟨g, 0, none⟩) ms.length c ∧ pre ++ commonFrom ms a = commonAll ms ∧ InRows ms a ∧ wr.ownsRow w3.heap.size 3 1 at_ ms.length (a.map (fun (n : Nat) => Value.int .i64 (n : Int))) ∧ wr.ownsRow w3.heap.size 40 1 al pre.length (pre.map (.int .u64)) ∧ Below w3.heap.size w3 wr) (fun _ _ k _ => 42 - (intOf k).toNat)
    case atStart => exact ⟨0, [], List.replicate ms.length 0, _, _, by omega, rfl, rfl, rfl, by rw [common_perm (List.Perm.refl ms) HR.out.1]; rfl, inRows_zero ms, HW4.out.2, World.ownsRow_nil _ _ _ _, HW4.out.1⟩
    case round =>
      obtain ⟨i, pre, a, g, c, hi42, rfl, hpi, rfl, hpre, hin, hat, hal, hb⟩ := hrel
      obtain ⟨aa, ca, rfl⟩ := owns_shape2 hal
      have hle : i ≤ 40 := by
        have := congrArg List.length hpre
        rw [List.length_append] at this
        omega
      have hi43 : i < 42 := by omega
      have hatc := hat
      rw [cellsN] at hatc
      have hA := SlI.of_owns hatc (wfN (B := 1000) (by omega) (hin.few h1000))
      have HL := Lib.hid (Leap_any _ _ ms (intsN a) wr (HR3.out.later hb) hA h1000 HR.out.2.2.2)
      have HI := Lib.hid (And.intro hpre (And.intro hin (And.intro hal hb)))
      have hsz := hb.size
      have hs0' := hsz
      rw [hpi] at hal ⊢
      clear hpre hin hat hatc hA hb
      go_wp2_with fail
      refine HL.out.mono ?_
      rintro e w5 ⟨hb5, h5⟩
      have hal5 := owns_later hal hb5
      have hb35 := later_trans HI.out.2.2.2 hb5
      rcases h5 with ⟨h5, -⟩ | ⟨-, h5, -⟩ | ⟨-, -, ats, t, n5, -, h5⟩
      · exact absurd h5 (by rw [hok]; decide)
      · exact absurd HI.out.2.1.may h5
      rw [natsOf_ints] at h5
      rcases h5 with ⟨hZ, rfl⟩ | ⟨key, g5, c5, hY, rfl, hown5⟩
      · have hnone := common_no hZ h00
        have hpa : pre = commonAll ms := by
          have := HI.out.1
          rw [hnone, List.append_nil] at this
          exact this
        have HPA := Lib.hid hpa
        have hR5 := HR3.out.later hb35
        have hL5 := SlI.of_owns hal5 (fun n hn => HR.out.2.2.1 n (by rw [← HPA.out]; exact hn))
        have hW5 := HA3.out.later hb35
        have hB5 := later_trans HB3.out hb35
        have hc0 : ∀ n ∈ commonAll ms, 0 ≤ n := fun n hn => (wf_u64 (HR.out.2.2.1 n hn)).1
        clear hal hal5 HL hpa hnone hZ hb5 hb35
        go_wp2_with fail
        refine (Some_any _ _ 0 i _ hR5 h1000 HR.out.2.2.2 (by omega)).mono ?_
        rintro e w6 ⟨hb6, h6⟩
        rcases h6 with ⟨h6, -⟩ | ⟨-, h6, -⟩ | ⟨-, -, u6, rfl, hown6⟩
        · exact absurd h6 (by rw [hok]; decide)
        · omega
        have hlen : (commonAll ms).length = i := by rw [← HPA.out]; exact hpi
        rw [show (i : Int) = ((commonAll ms).length : Int) from by rw [hlen], someOf_all hc0] at hown6
        have hS6 := SlI.of_owns hown6 HR.out.2.2.1
        have hL6 := hL5.later hb6
        have hW6 := hW5.later hb6
        have hB6 := later_trans hB5 hb6
        obtain ⟨a6, c6, rfl⟩ := owns_shape2 hown6
        rw [HPA.out] at hL6
        clear hown6 hb6 hR5 hL5 hW5 hB5 hlen
        go_wp2_with fail
        refine (equal_any _ _ _ _ _ hL6 hW6).mono ?_
        rw [decide_eq_true rfl]
        rintro e w7 ⟨rfl, n7, hw7⟩
        have hb7 : Below w6.heap.size w6 w7 := by rw [hw7]; exact later_drewN _ _
        have hS7 := hS6.later hb7
        have hW7 := hW6.later hb7
        have hB7 := later_trans hB6 hb7
        clear hw7 hb7 hL6 hS6 hW6 hB6
        go_wp2_with fail
        refine (equal_any _ _ _ _ _ hS7 hW7).mono ?_
        rw [decide_eq_true rfl]
        rintro e w8 ⟨rfl, n8, hw8⟩
        have hB8 : Below w.heap.size w w8 := by rw [hw8]; exact later_trans hB7 (later_drewN _ _)
        clear hw8 hS7 hW7 hB7
        go_wp2_with fail
        go_ret
        exact ⟨rfl, hB8⟩
      · obtain ⟨aR, cR, eR, -, -, -, r4⟩ := HR3.out.open
        cases eR
        obtain ⟨bR, oR, rfl, hbR, hcR⟩ := r4 h00
        have HCR := Lib.hid hcR
        obtain ⟨rv0, q0, hrv0⟩ := hcR 0 h00
        obtain ⟨a7, c7, rfl, -, -, -, s4⟩ := hrv0.open
        have hy0 := hY.at_ 0 h00
        obtain ⟨k0, hk0⟩ : ∃ k0, atN ats 0 = k0 := ⟨_, rfl⟩
        have hkl : k0 < (rowN ms 0).length := by rw [← hk0]; exact hy0.1
        have hk40 : k0 < 40 := by have := HR.out.2.1 0 h00; omega
        obtain ⟨b7, o7, rfl, hb7w, hc7⟩ := s4 (by omega)
        have q1 := hc7 k0 hkl
        have e1 : (rowN ms 0)[k0] = key := by
          have := hy0.2
          unfold valN at this
          rw [hk0, getD_at hkl] at this
          exact this
        rw [e1] at q1
        have q0 := ((bcell hb35).1 bR (oR + 0) hbR).trans q0
        rw [Nat.add_zero] at q0
        have q1 := ((bcell hb35).1 b7 (o7 + k0) hb7w).trans q1
        have hal0 : ats[0]? = some k0 := by
          rw [List.getElem?_eq_getElem (by rw [hY.n]; exact h00)]
          rw [← hk0]
          simp [atN, List.getD, List.getElem?_eq_getElem (show 0 < ats.length by rw [hY.n]; exact h00)]
        obtain ⟨q2, q3⟩ := owns_cell (j := 0) (u := .int .i64 (k0 : Int)) hown5 (by rw [List.getElem?_map, hal0]; rfl)
        obtain ⟨l0, hl0⟩ : ∃ l0, (rowN ms 0).length = l0 := ⟨_, rfl⟩
        rw [hl0] at q0 hkl
        have hg5 := (hown5.lt g5 rfl).1
        have HY := Lib.hid (And.intro hY (And.intro hk0 hl0))
        have HO5 := Lib.hid (And.intro hown5 (And.intro hal5 hb35))
        have hs5 := hb35.size
        have hklI : (k0 : Int) < l0 := by omega
        have h0I : (0 : Int) < ms.length := by omega
        clear r4 hcR hrv0 s4 hy0 hc7 e1 hal0 hk0 hl0 hal HL hb5 hb35 hY hown5 hal5
        go_wp2_with fail
        go_quiet (fail)
        go_wp2_with fail
        go_loopw [55] (fun k wr' => ∃ j : Nat, j ≤ ms.length ∧ k = .int .i64 j ∧ Below w5.heap.size w5 wr') (fun k _ => ms.length - (intOf k).toNat)
        case atStart => exact ⟨0, Nat.zero_le _, rfl, later_drewN _ _⟩
        case round =>
          obtain ⟨j, hj, rfl, hbj⟩ := hrel
          have hown6 := owns_later HO5.out.1 hbj
          by_cases hjl : j < ms.length
          · have hwj := later_trans HO5.out.2.2 hbj
            obtain ⟨rvj, p0, hrvj⟩ := HCR.out j hjl
            obtain ⟨aj, cj, rfl, -, -, -, sj⟩ := hrvj.open
            have hyj := HY.out.1.at_ j hjl
            obtain ⟨kj, hkj⟩ : ∃ kj, atN ats j = kj := ⟨_, rfl⟩
            have hkjl : kj < (rowN ms j).length := by rw [← hkj]; exact hyj.1
            obtain ⟨bj, oj, rfl, hbjw, hcj⟩ := sj (by omega)
            have p1 := hcj kj hkjl
            have ej : (rowN ms j)[kj] = key := by
              have := hyj.2
              unfold valN at this
              rw [hkj, getD_at hkjl] at this
              exact this
            rw [ej] at p1
            have p0 := ((bcell hwj).1 bR (oR + j) hbR).trans p0
            have p1 := ((bcell hwj).1 bj (oj + kj) hbjw).trans p1
            have halj : ats[j]? = some kj := by
              have hl : j < ats.length := by rw [HY.out.1.n]; exact hjl
              rw [List.getElem?_eq_getElem hl, ← hkj]
              simp [atN, List.getD, List.getElem?_eq_getElem hl]
            obtain ⟨p2, -⟩ := owns_cell (j := j) (u := .int .i64 (kj : Int)) hown6 (by rw [List.getElem?_map, halj]; rfl)
            obtain ⟨lj, hlj⟩ : ∃ lj, (rowN ms j).length = lj := ⟨_, rfl⟩
            rw [hlj] at p0 hkjl
            have hkjI : (kj : Int) < lj := by omega
            have hjI : (j : Int) < ms.length := by omega
            have HBJ := Lib.hid hbj
            have hkk : (key != key) = false := by simp
            clear hrvj sj hyj hcj ej halj hlj hkj hwj hown6 hbj
            go_wp2_with fail
            go_roundw
            case rel => exact ⟨j + 1, by omega, by go_num, HBJ.out⟩
            case measure => simp [intOf]; omega
          · obtain rfl : j = ms.length := by omega
            have hal6 := owns_later HO5.out.2.1 hbj
            have hb36 := later_trans HO5.out.2.2 hbj
            have hs6 := hb36.size
            obtain ⟨x0, x1⟩ := owns_cell (j := 0) (u := .int .i64 (k0 : Int)) hown6 (by rw [List.getElem?_map]; have hl : 0 < ats.length := (by rw [HY.out.1.n]; exact h00); rw [List.getElem?_eq_getElem hl]; have := HY.out.2.1; simp [atN, List.getD, List.getElem?_eq_getElem hl] at this; rw [this]; rfl)
            have HO6 := Lib.hid (And.intro hown6 hb36)
            have hi40 : i ≤ 40 := hle
            clear hown6 hb36 hbj
            go_wp2_with (at_builtin; refine wpList_append_own _ rfl (.tmp 70) (.tmp 72) 32 rfl w3.heap.size 40 j0 _ 1 8 Try.underlying32 hju jz0 jz1 jz2 rfl (by decide) _ _ _ rfl (hal6.alloc _) ⟨wr.heap.size, 0, none⟩ 1 1 [.int .u64 key] rfl rfl (cells_new _ _ _) (by simp [Value.oneCell']) (by unfold maxLen; omega) (by omega) (by simp; omega) ?_; intro v7 w7 hown7 hgrow7 _; obtain ⟨g7, cap7, rfl⟩ := ownsRow_succ hown7; have hat7 := own_grown (hal6.alloc _) hgrow7 (owns_later HO6.out.1 (later_alloc _ _)) (by decide); obtain ⟨y0, y1⟩ := owns_cell (j := 0) (u := .int .i64 (k0 : Int)) hat7 (by rw [List.getElem?_map]; have hl : 0 < ats.length := (by rw [HY.out.1.n]; exact h00); rw [List.getElem?_eq_getElem hl]; have := HY.out.2.1; simp [atN, List.getD, List.getElem?_eq_getElem hl] at this; rw [this]; rfl); have hb7 : Below w3.heap.size w3 w7 := (later_trans HO6.out.2 (later_alloc _ _)).grown hgrow7 (by simp; omega) (owns_above hal6); have HS7 := Lib.hid (And.intro hown7 (And.intro hb7 hat7)); clear hown7 hgrow7 hat7 hb7)
            obtain ⟨hown7, hb7, hat7⟩ := HS7.out
            have hat7 := owns_down hat7 hs0'
            refine ⟨⟨i + 1, pre ++ [key], ats.set 0 (k0 + 1), g5, c5, by omega, rfl, by simp [hpi], rfl, ?_, ?_, ?_, ?_, ?_⟩, by simp [intOf]; omega⟩
            · have e := common_yes HY.out.1 h00 (HR.out.1.rise 0 h00)
              rw [HY.out.2.1] at e
              have e2 := HI.out.1
              rw [e] at e2
              rw [List.append_assoc]
              exact e2
            · have := inRows_next HY.out.1 h00
              rwa [HY.out.2.1] at this
            · have := owns_set (j := 0) hat7 (.int .i64 ((k0 : Int) + 1))
              rw [show Value.int .i64 ((k0 : Int) + 1) = (fun (n : Nat) => Value.int .i64 (n : Int)) (k0 + 1) from rfl, ← List.map_set] at this
              exact this
            · have := own_set_other (i := 0) hat7 hown7 (by decide) (.int .i64 ((k0 : Int) + 1))
              simpa [hpi] using this
            · exact hb7.setCell (p := ⟨g5, 0, none⟩) (by show w3.heap.size ≤ g5; omega) _
  · have hok := Bool.eq_false_iff.2 hok
    rw [errOf_no hok]
    rw [meetOf_no hok]
    go_wp2_with fail
    go_ret
    exact ⟨rfl, hb3⟩
end Go.Proofs.Ytenhpfhadbafbaa
