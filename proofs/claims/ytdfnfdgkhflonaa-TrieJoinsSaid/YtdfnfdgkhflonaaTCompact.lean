/-
  slices.Compact at uint64, of a row of the call's own, walked; run's gathered.
-/
import Derived.Test.YtdfnfdgkhflonaaTBackP
import Derived.Test.YtdfnfdgkhflonaaTDel
import Derived.Test.YtdfnfdgkhflonaaTGath
import Derived.Lib.SliceRun
namespace Go.Proofs.Ytdfnfdgkhflonaa
open Go.RowKit
set_option linter.unusedVariables false

theorem firsts1_any (x y : Int) (w : World) : Calls Try.prog 96 #[.agg #[.int .u64 x, .int .u64 y]] w fun e w' => e = .returned (.int .u64 x) ∧ Below w.heap.size w w' := by
  go_enter Try.func96, Try.ntmps96
  go_wp2
  go_ret
  exact ⟨rfl, later_alloc w _⟩

set_option maxRecDepth 100000 in
set_option maxHeartbeats 1000000 in
theorem firstsG_any (v : Value) (l : List Pr) (w : World) (h : SlP w v l) (hl : l.length ≤ 1099511627776) :
    Calls Try.prog 95 #[v, .func (.func 96) #[] #[]] w fun e w' => ∃ v', e = .returned v' ∧ w'.ownsRow w.heap.size 38 1 v' (l.map Pr.a).length ((l.map Pr.a).map (.int .u64)) ∧ Below w.heap.size w w' := by
  obtain ⟨i0, hi, hz0, hz1, hz2⟩ := info_parts info_u64
  obtain ⟨a, c, rfl, h1, h2, h3, h4⟩ := h.open
  have HX := Lib.hid h4
  clear h h1 h2 h3 h4
  go_enter Try.func95, Try.ntmps95
  go_wp2_with fail
  go_loopw [5, 10] (fun out k wr => ∃ i : Nat, i ≤ l.length ∧ k = .int .i64 i ∧ wr.ownsRow w.heap.size 38 1 out i (((l.take i).map Pr.a).map (.int .u64)) ∧ Below w.heap.size w wr) (fun _ k _ => l.length - (intOf k).toNat)
  case atStart => exact ⟨0, Nat.zero_le _, rfl, World.ownsRow_nil _ _ _ _, later_refl w⟩
  case round =>
    obtain ⟨i, hi', rfl, hown, hb⟩ := hrel
    obtain ⟨ao, co, rfl⟩ := owns_shape2 hown
    by_cases hlt : i < l.length
    · obtain ⟨bb, o, rfl, hbw, hcs⟩ := HX.out (by omega)
      obtain ⟨ha, hb2⟩ := hcs i hlt
      have ha := ((bcell hb).1 bb (o + i * 2) hbw).trans ha
      have hb2 := ((bcell hb).1 bb (o + i * 2 + 1) hbw).trans hb2
      have hst : l.take (i + 1) = l.take i ++ [l[i]] := List.take_succ_eq_append_getElem hlt
      obtain ⟨p, hp⟩ : ∃ p, l[i] = p := ⟨_, rfl⟩
      rw [hp] at ha hb2 hst
      have HST := Lib.hid hst
      have hsz := hb.size
      clear hcs hst hp
      go_wp2_with fail
      refine (firsts1_any p.a p.b _).mono ?_
      rintro e w2 ⟨rfl, hb2⟩
      have hb3 : Below w.heap.size w w2 := later_trans hb (later_trans (later_alloc wr _) hb2)
      have hown2 := owns_later (hown.alloc (.cells #[.int .u64 p.a, .int .u64 p.b] 59)) hb2
      have hsz2 := hb3.size
      go_wp2_with (at_builtin; refine wpList_append_own _ rfl (.tmp 14) (.tmp 18) 23 rfl w.heap.size 38 i0 _ 1 8 Try.underlying23 hi hz0 hz1 hz2 rfl (by decide) _ _ _ rfl (hown2.alloc _) ⟨w2.heap.size, 0, none⟩ 1 1 [.int .u64 p.a] rfl rfl (cells_new _ _ _) (by simp [Value.oneCell']) (by unfold maxLen; omega) (by omega) (by simp; omega) ?_; intro v6 w6 hown6 hgrow6 _; obtain ⟨g6, cap6, rfl⟩ := ownsRow_succ hown6)
      go_roundw
      case rel =>
        refine ⟨i + 1, by omega, by go_num, ?_, (later_trans hb3 (later_alloc _ _)).grown hgrow6 (by simp; omega) (owns_above hown2)⟩
        rw [HST.out]
        simpa using hown6
      case measure => simp [intOf]; omega
    · obtain rfl : i = l.length := by omega
      have e : l.take l.length = l := List.take_of_length_le (Nat.le_refl _)
      rw [e] at hown
      go_wp2_with fail
      go_ret
      exact ⟨_, rfl, by rw [List.length_map]; exact hown, hb⟩

theorem seconds2_any (x y : Int) (w : World) : Calls Try.prog 99 #[.agg #[.int .u64 x, .int .u64 y]] w fun e w' => e = .returned (.int .u64 y) ∧ Below w.heap.size w w' := by
  go_enter Try.func99, Try.ntmps99
  go_wp2
  go_ret
  exact ⟨rfl, later_alloc w _⟩

set_option maxRecDepth 100000 in
set_option maxHeartbeats 1000000 in
theorem secondsG_any (v : Value) (l : List Pr) (w : World) (h : SlP w v l) (hl : l.length ≤ 1099511627776) :
    Calls Try.prog 95 #[v, .func (.func 99) #[] #[]] w fun e w' => ∃ v', e = .returned v' ∧ w'.ownsRow w.heap.size 38 1 v' (l.map Pr.b).length ((l.map Pr.b).map (.int .u64)) ∧ Below w.heap.size w w' := by
  obtain ⟨i0, hi, hz0, hz1, hz2⟩ := info_parts info_u64
  obtain ⟨a, c, rfl, h1, h2, h3, h4⟩ := h.open
  have HX := Lib.hid h4
  clear h h1 h2 h3 h4
  go_enter Try.func95, Try.ntmps95
  go_wp2_with fail
  go_loopw [5, 10] (fun out k wr => ∃ i : Nat, i ≤ l.length ∧ k = .int .i64 i ∧ wr.ownsRow w.heap.size 38 1 out i (((l.take i).map Pr.b).map (.int .u64)) ∧ Below w.heap.size w wr) (fun _ k _ => l.length - (intOf k).toNat)
  case atStart => exact ⟨0, Nat.zero_le _, rfl, World.ownsRow_nil _ _ _ _, later_refl w⟩
  case round =>
    obtain ⟨i, hi', rfl, hown, hb⟩ := hrel
    obtain ⟨ao, co, rfl⟩ := owns_shape2 hown
    by_cases hlt : i < l.length
    · obtain ⟨bb, o, rfl, hbw, hcs⟩ := HX.out (by omega)
      obtain ⟨ha, hb2⟩ := hcs i hlt
      have ha := ((bcell hb).1 bb (o + i * 2) hbw).trans ha
      have hb2 := ((bcell hb).1 bb (o + i * 2 + 1) hbw).trans hb2
      have hst : l.take (i + 1) = l.take i ++ [l[i]] := List.take_succ_eq_append_getElem hlt
      obtain ⟨p, hp⟩ : ∃ p, l[i] = p := ⟨_, rfl⟩
      rw [hp] at ha hb2 hst
      have HST := Lib.hid hst
      have hsz := hb.size
      clear hcs hst hp
      go_wp2_with fail
      refine (seconds2_any p.a p.b _).mono ?_
      rintro e w2 ⟨rfl, hb2⟩
      have hb3 : Below w.heap.size w w2 := later_trans hb (later_trans (later_alloc wr _) hb2)
      have hown2 := owns_later (hown.alloc (.cells #[.int .u64 p.a, .int .u64 p.b] 59)) hb2
      have hsz2 := hb3.size
      go_wp2_with (at_builtin; refine wpList_append_own _ rfl (.tmp 14) (.tmp 18) 23 rfl w.heap.size 38 i0 _ 1 8 Try.underlying23 hi hz0 hz1 hz2 rfl (by decide) _ _ _ rfl (hown2.alloc _) ⟨w2.heap.size, 0, none⟩ 1 1 [.int .u64 p.b] rfl rfl (cells_new _ _ _) (by simp [Value.oneCell']) (by unfold maxLen; omega) (by omega) (by simp; omega) ?_; intro v6 w6 hown6 hgrow6 _; obtain ⟨g6, cap6, rfl⟩ := ownsRow_succ hown6)
      go_roundw
      case rel =>
        refine ⟨i + 1, by omega, by go_num, ?_, (later_trans hb3 (later_alloc _ _)).grown hgrow6 (by simp; omega) (owns_above hown2)⟩
        rw [HST.out]
        simpa using hown6
      case measure => simp [intOf]; omega
    · obtain rfl : i = l.length := by omega
      have e : l.take l.length = l := List.take_of_length_le (Nat.le_refl _)
      rw [e] at hown
      go_wp2_with fail
      go_ret
      exact ⟨_, rfl, by rw [List.length_map]; exact hown, hb⟩

theorem clear_ints {w : World} {base g n cap : Nat} {xs : List Value} (h : w.ownsRow base 38 1 (.slice (some ⟨g, 0, none⟩) n cap) n xs) {i : Nat} (hi : i < n) (c : Nat) :
    ∃ zs, ∀ ty : TypeId, (Builtin.clear_ #[23] ty #[.slice (some ⟨g, i, none⟩) (n - i) c]).run Try.prog w = .ok (.tuple #[]) (w.setCells g i zs) := by
  have ht := Try.underlying23
  have hv := Try.zeroValue38
  obtain ⟨zs, hzs⟩ : ∃ zs, (Builtin.zeroCells (Value.int .u64 0).cells (n - i)).toList = zs := ⟨_, rfl⟩
  have hzl : zs.length = n - i := by rw [← hzs]; simp [Builtin.zeroCells, Value.cells]
  have hz1 : ∀ v ∈ zs, v.oneCell' = true := by
    intro v hv'
    rw [← hzs] at hv'
    simp [Builtin.zeroCells, Value.cells] at hv'
    obtain ⟨k, hk, rfl⟩ := hv'
    rw [Nat.mod_one]
    rfl
  have hst := run_storeCells_cells (P := Try.prog) g i zs 0 w
    (fun j hj => by
      have hx : i + j < xs.length := by rw [h.1]; omega
      simp only [Nat.add_zero]
      rw [(owns_cell h (List.getElem?_eq_getElem hx)).1]; rfl)
    (fun j hj => by
      have hx : i + j < xs.length := by rw [h.1]; omega
      simp only [Nat.add_zero]
      exact (owns_cell h (List.getElem?_eq_getElem hx)).2) hz1
  simp only [Nat.add_zero] at hst
  obtain ⟨m, hm⟩ : ∃ m, n - i = m + 1 := ⟨n - i - 1, by omega⟩
  rw [hm] at hzs ⊢
  exact ⟨zs, fun ty => by simp [Builtin.clear_, run_underlying ht, hv, hzs, hst]⟩

theorem getD_int {l : List Int} {i : Nat} (h : i < l.length) : l.getD i 0 = l[i] := by simp [List.getD, List.getElem?_eq_getElem h]
theorem once_yes {xs : List Int} {i : Nat} (h : i = 0 ∨ xs.getD (i - 1) 0 ≠ xs.getD i 0) : onceTo xs (i + 1) = onceTo xs i ++ [xs.getD i 0] := by
  show (if _ then _ else _) = _
  rw [if_pos h]
theorem once_no {xs : List Int} {i : Nat} (h : xs.getD (i - 1) 0 = xs.getD i 0) (h0 : 0 < i) : onceTo xs (i + 1) = onceTo xs i := by
  show (if _ then _ else _) = _
  rw [if_neg]
  rintro (e | e)
  · omega
  · exact e h
theorem once_small {xs : List Int} (h : xs.length < 2) : onceTo xs xs.length = xs := by
  match xs, h with
  | [], _ => rfl
  | [x], _ => rfl

theorem ownsRow_pos1 {w : World} {base : Nat} {e : TypeId} {size : Nat} {v : Value} {n : Nat} {xs : List Value} (h : w.ownsRow base e size v n xs) (h0 : 0 < n) : ∃ g c, v = .slice (some ⟨g, 0, none⟩) n c := by
  rcases h.2 with ⟨rfl, rfl⟩ | ⟨g, cap, cur, rfl, _⟩
  · omega
  · exact ⟨_, _, rfl⟩

set_option maxRecDepth 100000 in
set_option maxHeartbeats 4000000 in
theorem compact_any (v : Value) (xs : List Int) (base : Nat) (w : World) (hown : w.ownsRow base 38 1 v xs.length (xs.map (.int .u64))) (hlen : xs.length ≤ 1048576) (hbase : base ≤ w.heap.size) :
    Calls Try.prog 94 #[v] w fun e w' => ∃ v', e = .returned v' ∧ w'.ownsRow base 38 1 v' (onceTo xs xs.length).length ((onceTo xs xs.length).map (.int .u64)) ∧ Below base w w' := by
  obtain ⟨a, c, rfl⟩ := owns_shape2 hown
  by_cases h2 : xs.length < 2
  · have h2d : decide ((xs.length : Int) < 2) = true := decide_eq_true (by omega)
    have h2n : decide (xs.length < 2) = true := decide_eq_true h2
    rw [once_small h2]
    have HO := Lib.hid hown
    clear hown
    go_enter Try.func94, Try.ntmps94
    go_wp2_with fail
    go_ret
    exact ⟨_, rfl, HO.out, Below.refl _ w⟩
  · obtain ⟨g, cap, hv⟩ := ownsRow_pos1 hown (by omega)
    obtain ⟨ha, hc⟩ : a = some ⟨g, 0, none⟩ ∧ c = cap := by cases hv; exact ⟨rfl, rfl⟩
    subst ha hc
    have hcl : xs.length ≤ c := by
      rcases hown.2 with ⟨h, _⟩ | ⟨g', cap', cur, hv, _, _, h1, h2, _⟩
      · cases h
      · cases hv; exact h1
    have hcm : c ≤ 9223372036854775807 := by
      rcases hown.2 with ⟨h, _⟩ | ⟨g', cap', cur, hv, _, _, h1, h2, _⟩
      · cases h
      · cases hv; simpa [maxLen] using h2
    have hgb := owns_above hown g rfl
    clear hv
    have HO := Lib.hid hown
    clear hown
    go_enter Try.func94, Try.ntmps94
    go_wp2_with fail
    go_loopw [3] (fun k wr => ∃ i : Nat, 1 ≤ i ∧ i ≤ xs.length ∧ k = .int .i64 i ∧ onceTo xs i = xs.take i ∧ ∃ n, wr = w.drewN n) (fun k _ => xs.length - (intOf k).toNat)
    case atStart => exact ⟨1, by omega, by omega, rfl, by (obtain ⟨x, r, rfl⟩ : ∃ x r, xs = x :: r := (by cases xs with | nil => simp at h2 | cons x r => exact ⟨_, _, rfl⟩)); rfl, 0, rfl⟩
    case round =>
      obtain ⟨i, hi1, hi2, rfl, honce, nd, rfl⟩ := hrel
      obtain ⟨m, rfl⟩ : ∃ m, i = m + 1 := ⟨i - 1, by omega⟩
      by_cases hlt : m + 1 < xs.length
      · have c1 : w.cell? ⟨g, m + 1, none⟩ = some (.int .u64 xs[m + 1]) := (owns_cell (j := m + 1) (u := .int .u64 xs[m + 1]) HO.out (by simp [hlt])).1
        have c0 : w.cell? ⟨g, m, none⟩ = some (.int .u64 (xs[m]'(by omega))) := (owns_cell (j := m) (u := .int .u64 (xs[m]'(by omega))) HO.out (by simp [show m < xs.length from by omega])).1
        obtain ⟨x1, hx1⟩ : ∃ x, xs[m + 1] = x := ⟨_, rfl⟩
        obtain ⟨x0, hx0⟩ : ∃ x, xs[m]'(by omega) = x := ⟨_, rfl⟩
        rw [hx1] at c1
        rw [hx0] at c0
        have hw : IntKind.i64.wrap (m : Int) = m := wrap_i64 (by omega) (by omega)
        have HHO := Lib.hid honce
        have HX1 := Lib.hid hx1
        have HX0 := Lib.hid hx0
        have hm1 : ((m + 1 : Nat) : Int) - 1 = (m : Int) := by omega
        clear honce hx1 hx0
        by_cases he : x1 = x0
        · have heb : (x1 == x0) = true := beq_iff_eq.2 he
          have hstart : onceTo xs (m + 1 + 1) = xs.take (m + 1) := by
            rw [once_no (by rw [Nat.add_sub_cancel, getD_int (by omega), getD_int (by omega), HX1.out, HX0.out]; exact he.symm) (by omega)]
            exact HHO.out
          have HST := Lib.hid hstart
          clear hstart HHO HX1 HX0
          go_wp2_with fail
          go_quiet (fail)
          obtain ⟨wd, hwd⟩ : ∃ wd, (w.drewN nd).drewN nq = wd := ⟨_, rfl⟩
          have HOD := Lib.hid (show wd.ownsRow base 38 1 (.slice (some ⟨g, 0, none⟩) xs.length c) xs.length (xs.map (.int .u64)) from by rw [← hwd]; exact HO.out)
          have hbd : Below base w wd := by rw [← hwd]; exact ((later_trans (later_drewN w nd) (later_drewN _ nq))).mono hbase
          rw [hwd]
          clear hwd c1 c0
          go_wp2_with fail
          go_loopw [3, 5] (fun iv kv wr => ∃ (i q : Nat) (row : List Int), i < m + 1 + (q + 1) ∧ m + 1 + (q + 1) ≤ xs.length ∧ iv = .int .i64 i ∧ kv = .int .i64 ((q + 1 : Nat) : Int) ∧ row.length = xs.length ∧ row.take i = onceTo xs (m + 1 + (q + 1)) ∧ (∀ j, m + 1 + q ≤ j → (hj : j < xs.length) → row[j]? = some xs[j]) ∧
            wr.ownsRow base 38 1 (.slice (some ⟨g, 0, none⟩) xs.length c) xs.length (row.map (.int .u64)) ∧ Below base w wr) (fun _ kv _ => xs.length - (intOf kv).toNat)
          case atStart => exact ⟨m + 1, 0, xs, by omega, by omega, by go_num, rfl, rfl, HST.out.symm, fun j h1 h2 => List.getElem?_eq_getElem h2, HOD.out, hbd⟩
          case round =>
            obtain ⟨i, q, row, hiq, hqn, rfl, rfl, hrl, hrt, hrd, hownr, hbr⟩ := hrel
            by_cases hlt2 : m + 1 + (q + 1) < xs.length
            · have r1 := hrd (m + 1 + (q + 1)) (by omega) hlt2
              have r0 := hrd (m + 1 + q) (by omega) (by omega)
              have d1 : wr.cell? ⟨g, m + 1 + (q + 1), none⟩ = some (.int .u64 xs[m + 1 + (q + 1)]) := (owns_cell (j := m + 1 + (q + 1)) hownr (by rw [List.getElem?_map, r1]; rfl)).1
              have d0 : wr.cell? ⟨g, m + 1 + q, none⟩ = some (.int .u64 (xs[m + 1 + q]'(by omega))) := (owns_cell (j := m + 1 + q) hownr (by rw [List.getElem?_map, r0]; rfl)).1
              obtain ⟨y1, hy1⟩ : ∃ y, xs[m + 1 + (q + 1)] = y := ⟨_, rfl⟩
              obtain ⟨y0, hy0⟩ : ∃ y, xs[m + 1 + q]'(by omega) = y := ⟨_, rfl⟩
              rw [hy1] at d1
              rw [hy0] at d0
              have hw1 : IntKind.i64.wrap (q : Int) = q := wrap_i64 (by omega) (by omega)
              have hm2 : ((q + 1 : Nat) : Int) - 1 = (q : Int) := by omega
              obtain ⟨ei, hei⟩ : ∃ u, (row.map (Value.int .u64))[i]? = some u := ⟨_, List.getElem?_eq_getElem (by simp; omega)⟩
              obtain ⟨s0, z0⟩ := owns_cell (j := i) hownr hei
              have hil : i < xs.length := by omega
              clear hei
              have HRT := Lib.hid hrt
              have HRD := Lib.hid hrd
              have HOR := Lib.hid hownr
              have HY1 := Lib.hid hy1
              have HY0 := Lib.hid hy0
              have hbs' := Nat.le_trans hbase hbr.size
              clear hrt hrd hownr hy1 hy0 r1 r0
              by_cases hee : y1 = y0
              · have hne : (y1 != y0) = false := by simp [hee]
                go_wp2_with fail
                go_quiet (fail)
                go_wp2_with fail
                go_roundw
                case rel =>
                  refine ⟨i, q + 1, row, by omega, by omega, rfl, by go_num, hrl, ?_, fun j h1 h2 => HRD.out j (by omega) h2, owns_drewN HOR.out _, hbr.trans ((later_drewN wr _).mono hbs')⟩
                  show _ = onceTo xs (m + 1 + (q + 1) + 1)
                  rw [HRT.out, once_no (i := m + 1 + (q + 1)) (by rw [show m + 1 + (q + 1) - 1 = m + 1 + q from by omega, getD_int (by omega), getD_int hlt2, HY1.out, HY0.out]; exact hee.symm) (by omega)]
                case measure => simp [intOf]; omega
              · have hne : (y1 != y0) = true := by simp [hee]
                go_wp2_with fail
                go_quiet (fail)
                go_wp2_with fail
                go_roundw
                case rel =>
                  refine ⟨i + 1, q + 1, row.set i y1, by omega, by omega, by go_num, by go_num, by simpa using hrl, ?_, fun j h1 h2 => ?_, ?_, (hbr.trans ((later_drewN wr _).mono hbs')).setCell (p := ⟨g, i, none⟩) hgb _⟩
                  · show _ = onceTo xs (m + 1 + (q + 1) + 1)
                    rw [once_yes (i := m + 1 + (q + 1)) (.inr (by rw [show m + 1 + (q + 1) - 1 = m + 1 + q from by omega, getD_int (by omega), getD_int hlt2, HY1.out, HY0.out]; exact fun e => hee e.symm)), getD_int hlt2, HY1.out, ← HRT.out, List.take_succ_eq_append_getElem (by simp; omega), List.take_set]
                    congr 1
                    · apply List.set_eq_of_length_le; simp; omega
                    · simp
                  · rw [List.getElem?_set_ne (by omega)]; exact HRD.out j (by omega) h2
                  · rw [List.map_set]
                    exact owns_set (owns_drewN HOR.out _) _
                case measure => simp [intOf]; omega
            · have hfin : m + 1 + (q + 1) = xs.length := by omega
              obtain ⟨zs, hzs⟩ := clear_ints hownr (i := i) (by omega) (c - i)
              have hil : i < xs.length := by omega
              have hic : i ≤ c := by omega
              have hsub : (xs.length : Int) - (i : Int) = ((xs.length - i : Nat) : Int) := by omega
              rw [hfin] at hrt
              have hfl : (onceTo xs xs.length).length = i := by rw [← hrt]; simp; omega
              have HRT := Lib.hid hrt
              have HFL := Lib.hid hfl
              have HOR := Lib.hid hownr
              clear hrt hfl hrd hownr hfin
              go_wp2_with fail
              go_ret
              obtain ⟨ys, hown5, hys⟩ := owns_setCells zs i wr (row.map (.int .u64)) HOR.out
              have h6 := owns_cut (m := i) hown5 (by omega)
              rw [Nat.mul_one, hys, ← List.map_take, HRT.out] at h6
              exact ⟨_, rfl, by rw [HFL.out]; exact h6, hbr.trans (below_cells hgb _ _ _)⟩
        · have heb : (x1 == x0) = false := beq_eq_false_iff_ne.2 he
          go_wp2_with fail
          go_quiet (fail)
          go_wp2_with fail
          go_roundw
          case rel =>
            refine ⟨m + 1 + 1, by omega, by omega, by go_num, ?_, nd + nq, rfl⟩
            rw [once_yes (.inr (by rw [Nat.add_sub_cancel, getD_int (by omega), getD_int (by omega), HX1.out, HX0.out]; exact fun e => he e.symm)), HHO.out, getD_int hlt, ← List.take_succ_eq_append_getElem hlt]
          case measure => simp [intOf]; omega
      · have hml : m + 1 = xs.length := by omega
        have hx : onceTo xs xs.length = xs := by rw [← hml, honce, hml, List.take_of_length_le (Nat.le_refl _)]
        have HHX := Lib.hid hx
        clear hx honce
        go_wp2_with fail
        go_ret
        rw [HHX.out]
        exact ⟨_, rfl, HO.out, (later_drewN w _).mono hbase⟩
end Go.Proofs.Ytdfnfdgkhflonaa
