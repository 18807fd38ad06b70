/-
  The library's small functions on slices of int and of rows of these. (Printed by mkhzlib.py.)
-/
import Derived.Test.YtplidcbfbonjlaaDoorRows
import Derived.WalkLawsBesides
import Derived.Test.YtplidcbfbonjlaaDoorCom
namespace Go.Proofs.YtplidcbfbonjlaaDoor
open Go.RowKit
set_option linter.unusedVariables false
set_option linter.unusedSimpArgs false

def Enters (F : Nat) : Prop := ∀ args W, (callFunc F args).run Tryd.prog W = .ok (.enter F args) W
theorem info_int : (Tryd.prog.info? 3).map (fun i => (i.zero, i.size, i.bytes)) = some (some (.int .i64 0), 1, 8) := by kernel_rfl
set_option maxHeartbeats 400000 in
/-- slices.Clone: a row of the call's own with the same elements; nil just where it was. -/
theorem cloneI_any (v : Value) (xs : List Int) (w : World) (h : SlI .i64 w v xs) (hl : xs.length ≤ 1099511627776) :
    Calls Tryd.prog 43 #[v] w fun e w' => ∃ v', e = .returned v' ∧ w'.ownsRow w.heap.size 3 1 v' xs.length (xs.map (Value.int .i64)) ∧ Below w.heap.size w w' := by
  obtain ⟨i0, hi, hz0, hz1, hz2⟩ := info_parts info_int
  obtain ⟨a, c, rfl, h1, h2, h3, h4⟩ := h.open
  have he := fun w a n c n' c' => Lib.run_eql_slice_nil (P := Tryd.prog) w 27 3 a n c n' c' Tryd.underlying27
  cases a with
  | none =>
    obtain rfl : c = 0 := h3 rfl
    have hx : xs = [] := List.eq_nil_of_length_eq_zero (by omega)
    subst hx
    simp only [List.length_nil]
    go_enter Tryd.func43, Tryd.ntmps43
    go_wp2
    go_ret
    exact ⟨_, rfl, World.ownsRow_nil _ _ _ _, Below.refl _ _⟩
  | some ad =>
    have hcell := (h.alloc (.cells #[] 3)).1.cells
    have hown : (w.alloc (.cells #[] 3)).ownsRow w.heap.size 3 1 (.slice (some ⟨w.heap.size, 0, none⟩) 0 0) 0 [] := World.ownsRow_made _ _ _ (Nat.le_refl _) (by simp [maxLen]) (by simp)
    clear h h1 h3 h4
    go_enter Tryd.func43, Tryd.ntmps43
    go_wp2_with (at_builtin; refine wpList_append_own _ rfl _ _ 27 rfl w.heap.size 3 i0 (.int .i64 0) 1 8 Tryd.underlying27 hi hz0 hz1 hz2 rfl (by decide) _ _ _ rfl hown ad xs.length c (xs.map (Value.int .i64)) rfl (by simp) hcell (ints_oneCell _ _) (by unfold maxLen; omega) (by omega) (by simp) ?_; intro v' w1 hown1 hgrow1 _)
    go_ret
    simp only [Nat.zero_add, List.nil_append] at hown1
    exact ⟨_, rfl, hown1, (((Below.refl _ w).alloc (Nat.le_refl _) _).grown hgrow1 (by simp) (fun k e => by cases e; exact Nat.le_refl _))⟩
/-- The first k elements are the same. -/
def SameTo (k : Nat) (xs ys : List Int) : Prop := xs.take k = ys.take k
theorem sameTo_zero (xs ys : List Int) : SameTo 0 xs ys := by simp [SameTo]
theorem sameTo_step {k : Nat} {xs ys : List Int} (h : SameTo k xs ys) (hx : k < xs.length) (hy : k < ys.length) (e : xs[k] = ys[k]) : SameTo (k + 1) xs ys := by
  unfold SameTo at *
  rw [List.take_succ_eq_append_getElem hx, List.take_succ_eq_append_getElem hy, h, e]
theorem sameTo_all {xs ys : List Int} (h : SameTo xs.length xs ys) (hl : xs.length = ys.length) : xs = ys := by
  unfold SameTo at h
  rw [List.take_length, hl, List.take_length] at h
  exact h
theorem not_same {k : Nat} {xs ys : List Int} (hx : k < xs.length) (hy : k < ys.length) (e : ¬ xs[k] = ys[k]) : decide (xs = ys) = false := by
  rw [decide_eq_false_iff_not]
  rintro rfl
  exact e rfl
theorem not_same' {k : Nat} {xs ys : List Int} (hl : xs.length = ys.length) (hy : k < ys.length) (e : (xs[k]?.getD 0 != ys[k]) = true) : decide (xs = ys) = false := by
  refine not_same (k := k) (by omega) hy ?_
  have hx : k < xs.length := by omega
  simpa [List.getElem?_eq_getElem hx] using e
theorem sameTo_step' {k : Nat} {xs ys : List Int} (hl : xs.length = ys.length) (h : SameTo k xs ys) (hy : k < ys.length) (e : (xs[k]?.getD 0 != ys[k]) = false) : SameTo (k + 1) xs ys := by
  have hx : k < xs.length := by omega
  exact sameTo_step h hx hy (by simpa [List.getElem?_eq_getElem hx] using e)
set_option maxHeartbeats 400000 in
/-- slices.Equal: are the elements the same? It only reads. -/
theorem equalI_any (u v : Value) (xs ys : List Int) (w : World) (hx : SlI .i64 w u xs) (hy : SlI .i64 w v ys) :
    Calls Tryd.prog 48 #[u, v] w fun e w' => e = .returned (.bool (decide (xs = ys))) ∧ ∃ n, w' = w.drewN n := by
  obtain ⟨a, c, rfl, h1, h2, h3, h4⟩ := hx.open
  obtain ⟨a', c', rfl, g1, g2, g3, g4⟩ := hy.open
  by_cases hl : xs.length = ys.length
  · have hcx : ∀ k, k < ys.length → ∃ b o, a = some ⟨b, o, none⟩ ∧ w.cell? ⟨b, o + k, none⟩ = some (.int .i64 (xs.getD k 0)) := fun k hk => by
      obtain ⟨b, o, e, _, hc⟩ := h4 (by omega)
      exact ⟨b, o, e, by rw [hc k (by omega), List.getD_eq_getElem?_getD, List.getElem?_eq_getElem (by omega)]; rfl⟩
    have hcy : ∀ k, k < ys.length → ∃ b o, a' = some ⟨b, o, none⟩ ∧ w.cell? ⟨b, o + k, none⟩ = some (.int .i64 (ys.getD k 0)) := fun k hk => by
      obtain ⟨b, o, e, _, hc⟩ := g4 (by omega)
      exact ⟨b, o, e, by rw [hc k (by omega), List.getD_eq_getElem?_getD, List.getElem?_eq_getElem (by omega)]; rfl⟩
    have hm : ys.length ≤ 9223372036854775807 := by omega
    rw [hl]
    have HL := Lib.hid hl
    clear h1 g1 hx hy h3 g3 h4 g4 hl
    have HX := Lib.hid hcx
    have HY := Lib.hid hcy
    clear hcx hcy
    go_enter Tryd.func48, Tryd.ntmps48
    go_wp2
    go_loopw [13] (fun i wr => ∃ k : Nat, k ≤ ys.length ∧ i = .int .i64 k ∧ SameTo k xs ys ∧ ∃ n, wr = w.drewN n) (fun i _ => ys.length - (intOf i).toNat)
    case atStart => exact ⟨0, Nat.zero_le _, rfl, sameTo_zero _ _, 0, rfl⟩
    case round =>
      obtain ⟨k, hk, rfl, hs, n, rfl⟩ := hrel
      by_cases hlt : k < ys.length
      · obtain ⟨b, o, rfl, hc⟩ := HX.out k hlt
        obtain ⟨b', o', rfl, hc'⟩ := HY.out k hlt
        go_wp2
        go_quiet (fail)
        go_wp2
        · have ht : (xs[k]?.getD 0 != ys[k]) = true := by assumption
          go_ret
          exact ⟨ret_bool (not_same' HL.out hlt ht).symm, _, World.drewN_drewN _ _ _⟩
        · have ht : (xs[k]?.getD 0 != ys[k]) = false := by assumption
          go_roundw
          case rel => exact ⟨k + 1, by omega, by go_num, sameTo_step' HL.out hs hlt ht, _, rfl⟩
          case measure => simp [intOf]; omega
      · have hk' : k = ys.length := by omega
        go_wp2
        go_ret
        exact ⟨ret_bool (decide_eq_true (sameTo_all (by rw [HL.out, ← hk']; exact hs) HL.out)).symm, _, rfl⟩
  · have hne : decide (xs = ys) = false := by rw [decide_eq_false_iff_not]; rintro rfl; exact hl rfl
    have hl' : ((xs.length : Int) == ys.length) = false := by rw [beq_eq_false_iff_ne]; omega
    rw [hne]
    clear hx hy h3 g3 h4 g4 hne
    go_enter Tryd.func48, Tryd.ntmps48
    go_wp2
    go_ret
    exact ⟨rfl, 0, rfl⟩
/-- Where x stands in xs; -1: nowhere. -/
def idxI (xs : List Int) (x : Int) : Int := if x ∈ xs then (xs.idxOf x : Nat) else -1
theorem idxI_hit {xs : List Int} {x : Int} {k : Nat} (h : ∀ j, j < k → xs.getD j 0 ≠ x) (hk : k < xs.length) (e : xs.getD k 0 = x) : idxI xs x = k := by
  rw [getD_at hk] at e
  have hm : x ∈ xs := by rw [← e]; exact List.getElem_mem hk
  unfold idxI
  rw [if_pos hm]
  have h1 := List.idxOf_lt_length_iff.2 hm
  have h2 : xs[xs.idxOf x] = x := List.getElem_idxOf h1
  have h3 : ¬ xs.idxOf x < k := fun h4 => h _ h4 (by rw [getD_at h1]; exact h2)
  have h5 : xs.idxOf x ≤ k := Nat.le_of_not_lt fun h6 => by
    have := List.not_of_lt_findIdx (p := (· == x)) (xs := xs) (i := k) h6
    simp [e] at this
  omega
theorem idxI_no {xs : List Int} {x : Int} (h : ∀ j, j < xs.length → xs.getD j 0 ≠ x) : idxI xs x = -1 := by
  unfold idxI
  rw [if_neg]
  intro hm
  obtain ⟨i, hi, e⟩ := List.getElem_of_mem hm
  exact h i hi (by rw [getD_at hi]; exact e)
theorem idxI_nonneg (xs : List Int) (x : Int) : decide (0 ≤ idxI xs x) = decide (x ∈ xs) := by
  unfold idxI
  by_cases h : x ∈ xs
  · rw [if_pos h, decide_eq_true h]; exact decide_eq_true (by omega)
  · rw [if_neg h, decide_eq_false h]; rfl
set_option maxHeartbeats 400000 in
theorem Index_any (v : Value) (xs : List Int) (x : Int) (w : World) (h : SlI .i64 w v xs) :
    Calls Tryd.prog 42 #[v, .int .i64 x] w fun e w' => e = .returned (.int .i64 (idxI xs x)) ∧ w' = w := by
  obtain ⟨a, c, rfl, h1, h2, h3, h4⟩ := h.open
  have HX := Lib.hid h4
  have hm : xs.length ≤ 9223372036854775807 := by omega
  clear h h1 h2 h3 h4
  go_enter Tryd.func42, Tryd.ntmps42
  go_wp2
  go_loop [8] (fun i => ∃ k : Nat, k ≤ xs.length ∧ i = .int .i64 k ∧ ∀ j, j < k → xs.getD j 0 ≠ x) (fun i => xs.length - (intOf i).toNat)
  case atStart => exact ⟨0, Nat.zero_le _, rfl, fun j hj => by omega⟩
  case round =>
    obtain ⟨k, hk, rfl, hs⟩ := hrel
    have HS := Lib.hid hs
    clear hs
    by_cases hlt : k < xs.length
    · obtain ⟨b, o, rfl, hb, hc⟩ := HX.out (by omega)
      have c1 := hc k hlt
      rw [← getD_at hlt] at c1
      obtain ⟨y, hy⟩ : ∃ y, xs.getD k 0 = y := ⟨_, rfl⟩
      rw [hy] at c1
      have HY := Lib.hid hy
      clear hc hy
      by_cases hxy : x = y
      · have e := Lib.hid (idxI_hit HS.out hlt (HY.out.trans hxy.symm))
        have hb1 : (x == y) = true := by rw [beq_iff_eq]; exact hxy
        clear hxy
        go_wp2
        go_ret
        exact ⟨ret_int e.out.symm, rfl⟩
      · have hb1 : (x == y) = false := by rw [beq_eq_false_iff_ne]; exact hxy
        go_wp2
        go_round
        case rel => exact ⟨k + 1, by omega, by go_num, fun j hj => by
          by_cases e : j = k
          · subst e; rw [HY.out]; exact fun e => hxy e.symm
          · exact HS.out j (by omega)⟩
        case measure => simp [intOf]; omega
    · have e := Lib.hid (idxI_no (xs := xs) (x := x) fun j hj => HS.out j (by omega))
      go_wp2
      go_ret
      exact ⟨ret_int e.out.symm, rfl⟩
theorem Contains_any (v : Value) (xs : List Int) (x : Int) (w : World) (h : SlI .i64 w v xs) :
    Calls Tryd.prog 15 #[v, .int .i64 x] w fun e w' => e = .returned (.bool (decide (x ∈ xs))) ∧ w' = w := by
  have H := Lib.hid (Index_any v xs x w h)
  have HE := Lib.hid (idxI_nonneg xs x)
  clear h
  go_enter Tryd.func15, Tryd.ntmps15
  go_wp2_with fail
  refine H.out.mono ?_
  rintro e w' ⟨rfl, rfl⟩
  go_wp2_with fail
  go_ret
  exact ⟨ret_bool HE.out, rfl⟩
/-- What holds of all, with their places. -/
def allI (xs : List Int) (p : Nat → Int → Bool) : Bool := (List.range xs.length).all fun i => p i (xs.getD i 0)
def allR (ls : List (List Int)) (p : Nat → List Int → Bool) : Bool := (List.range ls.length).all fun i => p i (rowN ls i)
theorem allI_no {xs : List Int} {p : Nat → Int → Bool} {k : Nat} (hk : k < xs.length) (e : p k (xs.getD k 0) = false) : allI xs p = false := by
  unfold allI
  rw [List.all_eq_false]
  exact ⟨k, List.mem_range.2 hk, by rw [e]; decide⟩
theorem allI_yes {xs : List Int} {p : Nat → Int → Bool} (h : ∀ j, j < xs.length → p j (xs.getD j 0) = true) : allI xs p = true := by
  unfold allI
  rw [List.all_eq_true]
  exact fun j hj => h j (List.mem_range.1 hj)
theorem allR_no {ls : List (List Int)} {p : Nat → List Int → Bool} {k : Nat} (hk : k < ls.length) (e : p k (rowN ls k) = false) : allR ls p = false := by
  unfold allR
  rw [List.all_eq_false]
  exact ⟨k, List.mem_range.2 hk, by rw [e]; decide⟩
theorem allR_yes {ls : List (List Int)} {p : Nat → List Int → Bool} (h : ∀ j, j < ls.length → p j (rowN ls j) = true) : allR ls p = true := by
  unfold allR
  rw [List.all_eq_true]
  exact fun j hj => h j (List.mem_range.1 hj)
def Asks2 (F : Nat) (caps : Array Value) (w : World) (xs : List Int) (p : Nat → Int → Bool) : Prop :=
  ∀ (i : Nat), i < xs.length → ∀ W, Below w.heap.size w W → Calls Tryd.prog F (#[.int .i64 i, .int .i64 (xs.getD i 0)] ++ caps) W fun e W' => e = .returned (.bool (p i (xs.getD i 0))) ∧ Below W.heap.size W W'
def Asks2R (F : Nat) (caps : Array Value) (w : World) (ls : List (List Int)) (p : Nat → List Int → Bool) : Prop :=
  ∀ (r : Nat), r < ls.length → ∀ rv W, Below w.heap.size w W → SlI .i64 W rv (rowN ls r) → Calls Tryd.prog F (#[.int .i64 r, rv] ++ caps) W fun e W' => e = .returned (.bool (p r (rowN ls r))) ∧ Below W.heap.size W W'
set_option maxHeartbeats 400000 in
theorem allI_any {F : Nat} {caps : Array Value} {p : Nat → Int → Bool} {w : World} {v : Value} {xs : List Int} (hF : Enters F) (h : SlI .i64 w v xs) (hA : Asks2 F caps w xs p) :
    Calls Tryd.prog 34 #[v, .func (.func F) #[] caps] w fun e w' => e = .returned (.bool (allI xs p)) ∧ Below w.heap.size w w' := by
  obtain ⟨a, c, rfl, h1, h2, h3, h4⟩ := h.open
  have HX := Lib.hid h4
  have HA := Lib.hid hA
  have hm : xs.length ≤ 9223372036854775807 := by omega
  have hE := hF
  unfold Enters at hE
  clear h h1 h2 h3 h4 hA
  go_enter Tryd.func34, Tryd.ntmps34
  go_wp2
  go_loopw [9] (fun i wr => ∃ k : Nat, k ≤ xs.length ∧ i = .int .i64 k ∧ (∀ j, j < k → p j (xs.getD j 0) = true) ∧ Below w.heap.size w wr) (fun i _ => xs.length - (intOf i).toNat)
  case atStart => exact ⟨0, Nat.zero_le _, rfl, fun j hj => by omega, Below.refl _ _⟩
  case round =>
    obtain ⟨k, hk, rfl, hs, hb⟩ := hrel
    have HS := Lib.hid hs
    have HBl := Lib.hid hb
    clear hs
    by_cases hlt : k < xs.length
    · obtain ⟨b, o, rfl, hbw, hc⟩ := HX.out (by omega)
      have c1 := ((bcell hb).1 b (o + k) hbw).trans (hc k hlt)
      rw [← getD_at hlt] at c1
      have hC := HA.out k hlt _ hb
      obtain ⟨y, hy⟩ : ∃ y, xs.getD k 0 = y := ⟨_, rfl⟩
      rw [hy] at c1 hC
      have HC := Lib.hid hC
      have HY := Lib.hid hy
      clear hc hy hb hC
      go_wp2_with fail
      refine HC.out.mono ?_
      rintro e w1 ⟨rfl, hb1⟩
      have HB1 := Lib.hid (later_trans HBl.out hb1)
      clear hb1
      by_cases hp : p k y = true
      · have HP := Lib.hid hp
        rw [hp]
        clear hp
        go_wp2
        go_roundw
        case rel => exact ⟨k + 1, by omega, by go_num, fun j hj => by
          by_cases e : j = k
          · subst e; rw [HY.out]; exact HP.out
          · exact HS.out j (by omega), HB1.out⟩
        case measure => simp [intOf]; omega
      · have hp := Bool.eq_false_iff.2 hp
        have e := Lib.hid (allI_no (p := p) hlt (by rw [HY.out]; exact hp))
        rw [hp]
        clear hp
        go_wp2
        go_ret
        exact ⟨ret_bool e.out.symm, HB1.out⟩
    · have e := Lib.hid (allI_yes (xs := xs) (p := p) fun j hj => HS.out j (by omega))
      clear hb
      go_wp2
      go_ret
      exact ⟨ret_bool e.out.symm, HBl.out⟩
set_option maxHeartbeats 400000 in
theorem allR_any {F : Nat} {caps : Array Value} {p : Nat → List Int → Bool} {w : World} {v : Value} {ls : List (List Int)} (hF : Enters F) (h : SlRK .i64 w v ls) (hA : Asks2R F caps w ls p) :
    Calls Tryd.prog 31 #[v, .func (.func F) #[] caps] w fun e w' => e = .returned (.bool (allR ls p)) ∧ Below w.heap.size w w' := by
  obtain ⟨a, c, rfl, h1, h2, h3, h4⟩ := h.open
  have HX := Lib.hid h4
  have HA := Lib.hid hA
  have hm : ls.length ≤ 9223372036854775807 := by omega
  have hE := hF
  unfold Enters at hE
  clear h h1 h2 h3 h4 hA
  go_enter Tryd.func31, Tryd.ntmps31
  go_wp2
  go_loopw [9] (fun i wr => ∃ k : Nat, k ≤ ls.length ∧ i = .int .i64 k ∧ (∀ j, j < k → p j (rowN ls j) = true) ∧ Below w.heap.size w wr) (fun i _ => ls.length - (intOf i).toNat)
  case atStart => exact ⟨0, Nat.zero_le _, rfl, fun j hj => by omega, Below.refl _ _⟩
  case round =>
    obtain ⟨k, hk, rfl, hs, hb⟩ := hrel
    have HS := Lib.hid hs
    have HBl := Lib.hid hb
    clear hs
    by_cases hlt : k < ls.length
    · obtain ⟨b, o, rfl, hbw, hc⟩ := HX.out (by omega)
      obtain ⟨rv, c0, hrv⟩ := hc k hlt
      have c1 := ((bcell hb).1 b (o + k) hbw).trans c0
      have HC := Lib.hid (HA.out k hlt rv _ hb (hrv.later hb))
      clear hc c0 hrv hb
      go_wp2_with fail
      refine HC.out.mono ?_
      rintro e w1 ⟨rfl, hb1⟩
      have HB1 := Lib.hid (later_trans HBl.out hb1)
      clear hb1
      by_cases hp : p k (rowN ls k) = true
      · have HP := Lib.hid hp
        rw [hp]
        clear hp
        go_wp2
        go_roundw
        case rel => exact ⟨k + 1, by omega, by go_num, fun j hj => by
          by_cases e : j = k
          · subst e; exact HP.out
          · exact HS.out j (by omega), HB1.out⟩
        case measure => simp [intOf]; omega
      · have hp := Bool.eq_false_iff.2 hp
        have e := Lib.hid (allR_no (p := p) hlt hp)
        rw [hp]
        clear hp
        go_wp2
        go_ret
        exact ⟨ret_bool e.out.symm, HB1.out⟩
    · have e := Lib.hid (allR_yes (ls := ls) (p := p) fun j hj => HS.out j (by omega))
      clear hb
      go_wp2
      go_ret
      exact ⟨ret_bool e.out.symm, HBl.out⟩
theorem info_rowI : (Tryd.prog.info? 27).map (fun i => (i.zero, i.size, i.bytes)) = some (some (.slice none 0 0), 1, 24) := by kernel_rfl
theorem one_rows {k : IntKind} {w : World} {rv : Nat → Value} {ls : List (List Int)} (h : ∀ r, r < ls.length → SlI k w (rv r) (rowN ls r)) : ∀ u ∈ (List.range ls.length).map rv, u.oneCell' = true := by
  intro u hu
  obtain ⟨r, hr, rfl⟩ := List.mem_map.1 hu
  obtain ⟨a, c, e, -⟩ := (h r (List.mem_range.1 hr)).open
  rw [e]; rfl
set_option maxHeartbeats 400000 in
/-- slices.Clone of rows: a row of the call's own with the same rows. -/
theorem cloneR_any (v : Value) (ls : List (List Int)) (w : World) (h : SlRK .i64 w v ls) (hl : ls.length ≤ 1099511627776) :
    Calls Tryd.prog 25 #[v] w fun e w' => ∃ v' rv, e = .returned v' ∧ w'.ownsRow w.heap.size 27 1 v' ls.length ((List.range ls.length).map rv) ∧ (∀ r, r < ls.length → SlI .i64 w' (rv r) (rowN ls r)) ∧ Below w.heap.size w w' := by
  obtain ⟨i0, hi, hz0, hz1, hz2⟩ := info_parts info_rowI
  obtain ⟨rv, hC, hR⟩ := h
  have hone := one_rows hR
  obtain ⟨a, c, hv, h1, h2, h3, h4⟩ := hC
  have hC' : SlC w v ((List.range ls.length).map rv) := ⟨a, c, hv, h1, h2, h3, h4⟩
  subst hv
  rw [List.length_map, List.length_range] at hC' h1 ⊢
  have h2' : c ≤ 9223372036854775807 := h2
  have he := fun w a n c n' c' => Lib.run_eql_slice_nil (P := Tryd.prog) w 22 27 a n c n' c' Tryd.underlying22
  cases a with
  | none =>
    obtain rfl : c = 0 := h3 rfl
    have hx : ls = [] := List.eq_nil_of_length_eq_zero (by omega)
    subst hx
    simp only [List.length_nil]
    clear hC' h4 hone hR h1 h2 h2' h3 hl
    go_enter Tryd.func25, Tryd.ntmps25
    go_wp2
    go_ret
    exact ⟨_, rv, rfl, World.ownsRow_nil _ _ _ _, fun r hr => (by simp at hr), Below.refl _ _⟩
  | some ad =>
    have hcell := (hC'.later (later_alloc w (.cells #[] 27))).cells
    have hown : (w.alloc (.cells #[] 27)).ownsRow w.heap.size 27 1 (.slice (some ⟨w.heap.size, 0, none⟩) 0 0) 0 [] := World.ownsRow_made _ _ _ (Nat.le_refl _) (by simp [maxLen]) (by simp)
    have HR := Lib.hid hR
    have hln : ((List.range ls.length).map rv).length = ls.length := by simp
    have HL := Lib.hid (show ((List.range ls.length).map rv).length = ls.length * 1 by simp)
    clear hC' h4 h3 hR hln
    go_enter Tryd.func25, Tryd.ntmps25
    go_wp2_with (at_builtin; refine wpList_append_own _ rfl _ _ 22 rfl w.heap.size 27 i0 (.slice none 0 0) 1 24 Tryd.underlying22 hi hz0 hz1 hz2 rfl (by decide) _ _ _ rfl hown ad ls.length c ((List.range ls.length).map rv) rfl HL.out hcell hone (by unfold maxLen; omega) (by omega) (by simp) ?_; intro v' w1 hown1 hgrow1 _)
    go_ret
    simp only [Nat.zero_add, List.nil_append] at hown1
    have hb : Below w.heap.size w w1 := (((Below.refl _ w).alloc (Nat.le_refl _) _).grown hgrow1 (by simp) (fun k e => by cases e; exact Nat.le_refl _))
    exact ⟨_, rv, rfl, hown1, fun r hr => (HR.out r hr).later hb, hb⟩
end Go.Proofs.YtplidcbfbonjlaaDoor
