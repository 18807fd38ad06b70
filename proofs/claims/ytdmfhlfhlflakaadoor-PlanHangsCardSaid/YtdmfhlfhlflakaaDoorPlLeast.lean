/-
  plan.least at int, size, Size, walked.
-/
import Derived.Test.YtdmfhlfhlflakaaDoorPlChk
namespace Go.Proofs.YtdmfhlfhlflakaaDoor
open Go.RowKit
set_option linter.unusedVariables false

/-- The least of what comes of the first k edges that have v. -/
def leastTo (es : List (List Int)) (v : Int) (f : Nat → Int) : Nat → Option Int
  | 0 => none
  | k + 1 => if v ∈ rowN es k then (match leastTo es v f k with | none => some (f k) | some m => some (if f k < m then f k else m)) else leastTo es v f k
def AsksN (F : Nat) (caps : Array Value) (w : World) (n : Nat) (q : IntKind) (f : Nat → Int) : Prop :=
  ∀ (i : Nat), i < n → ∀ W, Below w.heap.size w W → Calls Tryd.prog F (#[.int .i64 i] ++ caps) W fun e W' => e = .returned (.int q (f i)) ∧ Below W.heap.size W W'
theorem leastTo_out {es : List (List Int)} {v : Int} {f : Nat → Int} {k : Nat} (h : ¬ v ∈ rowN es k) : leastTo es v f (k + 1) = leastTo es v f k := by
  show (if v ∈ rowN es k then _ else _) = _
  rw [if_neg h]
theorem leastTo_first {es : List (List Int)} {v : Int} {f : Nat → Int} {k : Nat} (h : v ∈ rowN es k) (h0 : leastTo es v f k = none) : leastTo es v f (k + 1) = some (f k) := by
  show (if v ∈ rowN es k then _ else _) = _
  rw [if_pos h, h0]
theorem leastTo_less {es : List (List Int)} {v : Int} {f : Nat → Int} {k : Nat} {m : Int} (h : v ∈ rowN es k) (h0 : leastTo es v f k = some m) (hl : f k < m) : leastTo es v f (k + 1) = some (f k) := by
  show (if v ∈ rowN es k then _ else _) = _
  rw [if_pos h, h0]
  show some (if f k < m then f k else m) = _
  rw [if_pos hl]
theorem leastTo_more {es : List (List Int)} {v : Int} {f : Nat → Int} {k : Nat} {m : Int} (h : v ∈ rowN es k) (h0 : leastTo es v f k = some m) (hl : ¬ f k < m) : leastTo es v f (k + 1) = some m := by
  show (if v ∈ rowN es k then _ else _) = _
  rw [if_pos h, h0]
  show some (if f k < m then f k else m) = _
  rw [if_neg hl]

set_option maxRecDepth 100000 in
set_option maxHeartbeats 2000000 in
theorem least_any {F : Nat} {caps : Array Value} {f : Nat → Int} {v m : Int} {ev sv : Value} {es : List (List Int)} {w : World} (hF : Enters F) (he : SlRK .i64 w ev es) (hA : AsksN F caps w es.length .i64 f) :
    Calls Tryd.prog 57 #[shpV m ev sv, .int .i64 v, .func (.func F) #[] caps] w fun e w' => e = .returned (.tuple #[.int .i64 ((leastTo es v f es.length).getD 0), .bool (leastTo es v f es.length).isSome]) ∧ Below w.heap.size w w' := by
  have HE := Lib.hid he
  obtain ⟨a, c, rfl, h1, h2, h3, h4⟩ := he.open
  have HX := Lib.hid h4
  have HA := Lib.hid hA
  have hm : es.length ≤ 9223372036854775807 := by omega
  have hE := hF
  unfold Enters at hE
  clear he h1 h2 h3 h4 hA
  go_enter Tryd.func57, Tryd.ntmps57
  go_wp2
  go_loopw [8, 9, 17] (fun o s i wr => ∃ k : Nat, k ≤ es.length ∧ i = .int .i64 k ∧ o = .int .i64 ((leastTo es v f k).getD 0) ∧ s = .bool (leastTo es v f k).isSome ∧ Below w.heap.size w wr) (fun _ _ i _ => es.length - (intOf i).toNat)
  case atStart => exact ⟨0, Nat.zero_le _, rfl, rfl, rfl, later_alloc _ _⟩
  case round =>
    obtain ⟨k, hk, rfl, rfl, rfl, hb⟩ := hrel
    have HBl := Lib.hid hb
    by_cases hlt : k < es.length
    · obtain ⟨b, o, rfl, hbw, hc⟩ := HX.out (by omega)
      obtain ⟨rv, c0, hrv⟩ := hc k hlt
      have c1 := ((bcell hb).1 b (o + k) hbw).trans c0
      have HC := Lib.hid (Contains_any rv _ v _ (hrv.later hb))
      obtain ⟨ar, cr, rfl, -⟩ := hrv.open
      have HN := Lib.hid (fun W (hb' : Below _ _ W) => HA.out k hlt W (later_trans hb hb'))
      clear hc c0 hrv hb
      by_cases hin : v ∈ rowN es k
      · rw [decide_eq_true hin] at HC
        cases h0 : leastTo es v f k with
        | none =>
          have HR := Lib.hid (leastTo_first hin h0)
          clear h0 hin
          simp only [Option.getD_none, Option.isSome_none]
          obtain ⟨y, hy⟩ : ∃ y, f k = y := ⟨_, rfl⟩
          rw [hy] at HN HR
          clear hy
          go_wp2_with fail
          refine HC.out.mono ?_
          rintro e w1 ⟨rfl, rfl⟩
          go_wp2_with fail
          refine (HN.out _ (Below.refl _ _)).mono ?_
          rintro e w1 ⟨rfl, hb1⟩
          have HB1 := Lib.hid (later_trans HBl.out hb1)
          clear hb1
          go_wp2_with fail
          go_roundw
          case rel => exact ⟨k + 1, by omega, by go_num, by rw [HR.out]; rfl, by rw [HR.out]; rfl, HB1.out⟩
          case measure => simp [intOf]; omega
        | some q =>
          simp only [Option.getD_some, Option.isSome_some]
          by_cases hl : f k < q
          · have HR := Lib.hid (leastTo_less hin h0 hl)
            clear h0 hin
            obtain ⟨y, hy⟩ : ∃ y, f k = y := ⟨_, rfl⟩
            rw [hy] at HN HR hl
            clear hy
            go_wp2_with fail
            refine HC.out.mono ?_
            rintro e w1 ⟨rfl, rfl⟩
            go_wp2_with fail
            refine (HN.out _ (Below.refl _ _)).mono ?_
            rintro e w1 ⟨rfl, hb1⟩
            have HB1 := Lib.hid (later_trans HBl.out hb1)
            clear hb1
            go_wp2_with fail
            go_roundw
            case rel => exact ⟨k + 1, by omega, by go_num, by rw [HR.out]; rfl, by rw [HR.out]; rfl, HB1.out⟩
            case measure => simp [intOf]; omega
          · have HR := Lib.hid (leastTo_more hin h0 hl)
            clear h0 hin
            obtain ⟨y, hy⟩ : ∃ y, f k = y := ⟨_, rfl⟩
            rw [hy] at HN hl
            clear hy
            go_wp2_with fail
            refine HC.out.mono ?_
            rintro e w1 ⟨rfl, rfl⟩
            go_wp2_with fail
            refine (HN.out _ (Below.refl _ _)).mono ?_
            rintro e w1 ⟨rfl, hb1⟩
            have HB1 := Lib.hid (later_trans HBl.out hb1)
            clear hb1
            go_wp2_with fail
            go_roundw
            case rel => exact ⟨k + 1, by omega, by go_num, by rw [HR.out]; rfl, by rw [HR.out]; rfl, HB1.out⟩
            case measure => simp [intOf]; omega
      · rw [decide_eq_false hin] at HC
        have HR := Lib.hid (leastTo_out (f := f) hin)
        clear hin
        generalize leastTo es v f k = r at *
        go_wp2_with fail
        refine HC.out.mono ?_
        rintro e w1 ⟨rfl, rfl⟩
        go_wp2_with fail
        go_roundw
        case rel => exact ⟨k + 1, by omega, by go_num, by rw [HR.out], by rw [HR.out], HBl.out⟩
        case measure => simp [intOf]; omega
    · obtain rfl : k = es.length := by omega
      clear hb
      go_wp2_with fail
      go_ret2
      exact ⟨rfl, HBl.out⟩

theorem sizeAt_any {x i : Nat} {m : Int} {ev sv : Value} {zs : List Int} {W : World} (h : SB W x m ev sv) (hs : SlI .i64 W sv zs) (hi : i < zs.length) :
    Calls Tryd.prog 120 #[.int .i64 i, .pointer (some ⟨x, 0, none⟩)] W fun e w' => e = .returned (.int .i64 (zs.getD i 0)) ∧ Below W.heap.size W w' := by
  have c2 : W.cell? ⟨x, 2, none⟩ = some sv := by simpa using box_cell (i := 2) h
  clear h
  obtain ⟨a, c, rfl, h1, h2, h3, h4⟩ := hs.open
  obtain ⟨b, o, rfl, hb, hc⟩ := h4 (by omega)
  have c1 := hc i hi
  rw [← getD_at hi] at c1
  have hi1 : (i : Int) < zs.length := by omega
  clear hs h3 h4 hc
  generalize zs.getD i 0 = y at c1 ⊢
  go_enter Tryd.func120, Tryd.ntmps120
  go_wp2
  go_ret
  exact ⟨rfl, Below.refl _ _⟩
theorem SizeAt_any {x i : Nat} {m : Int} {ev sv : Value} {zs : List Int} {W : World} (h : SB W x m ev sv) (hs : SlI .i64 W sv zs) (hi : i < zs.length) :
    Calls Tryd.prog 58 #[.int .i64 i, .pointer (some ⟨x, 0, none⟩)] W fun e w' => e = .returned (.int .i64 (zs.getD i 0)) ∧ Below W.heap.size W w' := by
  have c2 : W.cell? ⟨x, 2, none⟩ = some sv := by simpa using box_cell (i := 2) h
  clear h
  obtain ⟨a, c, rfl, h1, h2, h3, h4⟩ := hs.open
  obtain ⟨b, o, rfl, hb, hc⟩ := h4 (by omega)
  have c1 := hc i hi
  rw [← getD_at hi] at c1
  have hi1 : (i : Int) < zs.length := by omega
  clear hs h3 h4 hc
  generalize zs.getD i 0 = y at c1 ⊢
  go_enter Tryd.func58, Tryd.ntmps58
  go_wp2
  go_ret
  exact ⟨rfl, Below.refl _ _⟩

/-- The size of a variable. -/
def sizeO (S : Shp) (v : Int) : Option Int := leastTo S.edges v (fun i => S.sizes.getD i 0) S.edges.length
set_option maxHeartbeats 1000000 in
/-- size, asked of a shape as long as it must be. -/
theorem size_any (S : Shp) (ev sv : Value) (v : Int) (w : World) (h : ShR w ev sv S) (hl : S.sizes.length = S.edges.length) :
    Calls Tryd.prog 105 #[shpV S.many ev sv, .int .i64 v] w fun e w' => e = .returned (.int .i64 ((sizeO S v).getD 1048577)) ∧ Below w.heap.size w w' := by
  obtain ⟨m, ls, zs⟩ := S
  have he := h.edges
  have hs := h.sizes
  unfold sizeO
  simp only at he hs hl ⊢
  have hE : Enters 120 := enters_of Tryd.func120 (by kernel_rfl) rfl
  have hb0 := later_alloc w (.cells #[.int .i64 m, ev, sv] 27)
  have hL := least_any (m := m) (sv := sv) (v := v) (caps := #[.pointer (some ⟨w.heap.size, 0, none⟩)]) (f := fun i => zs.getD i 0) (w := w.alloc (.cells #[.int .i64 m, ev, sv] 27)) hE (he.later hb0) fun i hi W hb => sizeAt_any (m := m) (ev := ev) (kept hb (box_new w _ _)) ((hs.later hb0).later hb) (by omega)
  have HL := Lib.hid hL
  obtain ⟨ae, ce, rfl, -⟩ := he.open
  obtain ⟨az, cz, rfl, -⟩ := hs.open
  clear h he hs hL hE hl hb0
  obtain ⟨q0, hq0⟩ : ∃ q, leastTo ls v (fun i => zs.getD i 0) ls.length = q := ⟨_, rfl⟩
  rw [hq0] at HL ⊢
  clear hq0
  cases q0 with
  | none =>
    go_enter Tryd.func105, Tryd.ntmps105
    go_wp2_with fail
    refine HL.out.mono ?_
    rintro e w1 ⟨rfl, hb1⟩
    go_wp2_with fail
    go_ret
    exact ⟨rfl, below_new hb1⟩
  | some q =>
    go_enter Tryd.func105, Tryd.ntmps105
    go_wp2_with fail
    refine HL.out.mono ?_
    rintro e w1 ⟨rfl, hb1⟩
    go_wp2_with fail
    go_ret
    exact ⟨rfl, below_new hb1⟩
def sizeV (o : Option Int) : Value := .tuple #[.int .i64 (o.getD 0), .bool o.isSome]
theorem shpB_len {S : Shp} (h : shpB S = true) : S.sizes.length = S.edges.length := by
  unfold shpB at h
  simp only [Bool.and_eq_true, decide_eq_true_eq] at h
  exact h.1.2
set_option maxHeartbeats 1000000 in
/-- Size. -/
theorem Size_any (S : Shp) (ev sv : Value) (v : Int) (w : World) (h : ShR w ev sv S) :
    Calls Tryd.prog 19 #[shpV S.many ev sv, .int .i64 v] w fun e w' => e = .returned (sizeV (if shpB S = true then sizeO S v else none)) ∧ Below w.heap.size w w' := by
  have hb0 := later_alloc w (.cells #[.int .i64 S.many, ev, sv] 27)
  have hC := Check_any S ev sv _ (h.later hb0)
  obtain ⟨m, ls, zs⟩ := S
  have he := h.edges
  have hs := h.sizes
  simp only at he hs hb0 hC ⊢
  by_cases hok : shpB ⟨m, ls, zs⟩ = true
  · have hl := shpB_len hok
    simp only at hl
    rw [if_pos hok] at hC ⊢
    have hE : Enters 58 := enters_of Tryd.func58 (by kernel_rfl) rfl
    have hL : ∀ W0, Below (w.alloc (.cells #[.int .i64 m, ev, sv] 27)).heap.size (w.alloc (.cells #[.int .i64 m, ev, sv] 27)) W0 → _ := fun W0 hb' => least_any (m := m) (sv := sv) (v := v) (caps := #[.pointer (some ⟨w.heap.size, 0, none⟩)]) (f := fun i => zs.getD i 0) (w := W0) hE ((he.later hb0).later hb') fun i hi W hb => SizeAt_any (m := m) (ev := ev) (kept (later_trans hb' hb) (box_new w _ _)) ((hs.later hb0).later (later_trans hb' hb)) (by omega)
    have HL := Lib.hid hL
    have HC := Lib.hid hC
    obtain ⟨ae, ce, rfl, -⟩ := he.open
    obtain ⟨az, cz, rfl, -⟩ := hs.open
    unfold sizeO sizeV
    simp only
    clear h he hs hL hE hl hb0 hok hC
    go_enter Tryd.func19, Tryd.ntmps19
    go_wp2_with fail
    refine HC.out.mono ?_
    rintro e w1 ⟨rfl, hb1⟩
    have b1 := new_kept hb1
    have c0 := box_cell (i := 0) b1
    have c1 := box_cell (i := 1) b1
    have c2 := box_cell (i := 2) b1
    simp at c0 c1 c2
    have HB1 := Lib.hid hb1
    clear hb1 b1
    go_wp2_with fail
    refine (HL.out _ HB1.out).mono ?_
    rintro e w2 ⟨rfl, hb2⟩
    go_wp2_with fail
    go_ret2
    exact ⟨rfl, below_new (later_trans HB1.out hb2)⟩
  · rw [if_neg hok] at hC ⊢
    have HC := Lib.hid hC
    obtain ⟨ae, ce, rfl, -⟩ := he.open
    obtain ⟨az, cz, rfl, -⟩ := hs.open
    clear h he hs hb0 hok hC
    unfold sizeV
    go_enter Tryd.func19, Tryd.ntmps19
    go_wp2_with fail
    refine HC.out.mono ?_
    rintro e w1 ⟨rfl, hb1⟩
    go_wp2_with fail
    go_ret2
    exact ⟨rfl, below_new hb1⟩
end Go.Proofs.YtdmfhlfhlflakaaDoor
