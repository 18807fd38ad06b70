/-
  What orders cost, and which is the best: walked (plan's and the document's).
-/
import Derived.Test.YtdmfhlfhlflakaaDoorPlRefS
import Derived.Test.YtdmfhlfhlflakaaDoorPlLog
import Derived.Test.YtdmfhlfhlflakaaDoorPlLim0
import Derived.Test.YtdmfhlfhlflakaaDoorRbs
import Derived.Test.YtdmfhlfhlflakaaDoorPlMap
import Derived.Deep.AppendLies
import Derived.Test.YtdmfhlfhlflakaaDoorPlIdx2
import Derived.Test.YtdmfhlfhlflakaaDoorPlRef20
namespace Go.Proofs.YtdmfhlfhlflakaaDoor
/-! ## XCo1 -/
section
open Go.RowKit
set_option linter.unusedVariables false
set_option linter.unusedSimpArgs false

/-- What an edge weighs, behind some variables. -/
def wF (S : Shp) (T : List Int) (i : Nat) : Int := if meetsB T (rowN S.edges i) = true then 1 + (lg (1 + S.sizes.getD i 0) : Int) else S.sizes.getD i 0
/-- A variable's weight. -/
def weightN (S : Shp) (v : Int) (T : List Int) : Int := (leastTo S.edges v (wF S T) S.edges.length).getD 1
theorem wF_bound {S : Shp} (h : shpB S = true) (T : List Int) {i : Nat} (hi : i < S.edges.length) : 0 ≤ wF S T i ∧ wF S T i ≤ 1048576 := by
  have hl := shpB_len h
  have hz := sizes_le h (S.sizes[i]'(by omega)) (List.getElem_mem (by omega))
  rw [← getD_at (by omega)] at hz
  have hg := lg_le (1 + S.sizes.getD i 0) (by omega)
  unfold wF
  split <;> omega
theorem weight_bound {S : Shp} (h : shpB S = true) (v : Int) (T : List Int) : 0 ≤ weightN S v T ∧ weightN S v T ≤ 1048576 := by
  unfold weightN
  cases hq : leastTo S.edges v (wF S T) S.edges.length with
  | none => show (0 : Int) ≤ 1 ∧ (1 : Int) ≤ 1048576; decide
  | some m =>
    obtain ⟨i, hi, rfl⟩ := leastTo_in hq
    exact wF_bound h T hi
/-- Does an edge have one of the first ones? -/
def anyTo (e T : List Int) (j : Nat) : Bool := (T.take j).any fun x => decide (x ∈ e)
theorem anyTo_step {e T : List Int} {j : Nat} (hj : j < T.length) : anyTo e T (j + 1) = (anyTo e T j || decide (T.getD j 0 ∈ e)) := by
  unfold anyTo
  rw [List.take_succ_eq_append_getElem hj, List.any_append, getD_at hj]
  simp

set_option maxRecDepth 100000 in
set_option maxHeartbeats 4000000 in
theorem weight22_any (S : Shp) (ev sv tv : Value) (v : Int) (T : List Int) (w : World) (h : ShR w ev sv S) (hok : shpB S = true) (ht : SlI .i64 w tv T) :
    Calls Tryd.prog 83 #[shpV S.many ev sv, .int .i64 v, tv] w fun e w' => e = .returned (.int .i64 (weightN S v T)) ∧ Below w.heap.size w w' := by
  have hb0 := later_alloc w (.cells #[.int .i64 S.many, ev, sv] 27)
  have hS := h.later hb0
  have hT := SlI.later ht hb0
  have hl := shpB_len hok
  have h40 := (shpB_yes hok).2.2.1
  have hfb := fun i (hi : i < S.edges.length) => wF_bound hok T hi
  have hzb : ∀ i, i < S.sizes.length → 0 ≤ S.sizes.getD i 0 ∧ S.sizes.getD i 0 ≤ 1048576 := fun i hi => by
    have := sizes_le hok (S.sizes[i]'hi) (List.getElem_mem hi)
    rw [← getD_at hi] at this
    exact this
  have hfd : ∀ i, wF S T i = if anyTo (rowN S.edges i) T T.length = true then 1 + (lg (1 + S.sizes.getD i 0) : Int) else S.sizes.getD i 0 := fun i => by
    unfold wF anyTo
    rw [meetsB_swap, List.take_length]
  have htl := hT.len
  unfold maxLen at htl
  unfold weightN
  obtain ⟨f, hf⟩ : ∃ f, wF S T = f := ⟨_, rfl⟩
  rw [hf] at hfb hfd ⊢
  obtain ⟨m, ls, zs⟩ := S
  have he := hS.edges
  have hs := hS.sizes
  simp only at he hs hl h40 hfb hfd hzb ⊢
  have HF := Lib.hid (And.intro he (And.intro hs (And.intro hT (And.intro hl (And.intro hfb (And.intro hfd hzb))))))
  obtain ⟨ae, ce, rfl, -⟩ := he.open
  obtain ⟨az, cz, rfl, -⟩ := hs.open
  obtain ⟨at', ct, rfl, -⟩ := hT.open
  clear h hS hok he hs hT ht hl hfb hfd hzb hf
  have HB := Lib.hid hb0
  clear hb0
  go_enter Tryd.func83, Tryd.ntmps83
  go_wp2_with fail
  go_loop [7, 17] (fun s i => ∃ k : Nat, k ≤ ls.length ∧ i = .int .i64 k ∧ s = .int .i64 ((leastTo ls v f k).getD (-1))) (fun _ i => ls.length - (intOf i).toNat)
  case atStart => exact ⟨0, Nat.zero_le _, rfl, rfl⟩
  case round =>
    obtain ⟨k, hk, rfl, rfl⟩ := hrel
    by_cases hlt : k < ls.length
    · obtain ⟨_, _, e1, _, _, _, g4⟩ := HF.out.1.open
      obtain ⟨be, oe, e2, _, gc⟩ := g4 (by omega)
      obtain ⟨rv, ce1, hrv⟩ := gc k hlt
      injection e1 with e1a e1b e1c
      subst e1a e1c
      subst e2
      have hkz : k < zs.length := by have := HF.out.2.2.2.1; omega
      obtain ⟨_, _, f1, _, _, _, f4⟩ := HF.out.2.1.open
      obtain ⟨bw, ow, f2, _, fc⟩ := f4 (by omega)
      have cw1 := fc k hkz
      rw [← getD_at hkz] at cw1
      injection f1 with f1a f1b f1c
      subst f1a f1c
      subst f2
      have HC := Lib.hid (Has_any rv _ v _ hrv)
      have HRv := Lib.hid hrv
      obtain ⟨ar, cr, rfl, -⟩ := hrv.open
      have hfk := HF.out.2.2.2.2.2.1 k
      have hfkb := HF.out.2.2.2.2.1 k hlt
      have hzk := HF.out.2.2.2.2.2.2 k hkz
      obtain ⟨z, hz⟩ : ∃ z, zs.getD k 0 = z := ⟨_, rfl⟩
      rw [hz] at cw1 hfk hzk
      have hkzI : (k : Int) < zs.length := by omega
      obtain ⟨row, hrow⟩ : ∃ row, rowN ls k = row := ⟨_, rfl⟩
      obtain ⟨ln, hln⟩ : ∃ ln, row.length = ln := ⟨_, rfl⟩
      rw [hrow] at HC HRv hfk ce1
      have hlgb := lg_le (1 + z) (by omega)
      obtain ⟨lm, hlm⟩ : ∃ lm : Nat, lg (1 + z) = lm := ⟨_, rfl⟩
      have hLog := reflog_any (1 + z) (by omega) (by omega) (w.alloc (.cells #[.int .i64 m, .slice (some ⟨be, oe, none⟩) ls.length ce, .slice (some ⟨bw, ow, none⟩) zs.length cz] 27))
      rw [hlm] at hLog hlgb hfk
      have hw1 : IntKind.i64.wrap (1 + z) = 1 + z := wrap_i64 (by omega) (by omega)
      have hw2 : IntKind.i64.wrap (1 + (lm : Int)) = 1 + lm := wrap_i64 (by omega) (by omega)
      have HL := Lib.hid (And.intro hlt (And.intro hfk (And.intro hfkb hLog)))
      have hmem : (v ∈ row) ↔ (v ∈ rowN ls k) := by rw [hrow]
      have HMem := Lib.hid hmem
      clear gc g4 fc f4 hrv e1b f1b hkz hz hrow hln hlm hfk hfkb hLog hmem
      by_cases hin : v ∈ row
      · rw [decide_eq_true hin] at HC
        have hin2 := HMem.out.1 hin
        obtain ⟨out, hout⟩ : ∃ out, leastTo ls v f k = out := ⟨_, rfl⟩
        have hnone : out = none → leastTo ls v f (k + 1) = some (f k) := fun g => leastTo_first hin2 (by rw [hout, g])
        have hless : ∀ q, out = some q → f k < q → leastTo ls v f (k + 1) = some (f k) := fun q g gl => leastTo_less hin2 (by rw [hout, g]) gl
        have hmore : ∀ q, out = some q → ¬ f k < q → leastTo ls v f (k + 1) = some q := fun q g gl => leastTo_more hin2 (by rw [hout, g]) gl
        have hq0 : ∀ q, out = some q → 0 ≤ q := fun q g => by
          obtain ⟨i, hi, e⟩ := leastTo_in (hout.trans g)
          have := HF.out.2.2.2.2.1 i (by omega)
          omega
        rw [hout]
        have HO := Lib.hid (And.intro hnone (And.intro hless (And.intro hmore hq0)))
        clear hin hin2 hout hnone hless hmore hq0
        obtain ⟨o1, ho1⟩ : ∃ o1, out.getD (-1) = o1 := ⟨_, rfl⟩
        rw [ho1]
        have HO1 := Lib.hid ho1
        clear ho1
        go_wp2_with fail
        refine HC.out.mono ?_
        rintro e w2 ⟨rfl, rfl⟩
        go_wp2_with fail
        go_loop [10, 33] (fun s i => ∃ j : Nat, j ≤ T.length ∧ i = .int .i64 j ∧ s = .int .i64 (if anyTo row T j = true then 1 + (lm : Int) else z)) (fun _ i => T.length - (intOf i).toNat)
        case atStart => exact ⟨0, Nat.zero_le _, rfl, rfl⟩
        case round =>
          obtain ⟨j, hj, rfl, rfl⟩ := hrel
          by_cases hjl : j < T.length
          · obtain ⟨_, _, t1, _, _, _, t4⟩ := HF.out.2.2.1.open
            obtain ⟨bt, ot, t2, _, tc⟩ := t4 (by omega)
            have ct1 := tc j hjl
            rw [← getD_at hjl] at ct1
            have hst := anyTo_step (e := row) hjl
            injection t1 with t1a t1b t1c
            subst t1a t1c
            subst t2
            obtain ⟨x, hx⟩ : ∃ x, T.getD j 0 = x := ⟨_, rfl⟩
            rw [hx] at ct1 hst
            have HC2 := Lib.hid (Has_any _ _ x _ HRv.out)
            clear tc t4 t1b hx
            by_cases hxr : x ∈ row
            · have HY : Hid (anyTo row T (j + 1) = true) := Lib.hid (by rw [hst, decide_eq_true hxr, Bool.or_true])
              rw [decide_eq_true hxr] at HC2
              obtain ⟨s0, hs0⟩ : ∃ s0, (if anyTo row T j = true then 1 + (lm : Int) else z) = s0 := ⟨_, rfl⟩
              rw [hs0]
              clear hst hxr hs0
              go_wp2_with fail
              refine HC2.out.mono ?_
              rintro e w2 ⟨rfl, rfl⟩
              go_wp2_with fail
              refine HL.out.2.2.2.mono ?_
              rintro e w3 ⟨rfl, rfl⟩
              go_wp2_with fail
              go_round
              case rel => first | exact ⟨j + 1, by omega, by go_num, by rw [HY.out]; rfl⟩ | ((repeat apply Exists.intro); refine ⟨?_, rfl⟩; exact ⟨j + 1, by omega, by go_num, by rw [HY.out]; rfl⟩)
              case measure => simp [intOf]; omega
            · have HY : Hid (anyTo row T (j + 1) = anyTo row T j) := Lib.hid (by rw [hst, decide_eq_false hxr, Bool.or_false])
              rw [decide_eq_false hxr] at HC2
              obtain ⟨s0, hs0⟩ : ∃ s0, (if anyTo row T j = true then 1 + (lm : Int) else z) = s0 := ⟨_, rfl⟩
              rw [hs0]
              have HS0 := Lib.hid hs0
              clear hst hxr hs0
              go_wp2_with fail
              refine HC2.out.mono ?_
              rintro e w2 ⟨rfl, rfl⟩
              go_wp2_with fail
              go_round
              case rel => first | exact ⟨j + 1, by omega, by go_num, by rw [HY.out, HS0.out]⟩ | ((repeat apply Exists.intro); refine ⟨?_, rfl⟩; exact ⟨j + 1, by omega, by go_num, by rw [HY.out, HS0.out]⟩)
              case measure => simp [intOf]; omega
          · obtain rfl : j = T.length := by omega
            rw [← HL.out.2.1]
            obtain ⟨fk, hfk⟩ : ∃ fk, f k = fk := ⟨_, rfl⟩
            have hfb := HL.out.2.2.1
            have hno := HO.out.1
            have hle := HO.out.2.1
            have hmo := HO.out.2.2.1
            rw [hfk] at hfb hno hle hmo ⊢
            cases out with
            | none =>
              have ho : o1 = -1 := HO1.out.symm
              subst ho
              have HR := Lib.hid (hno rfl)
              clear hno hle hmo hfk
              go_wp2_with fail
              go_round
              case rel => first | exact ⟨k + 1, by have := HL.out.1; omega, by go_num, by rw [HR.out]; rfl⟩ | ((repeat apply Exists.intro); refine ⟨?_, rfl⟩; exact ⟨k + 1, by have := HL.out.1; omega, by go_num, by rw [HR.out]; rfl⟩)
              case measure => simp [intOf]; have := HL.out.1; omega
            | some q =>
              have ho : q = o1 := HO1.out
              subst ho
              have hq0 : ¬ q < 0 := by have := HO.out.2.2.2 q rfl; omega
              by_cases hl : fk < q
              · have HR := Lib.hid (hle q rfl hl)
                clear hno hle hmo hfk
                go_wp2_with fail
                go_round
                case rel => first | exact ⟨k + 1, by have := HL.out.1; omega, by go_num, by rw [HR.out]; rfl⟩ | ((repeat apply Exists.intro); refine ⟨?_, rfl⟩; exact ⟨k + 1, by have := HL.out.1; omega, by go_num, by rw [HR.out]; rfl⟩)
                case measure => simp [intOf]; have := HL.out.1; omega
              · have HR := Lib.hid (hmo q rfl (by omega))
                clear hno hle hmo hfk
                go_wp2_with fail
                go_round
                case rel => first | exact ⟨k + 1, by have := HL.out.1; omega, by go_num, by rw [HR.out]; rfl⟩ | ((repeat apply Exists.intro); refine ⟨?_, rfl⟩; exact ⟨k + 1, by have := HL.out.1; omega, by go_num, by rw [HR.out]; rfl⟩)
                case measure => simp [intOf]; have := HL.out.1; omega
      · have HR : Hid (leastTo ls v f (k + 1) = leastTo ls v f k) := Lib.hid (leastTo_out (fun g => hin (HMem.out.2 g)))
        rw [decide_eq_false hin] at HC
        clear hin
        obtain ⟨s, hs⟩ : ∃ s, (leastTo ls v f k).getD (-1) = s := ⟨_, rfl⟩
        rw [hs]
        have HQ := Lib.hid hs
        clear hs
        go_wp2_with fail
        refine HC.out.mono ?_
        rintro e w2 ⟨rfl, rfl⟩
        go_wp2_with fail
        go_round
        case rel => first | exact ⟨k + 1, by have := HL.out.1; omega, by go_num, by rw [HR.out, HQ.out]⟩ | ((repeat apply Exists.intro); refine ⟨?_, rfl⟩; exact ⟨k + 1, by have := HL.out.1; omega, by go_num, by rw [HR.out, HQ.out]⟩)
        case measure => simp [intOf]; have := HL.out.1; omega
    · obtain rfl : k = ls.length := by omega
      obtain ⟨out, hout⟩ : ∃ out, leastTo ls v f ls.length = out := ⟨_, rfl⟩
      have hq0 : ∀ q, out = some q → 0 ≤ q := fun q g => by
        obtain ⟨i, hi, e⟩ := leastTo_in (hout.trans g)
        have := HF.out.2.2.2.2.1 i hi
        omega
      rw [hout]
      have HO := Lib.hid hout
      clear hout
      cases out with
      | none =>
        simp only [Option.getD_none]
        clear hq0
        go_wp2_with fail
        go_ret
        exact ⟨ret_int (by rw [HO.out]; rfl), HB.out⟩
      | some q =>
        simp only [Option.getD_some]
        have hqn : ¬ q < 0 := by have := hq0 q rfl; omega
        clear hq0
        go_wp2_with fail
        go_ret
        exact ⟨ret_int (by rw [HO.out]; rfl), HB.out⟩
end
/-! ## XCo2 -/
section
open Go.RowKit Go.Shelf
set_option linter.unusedVariables false
set_option linter.unusedSimpArgs false

/-- The product of the first weights; their sum. -/
def cP (S : Shp) (o : List Int) : Nat → Nat
  | 0 => 1
  | k + 1 => cP S o k * (weightN S (o.getD k 0) (o.take k)).toNat
def cS (S : Shp) (o : List Int) : Nat → Nat
  | 0 => 0
  | k + 1 => cS S o k + cP S o (k + 1)
theorem cP_len {S : Shp} (h : shpB S = true) (o : List Int) : ∀ k, (digs (cP S o k)).length ≤ 3 * k + 1
  | 0 => (digs_len 1 1).2 (by decide)
  | k + 1 => by
    have ih := cP_len h o k
    have hb := weight_bound h (o.getD k 0) (o.take k)
    have h1 := times_len (digs_dg (cP S o k)) (smallL_lw (n := weightN S (o.getD k 0) (o.take k)) (by omega) (by omega))
    rw [dv_digs, smallL_dv (by omega)] at h1
    have h2 := smallL_len (weightN S (o.getD k 0) (o.take k))
    show (digs (cP S o k * _)).length ≤ _
    omega
theorem cS_len {S : Shp} (h : shpB S = true) (o : List Int) : ∀ k, (digs (cS S o k)).length ≤ 4 * k + 1
  | 0 => by show (digs 0).length ≤ 1; rw [digs_zero]; simp
  | k + 1 => by
    have ih := cS_len h o k
    have hp := cP_len h o (k + 1)
    have h1 := (digs_len (4 * k + 4) (cS S o k)).1 (by omega)
    have h2 := (digs_len (4 * k + 4) (cP S o (k + 1))).1 (by omega)
    have h3 := plus_len h1 h2
    show (digs (cS S o k + cP S o (k + 1))).length ≤ _
    omega
/-- What stands while a cost is reckoned. -/
structure CoW (w : World) (m : Int) (ev sv : Value) (W : World) : Prop where
  bel : Below w.heap.size w W
  bs : SB W w.heap.size m ev sv
  br : W.heap[w.heap.size + 1]? = some (.cells #[.int .u64 0, .int .u64 0] 35 (0, 0))
theorem CoW.later {w W W' : World} {m : Int} {ev sv : Value} (h : CoW w m ev sv W) (hb : Below W.heap.size W W') : CoW w m ev sv W' := ⟨later_trans h.bel hb, kept hb h.bs, kept hb h.br⟩
theorem CoW.start {w : World} {m : Int} {ev sv : Value} : CoW w m ev sv ((w.alloc (.cells #[.int .i64 m, ev, sv] 27)).alloc (.cells #[.int .u64 0, .int .u64 0] 35)) := by
  refine ⟨later_trans (later_alloc _ _) (later_alloc _ _), box_alloc (box_new w _ _) _, ?_⟩
  have h := box_new (w.alloc (.cells #[.int .i64 m, ev, sv] 27)) #[.int .u64 0, .int .u64 0] 35
  rw [World.size_alloc] at h; exact h

set_option maxRecDepth 100000 in
set_option maxHeartbeats 4000000 in
theorem Cost22_any (S : Shp) (ev sv ov : Value) (o : List Int) (w : World) (h : ShR w ev sv S) (ho : SlI .i64 w ov o) (hok : shpB S = true) (hol : o.length ≤ 32) :
    Calls Tryd.prog 37 #[shpV S.many ev sv, ov] w fun e w' => e = .returned (numV (cS S o o.length)) ∧ Below w.heap.size w w' := by
  have hI0 : CoW w S.many ev sv _ := CoW.start
  have hS0 := fun W => Small_any 0 W (by decide) (by decide)
  have hS1 := fun W => Small_any 1 W (by decide) (by decide)
  rw [show smallL 0 = digs 0 from smallL_digs (n := 0) (by decide)] at hS0
  rw [show smallL 1 = digs 1 from smallL_digs (n := 1) (by decide)] at hS1
  have hW := fun v T tv W (hb : Below w.heap.size w W) (hT : SlI .i64 W tv T) => weight22_any S ev sv tv v T W (h.later hb) hok hT
  have hpl := fun k => cP_len hok o k
  have hsl := fun k => cS_len hok o k
  have hwb := fun v T => weight_bound hok v T
  have HC := Lib.hid (And.intro hS0 (And.intro hS1 (And.intro hW (And.intro hpl (And.intro hsl hwb)))))
  have HO := Lib.hid ho
  have HI0 := Lib.hid hI0
  obtain ⟨ae, ce, rfl, -⟩ := h.edges.open
  obtain ⟨az, cz, rfl, -⟩ := h.sizes.open
  obtain ⟨ao, co, rfl, hoc, hoc2, -⟩ := ho.open
  clear h ho hok hI0 hS0 hS1 hW hpl hsl hwb
  go_enter Tryd.func37, Tryd.ntmps37
  go_wp2_with fail
  refine (HC.out.1 _).mono ?_
  rintro e w1 ⟨v1, rfl, hv1, hb1⟩
  have H1 := Lib.hid (And.intro hv1 (HI0.out.later hb1))
  clear hv1 hb1
  go_wp2_with fail
  refine (HC.out.2.1 _).mono ?_
  rintro e w2 ⟨v2, rfl, hv2, hb2⟩
  have H2 := Lib.hid (And.intro (SlI.later H1.out.1 hb2) (And.intro hv2 (H1.out.2.later hb2)))
  clear hv2 hb2
  go_wp2_with fail
  go_loopw [6, 7, 14] (fun s p i wr => ∃ k : Nat, k ≤ o.length ∧ i = .int .i64 k ∧ SlI .u64 wr s (digs (cS S o k)) ∧ SlI .u64 wr p (digs (cP S o k)) ∧ CoW w S.many (.slice ae S.edges.length ce) (.slice az S.sizes.length cz) wr) (fun _ _ i _ => o.length - (intOf i).toNat)
  case atStart => exact ⟨0, Nat.zero_le _, rfl, H2.out.1, H2.out.2.1, H2.out.2.2⟩
  case round =>
    obtain ⟨k, hk, rfl, hs, hp, hI⟩ := hrel
    by_cases hlt : k < o.length
    · obtain ⟨_, _, e1, _, _, _, f4⟩ := (SlI.later HO.out hI.bel).open
      obtain ⟨b, of', e2, _, fc⟩ := f4 (by omega)
      injection e1 with e1a e1b e1c
      subst e1a e1c
      subst e2
      have c1 := fc k hlt
      rw [← getD_at hlt] at c1
      obtain ⟨x, hx⟩ : ∃ x, o.getD k 0 = x := ⟨_, rfl⟩
      rw [hx] at c1
      obtain ⟨q0, q1, q2, -, -, -, lS⟩ := three_of' hI.bs
      have hcut := SlI.cut2 (k := .i64) (SlI.later HO.out hI.bel) hk
      have hWt := fun W (hb : Below wr.heap.size wr W) => HC.out.2.2.1 x (o.take k) _ W (later_trans hI.bel hb) (SlI.later hcut hb)
      have hps : cP S o (k + 1) = cP S o k * (weightN S x (o.take k)).toNat := by show cP S o k * (weightN S (o.getD k 0) (o.take k)).toNat = _; rw [hx]
      have hss : cS S o (k + 1) = cS S o k + cP S o (k + 1) := rfl
      have hwb := HC.out.2.2.2.2.2 x (o.take k)
      obtain ⟨u, hu⟩ : ∃ u, weightN S x (o.take k) = u := ⟨_, rfl⟩
      rw [hu] at hps hwb
      simp only [hu] at hWt
      have hpl := HC.out.2.2.2.1 k
      have hpl1 := HC.out.2.2.2.1 (k + 1)
      have hsl := HC.out.2.2.2.2.1 k
      have hT := fun W v (hb : Below wr.heap.size wr W) hv => Times_any _ v (digs (cP S o k)) (smallL u) W (SlI.later hp hb) hv (digs_dg _) (smallL_lw (by omega) (by omega)) (by omega) (by have := smallL_len u; omega)
      rw [dv_digs, smallL_dv (by omega), ← hps] at hT
      have hSm := fun W => Small_any u W (by omega) (by omega)
      have hPl := fun W pv (hb : Below wr.heap.size wr W) hv => Plus_any _ pv (digs (cS S o k)) (digs (cP S o (k + 1))) W (SlI.later hs hb) hv (digs_dg _) (digs_dg _) (by omega) (by omega)
      rw [dv_digs, dv_digs, ← hss] at hPl
      have hwu : IntKind.u64.wrap u = u := wrap_u64 (by omega) (by omega)
      have hkc : k ≤ co := by omega
      have hkI : (k : Int) ≤ co := by omega
      have HK := Lib.hid (And.intro hWt (And.intro hT (And.intro hSm (And.intro hPl (And.intro hI hlt)))))
      have HKeep : Hid (∀ W, Below wr.heap.size wr W → W.cell? ⟨w.heap.size, 0, none⟩ = some (.int .i64 S.many) ∧ W.cell? ⟨w.heap.size, 1, none⟩ = some (.slice ae S.edges.length ce) ∧ W.cell? ⟨w.heap.size, 2, none⟩ = some (.slice az S.sizes.length cz)) := Lib.hid (fun W hb => ⟨cell_next hb q0, cell_next hb q1, cell_next hb q2⟩)
      clear hWt hT hSm hPl hI hs hp hcut hps hss hu hpl hpl1 hsl fc f4 e1b hx hwb
      go_upto_region 5 with fail
      go_cut [7] (fun s7 wx => SlI .u64 wx s7 (digs (cP S o (k + 1))) ∧ Below wr.heap.size wr wx)
      case first =>
        go_region_held3 (fun W => W.cell? ⟨w.heap.size, 0, none⟩ = some (.int .i64 S.many) ∧ W.cell? ⟨w.heap.size, 1, none⟩ = some (.slice ae S.edges.length ce) ∧ W.cell? ⟨w.heap.size, 2, none⟩ = some (.slice az S.sizes.length cz))
          (first | exact HKeep.out _ (later_refl _) | exact HKeep.out _ (later_drew _) | exact HKeep.out _ hbC | exact HKeep.out _ hbB | exact HKeep.out _ hbA | assumption)
          (first
            | (go_at_call 72; have hq := hbB; refine (HK.out.2.1 _ _ hbB hvB).mono ?_; rintro e wC ⟨vC, rfl, hvC, hC1⟩; have hbC : Below wr.heap.size wr wC := (later_trans hbB hC1))
            | (go_at_call 73; have hq := hbA; refine (HK.out.2.2.1 _).mono ?_; rintro e wB ⟨vB, rfl, hvB, hB1⟩; have hbB : Below wr.heap.size wr wB := (later_trans hbA hB1))
            | (go_at_call 83; refine (HK.out.1 _ (later_drew _)).mono ?_; rintro e wA ⟨rfl, hA1⟩; have hbA : Below wr.heap.size wr wA := (later_trans (later_drew _) hA1)))
        all_goals (go_wp2_with fail)
        all_goals go_meet
        all_goals exact ⟨hvC, hbC⟩
      case rest =>
        obtain ⟨hp2, hbx⟩ := hcut
        have HP2 := Lib.hid (HK.out.2.2.2.1 _ _ hbx hp2)
        have H3 := Lib.hid (And.intro hp2 (HK.out.2.2.2.2.1.later hbx))
        clear hp2 hbx q0 q1 q2
        go_wp2_with fail
        refine HP2.out.mono ?_
        rintro e w6 ⟨v6, rfl, hv6, hb6⟩
        have H6 := Lib.hid (And.intro hv6 (And.intro (SlI.later H3.out.1 hb6) (H3.out.2.later hb6)))
        clear hv6 hb6
        go_wp2_with fail
        go_roundw
        case rel => first | exact ⟨k + 1, HK.out.2.2.2.2.2, by go_num, H6.out.1, H6.out.2.1, H6.out.2.2⟩ | ((repeat apply Exists.intro); refine ⟨?_, rfl⟩; exact ⟨k + 1, HK.out.2.2.2.2.2, by go_num, H6.out.1, H6.out.2.1, H6.out.2.2⟩)
        case measure => simp [intOf]; have := HK.out.2.2.2.2.2; omega
    · obtain rfl : k = o.length := by omega
      have hN := Number_any _ _ wr hs (digs_dg _)
      rw [dv_digs] at hN
      obtain ⟨nh, nl, nq, hnv⟩ := numV_open (cS S o o.length)
      rw [hnv] at hN
      have HNv := Lib.hid hnv
      have HN := Lib.hid hN
      have HI := Lib.hid hI
      clear hs hp hI hN hnv
      go_wp2_with fail
      refine HN.out.mono ?_
      rintro e w8 ⟨rfl, hb8⟩
      have H8 := Lib.hid (HI.out.later hb8)
      obtain ⟨r0, r1, f0, f1, lr⟩ := two_of H8.out.br
      clear hb8
      go_wp2_with fail
      refine bodyPost_ret (v := .tuple #[.agg #[.int .u64 nh, .int .u64 nl], .bool nq]) (by simp [results, Tryd.results37, go_sem, r0, r1]) rfl ?_
      exact ⟨by rw [HNv.out], below_set (below_set H8.out.bel (by omega)) (by omega)⟩
end
/-! ## XCo3 -/
section
open Go.RowKit Go.Maps
set_option linter.unusedVariables false
set_option linter.unusedSimpArgs false

set_option maxRecDepth 100000 in
set_option maxHeartbeats 2000000 in
theorem leastU_any {F : Nat} {caps : Array Value} {f : Nat → Int} {v m : Int} {ev sv : Value} {es : List (List Int)} {w : World} (hF : Enters F) (he : SlRK .i64 w ev es) (hA : AsksN F caps w es.length .u64 f) :
    Calls Tryd.prog 121 #[shpV m ev sv, .int .i64 v, .func (.func F) #[] caps] w fun e w' => e = .returned (.tuple #[.int .u64 ((leastTo es v f es.length).getD 0), .bool (leastTo es v f es.length).isSome]) ∧ Below w.heap.size w w' := by
  have HE := Lib.hid he
  obtain ⟨a, c, rfl, h1, h2, h3, h4⟩ := he.open
  have HX := Lib.hid h4
  have HA := Lib.hid hA
  have hm : es.length ≤ 9223372036854775807 := by omega
  have hE := hF
  unfold Enters at hE
  clear he h1 h2 h3 h4 hA
  go_enter Tryd.func121, Tryd.ntmps121
  go_wp2
  go_loopw [8, 9, 17] (fun o s i wr => ∃ k : Nat, k ≤ es.length ∧ i = .int .i64 k ∧ o = .int .u64 ((leastTo es v f k).getD 0) ∧ s = .bool (leastTo es v f k).isSome ∧ Below w.heap.size w wr) (fun _ _ i _ => es.length - (intOf i).toNat)
  case atStart => exact ⟨0, Nat.zero_le _, rfl, rfl, rfl, later_alloc _ _⟩
  case round =>
    obtain ⟨k, hk, rfl, rfl, rfl, hb⟩ := hrel
    have HBl := Lib.hid hb
    by_cases hlt : k < es.length
    · obtain ⟨b, o, rfl, hbw, hc⟩ := HX.out (by omega)
      obtain ⟨rv, c0, hrv⟩ := hc k hlt
      have c1 := ((bcell hb).1 b (o + k) hbw).trans c0
      have HC := Lib.hid (Contains_any rv _ v _ (hrv.later hb))
      obtain ⟨ar, cr, rfl, -⟩ := hrv.open
      have HN := Lib.hid (fun W (hb' : Below _ _ W) => HA.out k hlt W (later_trans hb hb'))
      clear hc c0 hrv hb
      by_cases hin : v ∈ rowN es k
      · rw [decide_eq_true hin] at HC
        cases h0 : leastTo es v f k with
        | none =>
          have HR := Lib.hid (leastTo_first hin h0)
          clear h0 hin
          simp only [Option.getD_none, Option.isSome_none]
          obtain ⟨y, hy⟩ : ∃ y, f k = y := ⟨_, rfl⟩
          rw [hy] at HN HR
          clear hy
          go_wp2_with fail
          refine HC.out.mono ?_
          rintro e w1 ⟨rfl, rfl⟩
          go_wp2_with fail
          refine (HN.out _ (Below.refl _ _)).mono ?_
          rintro e w1 ⟨rfl, hb1⟩
          have HB1 := Lib.hid (later_trans HBl.out hb1)
          clear hb1
          go_wp2_with fail
          go_roundw
          case rel => exact ⟨k + 1, by omega, by go_num, by rw [HR.out]; rfl, by rw [HR.out]; rfl, HB1.out⟩
          case measure => simp [intOf]; omega
        | some q =>
          simp only [Option.getD_some, Option.isSome_some]
          by_cases hl : f k < q
          · have HR := Lib.hid (leastTo_less hin h0 hl)
            clear h0 hin
            obtain ⟨y, hy⟩ : ∃ y, f k = y := ⟨_, rfl⟩
            rw [hy] at HN HR hl
            clear hy
            go_wp2_with fail
            refine HC.out.mono ?_
            rintro e w1 ⟨rfl, rfl⟩
            go_wp2_with fail
            refine (HN.out _ (Below.refl _ _)).mono ?_
            rintro e w1 ⟨rfl, hb1⟩
            have HB1 := Lib.hid (later_trans HBl.out hb1)
            clear hb1
            go_wp2_with fail
            go_roundw
            case rel => exact ⟨k + 1, by omega, by go_num, by rw [HR.out]; rfl, by rw [HR.out]; rfl, HB1.out⟩
            case measure => simp [intOf]; omega
          · have HR := Lib.hid (leastTo_more hin h0 hl)
            clear h0 hin
            obtain ⟨y, hy⟩ : ∃ y, f k = y := ⟨_, rfl⟩
            rw [hy] at HN hl
            clear hy
            go_wp2_with fail
            refine HC.out.mono ?_
            rintro e w1 ⟨rfl, rfl⟩
            go_wp2_with fail
            refine (HN.out _ (Below.refl _ _)).mono ?_
            rintro e w1 ⟨rfl, hb1⟩
            have HB1 := Lib.hid (later_trans HBl.out hb1)
            clear hb1
            go_wp2_with fail
            go_roundw
            case rel => exact ⟨k + 1, by omega, by go_num, by rw [HR.out]; rfl, by rw [HR.out]; rfl, HB1.out⟩
            case measure => simp [intOf]; omega
      · rw [decide_eq_false hin] at HC
        have HR := Lib.hid (leastTo_out (f := f) hin)
        clear hin
        generalize leastTo es v f k = r at *
        go_wp2_with fail
        refine HC.out.mono ?_
        rintro e w1 ⟨rfl, rfl⟩
        go_wp2_with fail
        go_roundw
        case rel => exact ⟨k + 1, by omega, by go_num, by rw [HR.out], by rw [HR.out], HBl.out⟩
        case measure => simp [intOf]; omega
    · obtain rfl : k = es.length := by omega
      clear hb
      go_wp2_with fail
      go_ret2
      exact ⟨rfl, HBl.out⟩

set_option maxRecDepth 100000 in
set_option maxHeartbeats 2000000 in
/-- What plan.weight asks of an edge. -/
theorem weight1_any {x y b n i : Nat} {S : Shp} {ev sv : Value} {T : List Int} {w : World} (hx : SB w x S.many ev sv) (hy : w.heap[y]? = some (.cells #[.map (some b)] 69 (0, 0))) (hm : MpI w b n T) (h : ShR w ev sv S) (hok : shpB S = true) (hi : i < S.edges.length) :
    Calls Tryd.prog 122 #[.int .i64 i, .pointer (some ⟨x, 0, none⟩), .pointer (some ⟨y, 0, none⟩)] w fun e w' => e = .returned (.int .u64 (wF S T i)) ∧ Below w.heap.size w w' := by
  have hl := shpB_len hok
  have hz := sizes_le hok (S.sizes[i]'(by omega)) (List.getElem_mem (by omega))
  rw [← getD_at (by omega)] at hz
  obtain ⟨x0, x1, x2, -, -, -, lX⟩ := three_of' hx
  have y0 : w.cell? ⟨y, 0, none⟩ = some (.map (some b)) := by simpa using box_cell (i := 0) hy
  have hwF : wF S T i = if meetsB T (rowN S.edges i) = true then 1 + (lg (1 + S.sizes.getD i 0) : Int) else S.sizes.getD i 0 := rfl
  obtain ⟨m, ls, zs⟩ := S
  have he := h.edges
  have hs := h.sizes
  simp only at he hs hl hz x0 hwF hi ⊢
  rw [hwF]
  obtain ⟨_, ce, rfl, _, _, _, g4⟩ := he.open
  obtain ⟨be, oe, rfl, hbe, gc⟩ := g4 (by exact Nat.lt_of_le_of_lt (Nat.zero_le _) hi)
  obtain ⟨rv, c1, hrv⟩ := gc i hi
  have hiz : i < zs.length := by omega
  obtain ⟨_, cz, rfl, _, _, _, f4⟩ := hs.open
  obtain ⟨bz, oz, rfl, hbz, fc⟩ := f4 (by omega)
  have c2 := fc i hiz
  rw [← getD_at hiz] at c2
  have hMt : ∀ W, Below w.heap.size w W → Calls Tryd.prog 104 #[rv, .map (some b)] W fun e w' => e = .returned (.bool (meetsB T (rowN ls i))) ∧ Below W.heap.size W w' := fun W hb => meets_any rv _ b n T W (hrv.later hb) (hm.later hb)
  obtain ⟨ar, cr, rfl, -⟩ := hrv.open
  obtain ⟨z, hz0⟩ : ∃ z, zs.getD i 0 = z := ⟨_, rfl⟩
  obtain ⟨q, hq⟩ : ∃ q, meetsB T (rowN ls i) = q := ⟨_, rfl⟩
  have hlgb := lg_le (1 + z) (by omega)
  have hLog := fun W => log_any (1 + z) (by omega) (by omega) W
  obtain ⟨lm, hlm⟩ : ∃ lm : Nat, lg (1 + z) = lm := ⟨_, rfl⟩
  rw [hz0] at c2 hz ⊢
  rw [hq] at hMt ⊢
  rw [hlm] at hlgb hLog ⊢
  have hw1 : IntKind.i64.wrap (1 + z) = 1 + z := wrap_i64 (by omega) (by omega)
  have hw2 : IntKind.i64.wrap (1 + (lm : Int)) = 1 + lm := wrap_i64 (by omega) (by omega)
  have hw3 : IntKind.u64.wrap (1 + (lm : Int)) = 1 + lm := wrap_u64 (by omega) (by omega)
  have hw4 : IntKind.u64.wrap z = z := wrap_u64 (by omega) (by omega)
  obtain ⟨ln, hln⟩ : ∃ ln, (rowN ls i).length = ln := ⟨_, rfl⟩
  rw [hln] at c1 hMt
  have hieI : (i : Int) < ls.length := by omega
  have hizI : (i : Int) < zs.length := by omega
  have HK := Lib.hid (And.intro hMt hLog)
  have HKeep : Hid (∀ W, Below w.heap.size w W → W.cell? ⟨x, 0, none⟩ = some (.int .i64 m) ∧ W.cell? ⟨x, 1, none⟩ = some (.slice (some ⟨be, oe, none⟩) ls.length ce) ∧ W.cell? ⟨x, 2, none⟩ = some (.slice (some ⟨bz, oz, none⟩) zs.length cz) ∧ W.cell? ⟨y, 0, none⟩ = some (.map (some b)) ∧ W.cell? ⟨be, oe + i, none⟩ = some (.slice ar ln cr) ∧ W.cell? ⟨bz, oz + i, none⟩ = some (.int .i64 z)) := Lib.hid (fun W hb => ⟨cell_next hb x0, cell_next hb x1, cell_next hb x2, cell_next hb y0, ((bcell hb).1 be _ hbe).trans c1, ((bcell hb).1 bz _ hbz).trans c2⟩)
  clear hx hy hm h hok hl hwF he hs g4 gc hrv f4 fc hMt hLog hlm hz0 hq hln hlgb hz hbe hbz
  go_enter Tryd.func122, Tryd.ntmps122
  go_upto_region 1 with fail
  go_cut [12] (fun s12 wx => s12 = .bool q ∧ Below w.heap.size w wx)
  case first =>
    go_region_held3 (fun W => W.cell? ⟨x, 0, none⟩ = some (.int .i64 m) ∧ W.cell? ⟨x, 1, none⟩ = some (.slice (some ⟨be, oe, none⟩) ls.length ce) ∧ W.cell? ⟨x, 2, none⟩ = some (.slice (some ⟨bz, oz, none⟩) zs.length cz) ∧ W.cell? ⟨y, 0, none⟩ = some (.map (some b)) ∧ W.cell? ⟨be, oe + i, none⟩ = some (.slice ar ln cr) ∧ W.cell? ⟨bz, oz + i, none⟩ = some (.int .i64 z))
      (first | exact HKeep.out _ (later_refl _) | exact HKeep.out _ (later_drew _) | exact HKeep.out _ hbA | assumption)
      (first
        | (go_at_call 104; refine (HK.out.1 _ (later_drew _)).mono ?_; rintro e wA ⟨rfl, hA1⟩; have hbA : Below w.heap.size w wA := (later_trans (later_drew _) hA1)))
    all_goals (go_wp2_with fail)
    all_goals go_meet
    all_goals exact ⟨rfl, hbA⟩
  case rest =>
    obtain ⟨rfl, hbx⟩ := hcut
    obtain ⟨x0, x1, x2, y0, c1, c2⟩ := HKeep.out _ hbx
    have HB := Lib.hid hbx
    clear hbx
    cases q with
    | true =>
      go_wp2_with fail
      refine (HK.out.2 _).mono ?_
      rintro e w2 ⟨rfl, rfl⟩
      go_wp2_with fail
      go_ret
      exact ⟨rfl, HB.out⟩
    | false =>
      go_wp2_with fail
      go_ret
      exact ⟨rfl, HB.out⟩

set_option maxRecDepth 100000 in
set_option maxHeartbeats 2000000 in
/-- plan.weight. -/
theorem weight_any (S : Shp) (ev sv : Value) (v : Int) (b n : Nat) (T : List Int) (w : World) (h : ShR w ev sv S) (hok : shpB S = true) (hm : MpI w b n T) :
    Calls Tryd.prog 113 #[shpV S.many ev sv, .int .i64 v, .map (some b)] w fun e w' => e = .returned (.int .u64 (weightN S v T)) ∧ Below w.heap.size w w' := by
  have hE : Enters 122 := enters_of Tryd.func122 (by kernel_rfl) rfl
  obtain ⟨w0, hw0⟩ : ∃ w0, (w.alloc (.cells #[.int .i64 S.many, ev, sv] 27)).alloc (.cells #[.map (some b)] 69) = w0 := ⟨_, rfl⟩
  have hb0 : Below w.heap.size w w0 := by rw [← hw0]; exact later_trans (later_alloc _ _) (later_alloc _ _)
  have hx : SB w0 w.heap.size S.many ev sv := by rw [← hw0]; exact box_alloc (box_new w _ _) _
  have hy : w0.heap[w.heap.size + 1]? = some (.cells #[.map (some b)] 69 (0, 0)) := by
    rw [← hw0]
    have h1 := box_new (w.alloc (.cells #[.int .i64 S.many, ev, sv] 27)) #[.map (some b)] 69
    rw [World.size_alloc] at h1; exact h1
  have hL := leastU_any (m := S.many) (sv := sv) (v := v) (caps := #[.pointer (some ⟨w.heap.size, 0, none⟩), .pointer (some ⟨w.heap.size + 1, 0, none⟩)]) (f := wF S T) (w := w0) hE (h.edges.later hb0) fun i hi W hb => weight1_any (kept hb hx) (kept hb hy) ((hm.later hb0).later hb) ((h.later hb0).later hb) hok hi
  have hwn : weightN S v T = (leastTo S.edges v (wF S T) S.edges.length).getD 1 := rfl
  obtain ⟨q, hq⟩ : ∃ q, leastTo S.edges v (wF S T) S.edges.length = q := ⟨_, rfl⟩
  rw [hq] at hL hwn
  rw [hwn]
  have HL := Lib.hid (And.intro hL hb0)
  obtain ⟨m, ls, zs⟩ := S
  obtain ⟨ae, ce, rfl, -⟩ := h.edges.open
  obtain ⟨az, cz, rfl, -⟩ := h.sizes.open
  clear h hok hm hE hb0 hx hy hL hwn hq
  subst hw0
  simp only at HL ⊢
  cases q with
  | none =>
    simp only [Option.getD_none, Option.isSome_none] at HL ⊢
    go_enter Tryd.func113, Tryd.ntmps113
    go_wp2_with fail
    refine HL.out.1.mono ?_
    rintro e w1 ⟨rfl, hb1⟩
    have HB := Lib.hid (later_trans HL.out.2 hb1)
    clear hb1
    go_wp2_with fail
    go_ret
    exact ⟨rfl, HB.out⟩
  | some q =>
    simp only [Option.getD_some, Option.isSome_some] at HL ⊢
    go_enter Tryd.func113, Tryd.ntmps113
    go_wp2_with fail
    refine HL.out.1.mono ?_
    rintro e w1 ⟨rfl, hb1⟩
    have HB := Lib.hid (later_trans HL.out.2 hb1)
    clear hb1
    go_wp2_with fail
    go_ret
    exact ⟨rfl, HB.out⟩
end
/-! ## XCo4 -/
section
open Go.RowKit Go.Maps
set_option linter.unusedVariables false
set_option linter.unusedSimpArgs false

theorem cS_mono (S : Shp) (o : List Int) (k : Nat) : ∀ d, cS S o k ≤ cS S o (k + d)
  | 0 => Nat.le_refl _
  | d + 1 => by
    have h1 := cS_mono S o k d
    show _ ≤ cS S o (k + d) + cP S o (k + d + 1)
    omega
theorem cS_over {S : Shp} {o : List Int} {k n : Nat} (hk : k ≤ n) (h : ¬ cS S o k < 340282366920938463463374607431768211456) : wres (cS S o n) = .tuple #[.agg #[.int .u64 0, .int .u64 0], .int .i64 110] := by
  have h1 := cS_mono S o k (n - k)
  rw [show k + (n - k) = n from by omega] at h1
  unfold wres
  rw [if_neg (by omega)]; rfl

/-- What the loop of cost keeps. -/
structure CsW (w : World) (m : Int) (ev sv : Value) (B : Nat) (T : List Int) (s p : Nat) (W : World) : Prop where
  bel : Below w.heap.size w W
  bs : SB W w.heap.size m ev sv
  br : W.heap[w.heap.size + 1]? = some (.cells #[.int .u64 0, .int .u64 0] 35 (0, 0))
  mp : MpI W (w.heap.size + 1 + 1) T.length T
  su : WB W B s
  pr : WB W (B + 1) p
  far : w.heap.size + 3 ≤ B
theorem CsW.later {w W W' : World} {m : Int} {ev sv : Value} {B : Nat} {T : List Int} {s p : Nat} (h : CsW w m ev sv B T s p W) (hb : Below W.heap.size W W') : CsW w m ev sv B T s p W' :=
  ⟨later_trans h.bel hb, kept hb h.bs, kept hb h.br, h.mp.later hb, h.su.later hb, h.pr.later hb, h.far⟩

theorem wide_set {w : World} {X a q : Nat} (h : WB w X a) : WB ((w.setCell ⟨X, 0, none⟩ (.int .u64 ((q / 18446744073709551616 : Nat) : Int))).setCell ⟨X, 1, none⟩ (.int .u64 ((q % 18446744073709551616 : Nat) : Int))) X q := by
  have := box_set (i := 1) (box_set (i := 0) h (.int .u64 ((q / 18446744073709551616 : Nat) : Int))) (.int .u64 ((q % 18446744073709551616 : Nat) : Int))
  unfold WB
  simpa using this
theorem MpI.set {w : World} {b n X : Nat} {l : List Int} (h : MpI w b n l) (hX : b ≠ X) (i : Nat) (v : Value) : MpI (w.setCell ⟨X, i, none⟩ v) b n l := by
  obtain ⟨D, h1, h2⟩ := h
  refine ⟨D, ?_, h2⟩
  obtain ⟨es, clock, hh, r⟩ := h1
  exact ⟨es, clock, (heap_setCell_other w _ b v hX).trans hh, r⟩
section
variable {w W : World} {m : Int} {ev sv : Value} {B : Nat} {T : List Int} {s p q : Nat}
theorem CsW.setP (h : CsW w m ev sv B T s p W) : CsW w m ev sv B T s q ((W.setCell ⟨B + 1, 0, none⟩ (.int .u64 ((q / 18446744073709551616 : Nat) : Int))).setCell ⟨B + 1, 1, none⟩ (.int .u64 ((q % 18446744073709551616 : Nat) : Int))) := by
  have hf := h.far
  exact ⟨below_set (below_set h.bel (by omega)) (by omega), box_other (box_other h.bs (by omega) _) (by omega) _, box_other (box_other h.br (by omega) _) (by omega) _, (h.mp.set (by omega) _ _).set (by omega) _ _, box_other (box_other h.su (by omega) _) (by omega) _, wide_set h.pr, hf⟩
theorem CsW.setS (h : CsW w m ev sv B T s p W) : CsW w m ev sv B T q p ((W.setCell ⟨B, 0, none⟩ (.int .u64 ((q / 18446744073709551616 : Nat) : Int))).setCell ⟨B, 1, none⟩ (.int .u64 ((q % 18446744073709551616 : Nat) : Int))) := by
  have hf := h.far
  exact ⟨below_set (below_set h.bel (by omega)) (by omega), box_other (box_other h.bs (by omega) _) (by omega) _, box_other (box_other h.br (by omega) _) (by omega) _, (h.mp.set (by omega) _ _).set (by omega) _ _, wide_set h.su, box_other (box_other h.pr (by omega) _) (by omega) _, hf⟩
theorem CsW.grown {W' : World} {x : Int} (h : CsW w m ev sv B T s p W) (hm : MpI W' (w.heap.size + 1 + 1) (T.length + 1) (T ++ [x])) (hg : W.grownBy W' (some (w.heap.size + 1 + 1))) : CsW w m ev sv B (T ++ [x]) s p W' := by
  have hf := h.far
  refine ⟨h.bel.grown hg h.bel.size (fun k e => by cases e; omega), (hg.block _ (lt_of_block h.bs) (by first | (simp; done) | (simp; omega))).trans h.bs, (hg.block _ (lt_of_block h.br) (by first | (simp; done) | (simp; omega))).trans h.br, by rw [List.length_append]; exact hm, (hg.block _ (lt_of_block h.su) (by first | (simp; done) | (simp; omega))).trans h.su, (hg.block _ (lt_of_block h.pr) (by first | (simp; done) | (simp; omega))).trans h.pr, hf⟩
end

set_option maxRecDepth 100000 in
set_option maxHeartbeats 4000000 in
theorem cost_any (S : Shp) (ev sv ov : Value) (o : List Int) (w : World) (h : ShR w ev sv S) (ho : SlI .i64 w ov o) (hok : shpB S = true) :
    Calls Tryd.prog 82 #[shpV S.many ev sv, ov] w fun e w' => e = .returned (wres (cS S o o.length)) ∧ Below w.heap.size w w' := by
  have hmm := @run_makeMap Tryd.prog
  have hol := ho.len
  unfold maxLen at hol
  have hW := fun v T b n W (hb : Below w.heap.size w W) (hm : MpI W b n T) => weight_any S ev sv v b n T W (h.later hb) hok hm
  have hwb := fun v T => weight_bound hok v T
  have hO0 := fun W => Of_any 0 (by decide) W
  rw [show wv 0 = .agg #[.int .u64 0, .int .u64 0] from rfl] at hO0
  have hO1 := fun W => Of_any 1 (by decide) W
  rw [show wv 1 = .agg #[.int .u64 0, .int .u64 1] from rfl] at hO1
  have HC := Lib.hid (And.intro hW (And.intro hwb (And.intro hO0 hO1)))
  have HO := Lib.hid ho
  obtain ⟨ae, ce, rfl, -⟩ := h.edges.open
  obtain ⟨az, cz, rfl, -⟩ := h.sizes.open
  obtain ⟨ao, co, rfl, hoc, hoc2, -⟩ := ho.open
  clear h ho hok hW hwb hO0 hO1
  go_enter Tryd.func82, Tryd.ntmps82
  go_wp2_with fail
  refine (HC.out.2.2.1 _).mono ?_
  rintro e w1 ⟨rfl, hb1⟩
  have HB1 := Lib.hid hb1
  clear hb1
  go_wp2_with fail
  refine (HC.out.2.2.2 _).mono ?_
  rintro e w2 ⟨rfl, hb2⟩
  have HB2 := Lib.hid (later_trans HB1.out hb2)
  clear hb2
  go_wp2_with fail
  have h0 : CsW w S.many (.slice ae S.edges.length ce) (.slice az S.sizes.length cz) w2.heap.size [] 0 1 ((w2.alloc (.cells #[.int .u64 0, .int .u64 0] 35)).alloc (.cells #[.int .u64 0, .int .u64 1] 35)) := by
    obtain ⟨wm, hwm⟩ : ∃ wm, ((w.alloc (.cells #[.int .i64 S.many, .slice ae S.edges.length ce, .slice az S.sizes.length cz] 27)).alloc (.cells #[.int .u64 0, .int .u64 0] 35)).alloc (.map #[] 0) = wm := ⟨_, rfl⟩
    have hb := HB2.out
    rw [hwm] at hb
    have hb3 := later_trans hb (later_trans (later_alloc w2 (.cells #[.int .u64 0, .int .u64 0] 35)) (later_alloc _ (.cells #[.int .u64 0, .int .u64 1] 35)))
    have e0 : Below w.heap.size w wm := by rw [← hwm]; exact later_trans (later_trans (later_alloc _ _) (later_alloc _ _)) (later_alloc _ _)
    have e1 : SB wm w.heap.size S.many (.slice ae S.edges.length ce) (.slice az S.sizes.length cz) := by rw [← hwm]; exact box_alloc (box_alloc (box_new w _ _) _) _
    have e2 : wm.heap[w.heap.size + 1]? = some (.cells #[.int .u64 0, .int .u64 0] 35 (0, 0)) := by
      rw [← hwm]
      have hh := box_new (w.alloc (.cells #[.int .i64 S.many, .slice ae S.edges.length ce, .slice az S.sizes.length cz] 27)) #[.int .u64 0, .int .u64 0] 35
      rw [World.size_alloc] at hh
      exact box_alloc hh _
    have e3 : MpI wm (w.heap.size + 1 + 1) 0 [] := by
      rw [← hwm]
      have hh := MpI.made ((w.alloc (.cells #[.int .i64 S.many, .slice ae S.edges.length ce, .slice az S.sizes.length cz] 27)).alloc (.cells #[.int .u64 0, .int .u64 0] 35))
      rw [World.size_alloc, World.size_alloc] at hh
      exact hh
    have hs := hb.size
    have hs2 : wm.heap.size = w.heap.size + 3 := by rw [← hwm]; simp
    refine ⟨later_trans e0 hb3, kept hb3 e1, kept hb3 e2, e3.later hb3, box_alloc (box_new w2 _ _) _, ?_, by omega⟩
    have hh := box_new (w2.alloc (.cells #[.int .u64 0, .int .u64 0] 35)) #[.int .u64 0, .int .u64 1] 35
    rw [World.size_alloc] at hh
    exact hh
  have H0 := Lib.hid h0
  clear h0 HB1 HB2
  obtain ⟨B, hB⟩ : ∃ B, w2.heap.size = B := ⟨_, rfl⟩
  rw [hB] at H0 ⊢
  clear hB
  go_loopw [17] (fun i wr => ∃ k : Nat, k ≤ o.length ∧ i = .int .i64 k ∧ cS S o k < 340282366920938463463374607431768211456 ∧ cP S o k < 340282366920938463463374607431768211456 ∧ CsW w S.many (.slice ae S.edges.length ce) (.slice az S.sizes.length cz) B (o.take k) (cS S o k) (cP S o k) wr) (fun i _ => o.length - (intOf i).toNat)
  case atStart => exact ⟨0, Nat.zero_le _, rfl, by show 0 < _; decide, by show 1 < _; decide, H0.out⟩
  case round =>
    obtain ⟨k, hk, rfl, hs, hp, hI⟩ := hrel
    by_cases hlt : k < o.length
    · obtain ⟨_, _, e1, _, _, _, f4⟩ := (SlI.later HO.out hI.bel).open
      obtain ⟨b, of', e2, _, fc⟩ := f4 (by omega)
      injection e1 with e1a e1b e1c
      subst e1a e1c
      subst e2
      have c1 := fc k hlt
      rw [← getD_at hlt] at c1
      have hwf : (Lit.int .i64 (o.getD k 0)).wf = true := HO.out.2 _ (by rw [getD_at hlt]; exact List.getElem_mem hlt)
      have hps : cP S o (k + 1) = cP S o k * (weightN S (o.getD k 0) (o.take k)).toNat := rfl
      have hss : cS S o (k + 1) = cS S o k + cP S o (k + 1) := rfl
      obtain ⟨x, hx⟩ : ∃ x, o.getD k 0 = x := ⟨_, rfl⟩
      rw [hx] at c1 hwf hps
      have hov := fun h => cS_over (S := S) (o := o) (k := k + 1) (n := o.length) hlt h
      have hWt := fun W (hb : Below wr.heap.size wr W) => HC.out.1 x (o.take k) _ _ W (later_trans hI.bel hb) (hI.mp.later hb)
      have hwb := HC.out.2.1 x (o.take k)
      obtain ⟨u, hu⟩ : ∃ u, weightN S x (o.take k) = u := ⟨_, rfl⟩
      rw [hu] at hps hwb
      simp only [hu] at hWt
      obtain ⟨un, rfl⟩ : ∃ un : Nat, u = un := ⟨u.toNat, by omega⟩
      rw [Int.toNat_natCast] at hps
      have hOf := fun W => Of_any un (by omega) W
      obtain ⟨t, ht⟩ : ∃ t, cS S o k = t := ⟨_, rfl⟩
      obtain ⟨p, hpp⟩ : ∃ p, cP S o k = p := ⟨_, rfl⟩
      rw [ht] at hs hss hI
      rw [hpp] at hp hps hI
      obtain ⟨q0, q1, q2, -, -, -, lS⟩ := three_of' hI.bs
      have hpr := hI.pr
      unfold WB at hpr
      obtain ⟨ph, hph⟩ : ∃ ph, p / 18446744073709551616 = ph := ⟨_, rfl⟩
      obtain ⟨pl, hpl⟩ : ∃ pl, p % 18446744073709551616 = pl := ⟨_, rfl⟩
      rw [hph, hpl] at hpr
      obtain ⟨p0, p1, -, -, lP⟩ := two_of hpr
      have hMul := fun W => Mul_any p un hp (by omega) W
      rw [← hps] at hMul
      obtain ⟨oh, ol, hwv, -⟩ := wv_open un (by omega)
      rw [hwv] at hOf hMul
      have hwp : wv p = .agg #[.int .u64 (ph : Int), .int .u64 (pl : Int)] := by unfold wv; rw [hph, hpl]
      rw [hwp] at hMul
      obtain ⟨p', hp'⟩ : ∃ p', cP S o (k + 1) = p' := ⟨_, rfl⟩
      rw [hp'] at hMul hss
      obtain ⟨rh, rl, re, hre⟩ := wres_open p'
      rw [hre] at hMul
      have HK := Lib.hid (And.intro hWt (And.intro hOf (And.intro hMul (And.intro hre (And.intro hov (And.intro hI (And.intro hss (And.intro hwf (And.intro hx (And.intro hp' hlt))))))))))
      have HKeep : Hid (∀ W, Below wr.heap.size wr W → (W.cell? ⟨w.heap.size, 0, none⟩ = some (.int .i64 S.many) ∧ W.cell? ⟨w.heap.size, 1, none⟩ = some (.slice ae S.edges.length ce) ∧ W.cell? ⟨w.heap.size, 2, none⟩ = some (.slice az S.sizes.length cz)) ∧ W.cell? ⟨B + 1, 0, none⟩ = some (.int .u64 ph) ∧ W.cell? ⟨B + 1, 1, none⟩ = some (.int .u64 pl)) := Lib.hid (fun W hb => ⟨⟨cell_next hb q0, cell_next hb q1, cell_next hb q2⟩, cell_next hb p0, cell_next hb p1⟩)
      have HPr := Lib.hid hpr
      have HT := Lib.hid hs
      clear hWt hOf hMul hre hov hI hss hps hwf hx hp' hpr hph hpl hwv hwp hu ht hpp fc f4 e1b hwb hs hp
      go_upto_region 7 with fail
      go_cut [11] (fun s11 wx => s11 = .int .i64 re ∧ ∃ W, Below wr.heap.size wr W ∧ wx = (W.setCell ⟨B + 1, 0, none⟩ (.int .u64 rh)).setCell ⟨B + 1, 1, none⟩ (.int .u64 rl))
      case first =>
        go_region_law (first
          | (go_simp; go_at_call 34; refine (HK.out.2.2.1 _).mono ?_; rintro e wC ⟨rfl, hC1⟩; have hbC : Below wr.heap.size wr wC := (later_trans hbB hC1); obtain ⟨n0, n1, f0, f1, ln⟩ := two_of (kept hbC HPr.out))
          | (go_simp; go_at_call 32; refine (HK.out.2.1 _).mono ?_; rintro e wB ⟨rfl, hB1⟩; have hbB : Below wr.heap.size wr wB := (later_trans hbA hB1); obtain ⟨⟨a0, a1, a2⟩, a3, a4⟩ := HKeep.out _ hbB)
          | (go_simp; go_at_call 113; refine (HK.out.1 _ (later_drew _)).mono ?_; rintro e wA ⟨rfl, hA1⟩; have hbA : Below wr.heap.size wr wA := (later_trans (later_drew _) hA1); obtain ⟨⟨a0, a1, a2⟩, a3, a4⟩ := HKeep.out _ hbA))
        all_goals (go_wp2_with fail)
        all_goals go_meet
        all_goals exact ⟨rfl, wC, hbC, rfl⟩
      case rest =>
        obtain ⟨rfl, W, hbW, hwx⟩ := hcut
        have hIW := HK.out.2.2.2.2.2.1.later hbW
        by_cases hov : p' < 340282366920938463463374607431768211456
        · have hre := HK.out.2.2.2.1
          unfold wres at hre
          rw [if_pos hov] at hre
          unfold wv at hre
          simp only [Value.tuple.injEq, Array.mk.injEq, List.cons.injEq, Value.agg.injEq, Value.int.injEq, true_and, and_true] at hre
          obtain ⟨⟨hrh, hrl⟩, rfl⟩ := hre
          have hI2 : CsW w S.many (.slice ae S.edges.length ce) (.slice az S.sizes.length cz) B (o.take k) t p' wc := by
            rw [hwx, ← hrh, ← hrl]; exact hIW.setP
          have hAdd := fun W => Add_any t p' (by have := HT.out; omega) hov W
          obtain ⟨th, hth⟩ : ∃ th, t / 18446744073709551616 = th := ⟨_, rfl⟩
          obtain ⟨tl, htl⟩ : ∃ tl, t % 18446744073709551616 = tl := ⟨_, rfl⟩
          obtain ⟨xh, hxh⟩ : ∃ xh, p' / 18446744073709551616 = xh := ⟨_, rfl⟩
          obtain ⟨xl, hxl⟩ : ∃ xl, p' % 18446744073709551616 = xl := ⟨_, rfl⟩
          have hbs := hI2.su
          have hbp := hI2.pr
          unfold WB at hbs hbp
          rw [hth, htl] at hbs
          rw [hxh, hxl] at hbp
          obtain ⟨s0, s1, fs0, fs1, lS⟩ := two_of hbs
          obtain ⟨x0, x1, fx0, fx1, lX⟩ := two_of hbp
          have et : wv t = .agg #[.int .u64 (th : Int), .int .u64 (tl : Int)] := by unfold wv; rw [hth, htl]
          have ep : wv p' = .agg #[.int .u64 (xh : Int), .int .u64 (xl : Int)] := by unfold wv; rw [hxh, hxl]
          rw [et, ep, ← HK.out.2.2.2.2.2.2.1] at hAdd
          obtain ⟨t', ht'⟩ : ∃ t', cS S o (k + 1) = t' := ⟨_, rfl⟩
          rw [ht'] at hAdd
          obtain ⟨yh, yl, ye, hye⟩ := wres_open t'
          rw [hye] at hAdd
          have HA := Lib.hid (And.intro hAdd (And.intro hI2 (And.intro hye (And.intro ht' hov))))
          clear hAdd hI2 hye ht' hov hth htl hxh hxl et ep hbs hbp hrh hrl hIW hbW hwx q0 q1 q2 p0 p1
          go_wp2_with fail
          refine (HA.out.1 _).mono ?_
          rintro e w8 ⟨rfl, hb8⟩
          have hI8 := HA.out.2.1.later hb8
          obtain ⟨s0, s1, fs0, fs1, lS⟩ := two_of hI8.su
          obtain ⟨r0, r1, f0, f1, lr⟩ := two_of hI8.br
          have HI8 := Lib.hid hI8
          clear hb8 hI8 x0 x1 fx0 fx1 lX
          by_cases hov : t' < 340282366920938463463374607431768211456
          · have hye := HA.out.2.2.1
            unfold wres at hye
            rw [if_pos hov] at hye
            unfold wv at hye
            simp only [Value.tuple.injEq, Array.mk.injEq, List.cons.injEq, Value.agg.injEq, Value.int.injEq, true_and, and_true] at hye
            obtain ⟨⟨hyh, hyl⟩, rfl⟩ := hye
            have hI9 := HI8.out.setS (q := t')
            rw [hyh, hyl] at hI9
            obtain ⟨w9, hw9⟩ : ∃ w9, (w8.setCell ⟨B, 0, none⟩ (.int .u64 yh)).setCell ⟨B, 1, none⟩ (.int .u64 yl) = w9 := ⟨_, rfl⟩
            rw [hw9] at hI9
            have HW9 := Lib.hid hw9
            have HI9 := Lib.hid (And.intro hI9 hov)
            have hwf := HK.out.2.2.2.2.2.2.2.1
            have hkm : (o.take k).length < maxLen := by rw [List.length_take]; unfold maxLen; omega
            obtain ⟨D, hD1, hD2⟩ := hI9.mp
            clear hyh hyl hI9 hov hw9
            go_wp2_with (at_mapUpdate; (try rw [HW9.out]); refine wpList_mapUpdate_own _ rfl _ _ _ 69 rfl 3 3 lawI Tryd.underlying69 _ (w.heap.size + 1 + 1) (o.take k).length D rfl hD1 hkm _ _ _ rfl rfl (keyOf_int_mk Tryd.underlying3 hwf) _ [] (plainElem_int Tryd.underlying3 (by decide)) ?_; intro w1 hown1 hgrow1)
            have hm1 := MpI.put hD2 hwf hD1 hown1
            have HM1 := Lib.hid (HI9.out.1.grown hm1 hgrow1)
            clear hD2 hm1 hgrow1 hown1
            go_roundw
            case rel =>
              refine ⟨k + 1, HK.out.2.2.2.2.2.2.2.2.2.2, by go_num, by rw [HA.out.2.2.2.1]; exact HI9.out.2, by rw [HK.out.2.2.2.2.2.2.2.2.2.1]; exact HA.out.2.2.2.2, ?_⟩
              have hlt := HK.out.2.2.2.2.2.2.2.2.2.2
              rw [List.take_succ_eq_append_getElem hlt, ← getD_at hlt, HK.out.2.2.2.2.2.2.2.2.1, HA.out.2.2.2.1, HK.out.2.2.2.2.2.2.2.2.2.1]
              exact HM1.out
            case measure => simp [intOf]; have := HK.out.2.2.2.2.2.2.2.2.2.2; omega
          · have hye := HA.out.2.2.1
            unfold wres at hye
            rw [if_neg hov, show wv 0 = .agg #[.int .u64 0, .int .u64 0] from rfl] at hye
            simp only [Value.tuple.injEq, Array.mk.injEq, List.cons.injEq, Value.agg.injEq, Value.int.injEq, true_and, and_true] at hye
            obtain ⟨⟨hyh, hyl⟩, rfl⟩ := hye
            have HE := Lib.hid (HK.out.2.2.2.2.1 (by rw [HA.out.2.2.2.1]; exact hov))
            clear hyh hyl hov
            have hne : B ≠ w.heap.size + 1 := by have := HI8.out.far; omega
            go_wp2_with fail
            refine bodyPost_ret (v := .tuple #[.agg #[.int .u64 0, .int .u64 0], .int .i64 110]) (by simp [results, Tryd.results82, go_sem, r0, r1, lr, hne]) rfl ?_
            exact ⟨by rw [HE.out], below_set (below_set (below_set (below_set HI8.out.bel (by have := HI8.out.far; omega)) (by have := HI8.out.far; omega)) (by omega)) (by omega)⟩
        · have hre := HK.out.2.2.2.1
          unfold wres at hre
          rw [if_neg hov, show wv 0 = .agg #[.int .u64 0, .int .u64 0] from rfl] at hre
          simp only [Value.tuple.injEq, Array.mk.injEq, List.cons.injEq, Value.agg.injEq, Value.int.injEq, true_and, and_true] at hre
          obtain ⟨⟨hrh, hrl⟩, rfl⟩ := hre
          have HE := Lib.hid (HK.out.2.2.2.2.1 (by rw [HK.out.2.2.2.2.2.2.1]; omega))
          have hI2 : CsW w S.many (.slice ae S.edges.length ce) (.slice az S.sizes.length cz) B (o.take k) t 0 wc := by
            rw [hwx, ← hrh, ← hrl]; exact hIW.setP
          obtain ⟨r0, r1, f0, f1, lr⟩ := two_of hI2.br
          have HI2 := Lib.hid hI2.bel
          clear hrh hrl hov hI2 hIW hbW hwx q0 q1 q2 p0 p1
          go_wp2_with fail
          refine bodyPost_ret (v := .tuple #[.agg #[.int .u64 0, .int .u64 0], .int .i64 110]) (by simp [results, Tryd.results82, go_sem, r0, r1, lr]) rfl ?_
          exact ⟨by rw [HE.out], below_set (below_set HI2.out (by omega)) (by omega)⟩
    · obtain rfl : k = o.length := by omega
      have hV : wres (cS S o o.length) = .tuple #[wv (cS S o o.length), .int .i64 0] := by unfold wres; rw [if_pos hs]
      obtain ⟨t, ht⟩ : ∃ t, cS S o o.length = t := ⟨_, rfl⟩
      rw [ht] at hI
      rw [ht] at hV
      have hbs := hI.su
      unfold WB at hbs
      unfold wv at hV
      obtain ⟨th, hth⟩ : ∃ th, t / 18446744073709551616 = th := ⟨_, rfl⟩
      obtain ⟨tl, htl⟩ : ∃ tl, t % 18446744073709551616 = tl := ⟨_, rfl⟩
      rw [hth, htl] at hbs hV
      have HV := Lib.hid (And.intro ht hV)
      obtain ⟨s0, s1, -, -, lS⟩ := two_of hbs
      obtain ⟨r0, r1, f0, f1, lr⟩ := two_of hI.br
      have HI := Lib.hid hI.bel
      clear hV ht hth htl hs hp hI hbs
      go_wp2_with fail
      refine bodyPost_ret (v := .tuple #[.agg #[.int .u64 (th : Int), .int .u64 (tl : Int)], .int .i64 0]) (by simp [results, Tryd.results82, go_sem, r0, r1, lr]) rfl ?_
      exact ⟨by rw [HV.out.1, HV.out.2], below_set (below_set HI.out (by omega)) (by omega)⟩
end
/-! ## XCo5 -/
section
open Go.RowKit Go.Maps
set_option linter.unusedVariables false
set_option linter.unusedSimpArgs false

/-- What Cost answers. -/
def costV (S : Shp) (o : List Int) : Value := if shpB S = true then (if ordersB S.many o = true then wres (cS S o o.length) else .tuple #[.agg #[.int .u64 0, .int .u64 0], .int .i64 2]) else .tuple #[.agg #[.int .u64 0, .int .u64 0], .int .i64 320]
set_option maxRecDepth 100000 in
set_option maxHeartbeats 2000000 in
theorem Cost_any (S : Shp) (ev sv ov : Value) (o : List Int) (w : World) (h : ShR w ev sv S) (ho : SlI .i64 w ov o) :
    Calls Tryd.prog 36 #[shpV S.many ev sv, ov] w fun e w' => e = .returned (costV S o) ∧ Below w.heap.size w w' := by
  obtain ⟨w0, hw0⟩ : ∃ w0, (w.alloc (.cells #[.int .i64 S.many, ev, sv] 27)).alloc (.cells #[.int .u64 0, .int .u64 0] 35) = w0 := ⟨_, rfl⟩
  have hb0 : Below w.heap.size w w0 := by rw [← hw0]; exact later_trans (later_alloc _ _) (later_alloc _ _)
  have hx : SB w0 w.heap.size S.many ev sv := by rw [← hw0]; exact box_alloc (box_new w _ _) _
  have hr : w0.heap[w.heap.size + 1]? = some (.cells #[.int .u64 0, .int .u64 0] 35 (0, 0)) := by
    rw [← hw0]
    have h1 := box_new (w.alloc (.cells #[.int .i64 S.many, ev, sv] 27)) #[.int .u64 0, .int .u64 0] 35
    rw [World.size_alloc] at h1; exact h1
  have hC := Check_any S ev sv w0 (h.later hb0)
  have hO := fun W (hb : Below w0.heap.size w0 W) => orders_any S.many ev sv ov o W (by obtain ⟨a, c, e, -⟩ := h.edges.open; exact ⟨_, _, _, e⟩) (by obtain ⟨a, c, e, -⟩ := h.sizes.open; exact ⟨_, _, _, e⟩) ((SlI.later ho hb0).later hb)
  have hK := fun (hok : shpB S = true) W (hb : Below w0.heap.size w0 W) => cost_any S ev sv ov o W ((h.later hb0).later hb) ((SlI.later ho hb0).later hb) hok
  have HK := Lib.hid (And.intro hO (And.intro hK (And.intro hb0 (And.intro hx hr))))
  obtain ⟨ae, ce, rfl, -⟩ := h.edges.open
  obtain ⟨az, cz, rfl, -⟩ := h.sizes.open
  obtain ⟨ao, co, rfl, -⟩ := ho.open
  clear h ho hb0 hx hr hO hK
  subst hw0
  by_cases hok : shpB S = true
  · rw [if_pos hok] at hC
    have HC := Lib.hid (And.intro hC hok)
    have hV : costV S o = if ordersB S.many o = true then wres (cS S o o.length) else .tuple #[.agg #[.int .u64 0, .int .u64 0], .int .i64 2] := by unfold costV; rw [if_pos hok]
    cases hq : ordersB S.many o with
    | true =>
      rw [hq, if_pos rfl] at hV
      rw [hV]
      have hO1 := HK.out.1
      rw [hq] at hO1
      have HO1 := Lib.hid hO1
      obtain ⟨yh, yl, ye, hye⟩ := wres_open (cS S o o.length)
      have hK1 := HK.out.2.1 hok
      rw [hye] at hK1 ⊢
      have HK1 := Lib.hid hK1
      clear hK1 hye
      clear hok hC hV hO1 hq
      go_enter Tryd.func36, Tryd.ntmps36
      go_wp2_with fail
      refine HC.out.1.mono ?_
      rintro e w1 ⟨rfl, hb1⟩
      have b1 := kept hb1 HK.out.2.2.2.1
      obtain ⟨c0, c1, c2, -, -, -, lX⟩ := three_of' b1
      have HB1 := Lib.hid hb1
      clear hb1 b1
      go_wp2_with fail
      refine (HO1.out _ HB1.out).mono ?_
      rintro e w2 ⟨rfl, hb2⟩
      have hbb := later_trans HB1.out hb2
      obtain ⟨c0, c1, c2, -, -, -, lX⟩ := three_of' (kept hbb HK.out.2.2.2.1)
      obtain ⟨r0, r1, f0, f1, lr⟩ := two_of (kept hbb HK.out.2.2.2.2)
      have HB2 := Lib.hid hbb
      clear hb2 hbb
      go_wp2_with fail
      refine (HK1.out _ HB2.out).mono ?_
      rintro e w3 ⟨rfl, hb3⟩
      have hbb := later_trans HB2.out hb3
      obtain ⟨r0, r1, f0, f1, lr⟩ := two_of (kept hbb HK.out.2.2.2.2)
      have HB3 := Lib.hid (later_trans HK.out.2.2.1 hbb)
      clear hb3 hbb
      go_wp2_with fail
      refine bodyPost_ret (v := .tuple #[.agg #[.int .u64 yh, .int .u64 yl], .int .i64 ye]) (by simp [results, Tryd.results36, go_sem, r0, r1, lr]) rfl ?_
      exact ⟨rfl, below_set (below_set HB3.out (by omega)) (by omega)⟩
    | false =>
      rw [hq, if_neg (by decide)] at hV
      rw [hV]
      have hO1 := HK.out.1
      rw [hq] at hO1
      have HO1 := Lib.hid hO1
      clear hok hC hV hO1 hq
      go_enter Tryd.func36, Tryd.ntmps36
      go_wp2_with fail
      refine HC.out.1.mono ?_
      rintro e w1 ⟨rfl, hb1⟩
      have b1 := kept hb1 HK.out.2.2.2.1
      obtain ⟨c0, c1, c2, -, -, -, lX⟩ := three_of' b1
      have HB1 := Lib.hid hb1
      clear hb1 b1
      go_wp2_with fail
      refine (HO1.out _ HB1.out).mono ?_
      rintro e w2 ⟨rfl, hb2⟩
      have hbb := later_trans HB1.out hb2
      obtain ⟨c0, c1, c2, -, -, -, lX⟩ := three_of' (kept hbb HK.out.2.2.2.1)
      obtain ⟨r0, r1, f0, f1, lr⟩ := two_of (kept hbb HK.out.2.2.2.2)
      have HB2 := Lib.hid hbb
      clear hb2 hbb
      have HB3 := Lib.hid (later_trans HK.out.2.2.1 HB2.out)
      go_wp2_with fail
      refine bodyPost_ret (v := .tuple #[.agg #[.int .u64 0, .int .u64 0], .int .i64 2]) (by simp [results, Tryd.results36, go_sem, r0, r1, lr]) rfl ?_
      exact ⟨rfl, below_set (below_set HB3.out (by omega)) (by omega)⟩
  · rw [if_neg hok] at hC
    have HC := Lib.hid hC
    have hV : costV S o = .tuple #[.agg #[.int .u64 0, .int .u64 0], .int .i64 320] := by unfold costV; rw [if_neg hok]
    rw [hV]
    clear hok hC hV
    go_enter Tryd.func36, Tryd.ntmps36
    go_wp2_with fail
    refine HC.out.mono ?_
    rintro e w1 ⟨rfl, hb1⟩
    obtain ⟨r0, r1, f0, f1, lr⟩ := two_of (kept hb1 HK.out.2.2.2.2)
    have HB3 := Lib.hid (later_trans HK.out.2.2.1 hb1)
    clear hb1
    go_wp2_with fail
    refine bodyPost_ret (v := .tuple #[.agg #[.int .u64 0, .int .u64 0], .int .i64 320]) (by simp [results, Tryd.results36, go_sem, r0, r1, lr]) rfl ?_
    exact ⟨rfl, below_set (below_set HB3.out (by omega)) (by omega)⟩

/-- The place of the least cost among the first k that are not too great. -/
def bestTo (c : Nat → Nat) : Nat → Option Nat
  | 0 => none
  | k + 1 => if c k < 340282366920938463463374607431768211456 then (match bestTo c k with | none => some k | some j => some (if c k < c j then k else j)) else bestTo c k
def outI : Option Nat → Int
  | none => -1
  | some j => j
def bestC (c : Nat → Nat) : Option Nat → Nat
  | none => 0
  | some j => c j
theorem bestTo_over {c : Nat → Nat} {k : Nat} (h : ¬ c k < 340282366920938463463374607431768211456) : bestTo c (k + 1) = bestTo c k := by
  show (if _ then _ else _) = _
  rw [if_neg h]
theorem bestTo_first {c : Nat → Nat} {k : Nat} (h : c k < 340282366920938463463374607431768211456) (h0 : bestTo c k = none) : bestTo c (k + 1) = some k := by
  show (if _ then _ else _) = _
  rw [if_pos h, h0]
theorem bestTo_less {c : Nat → Nat} {k j : Nat} (h : c k < 340282366920938463463374607431768211456) (h0 : bestTo c k = some j) (hl : c k < c j) : bestTo c (k + 1) = some k := by
  show (if _ then _ else _) = _
  rw [if_pos h, h0]
  show some (if c k < c j then k else j) = _
  rw [if_pos hl]
theorem bestTo_more {c : Nat → Nat} {k j : Nat} (h : c k < 340282366920938463463374607431768211456) (h0 : bestTo c k = some j) (hl : ¬ c k < c j) : bestTo c (k + 1) = some j := by
  show (if _ then _ else _) = _
  rw [if_pos h, h0]
  show some (if c k < c j then k else j) = _
  rw [if_neg hl]
theorem bestTo_lt {c : Nat → Nat} : ∀ {k j : Nat}, bestTo c k = some j → j < k ∧ c j < 340282366920938463463374607431768211456
  | 0, j, h => by cases h
  | k + 1, j, h => by
    by_cases hk : c k < 340282366920938463463374607431768211456
    · cases h0 : bestTo c k with
      | none =>
        rw [bestTo_first hk h0] at h
        injection h with h; subst h
        exact ⟨by omega, hk⟩
      | some i =>
        have := bestTo_lt h0
        by_cases hl : c k < c i
        · rw [bestTo_less hk h0 hl] at h
          injection h with h; subst h
          exact ⟨by omega, hk⟩
        · rw [bestTo_more hk h0 hl] at h
          injection h with h; subst h
          exact ⟨by omega, this.2⟩
    · rw [bestTo_over hk] at h
      have := bestTo_lt h
      exact ⟨by omega, this.2⟩
/-- The cost of an order among some. -/
def cO (S : Shp) (l : List (List Int)) (k : Nat) : Nat := cS S (rowN l k) (rowN l k).length
/-- What Best answers. -/
def bestI (S : Shp) (l : List (List Int)) : Int := ((bestTo (cO S l) l.length).getD 0 : Nat)
def badOs (m : Int) (l : List (List Int)) : Bool := l.any fun o => !ordersB m o
/-- What stands while the best one is sought. -/
structure BeW (w : World) (m : Int) (ev sv : Value) (X b : Nat) (W : World) : Prop where
  bel : Below w.heap.size w W
  bs : SB W w.heap.size m ev sv
  bx : WB W X b
  far : w.heap.size < X
theorem BeW.later {w W W' : World} {m : Int} {ev sv : Value} {X b : Nat} (h : BeW w m ev sv X b W) (hb : Below W.heap.size W W') : BeW w m ev sv X b W' := ⟨later_trans h.bel hb, kept hb h.bs, h.bx.later hb, h.far⟩
theorem BeW.set {w W : World} {m : Int} {ev sv : Value} {X b q : Nat} (h : BeW w m ev sv X b W) : BeW w m ev sv X q ((W.setCell ⟨X, 0, none⟩ (.int .u64 ((q / 18446744073709551616 : Nat) : Int))).setCell ⟨X, 1, none⟩ (.int .u64 ((q % 18446744073709551616 : Nat) : Int))) := by
  have hf := h.far
  exact ⟨below_set (below_set h.bel (by omega)) (by omega), box_other (box_other h.bs (by omega) _) (by omega) _, wide_set h.bx, hf⟩
end
/-! ## XCo6 -/
section
open Go.RowKit Go.Maps
set_option linter.unusedVariables false
set_option linter.unusedSimpArgs false

set_option maxRecDepth 100000 in
set_option maxHeartbeats 1000000 in
theorem bad1_any {x : Nat} {m : Int} {ev sv v : Value} {o : List Int} {w : World} (hx : SB w x m ev sv) (he : ∃ a n c, ev = .slice a n c) (hs : ∃ a n c, sv = .slice a n c) (ho : SlI .i64 w v o) :
    Calls Tryd.prog 85 #[v, .pointer (some ⟨x, 0, none⟩)] w fun e w' => e = .returned (.bool (!ordersB m o)) ∧ Below w.heap.size w w' := by
  obtain ⟨c0, c1, c2, -, -, -, lX⟩ := three_of' hx
  have HO := Lib.hid (orders_any m ev sv v o w he hs ho)
  obtain ⟨ae, ne, ce, rfl⟩ := he
  obtain ⟨az, nz, cz, rfl⟩ := hs
  obtain ⟨ao, co, rfl, -⟩ := ho.open
  clear hx ho
  go_enter Tryd.func85, Tryd.ntmps85
  go_wp2_with fail
  refine HO.out.mono ?_
  rintro e w1 ⟨rfl, hb1⟩
  have HB := Lib.hid hb1
  clear hb1
  go_wp2_with fail
  go_ret
  exact ⟨rfl, HB.out⟩

theorem bad_row {m : Int} {l : List (List Int)} (h : badOs m l = false) {k : Nat} (hk : k < l.length) : ordersB m (rowN l k) = true := by
  unfold badOs at h
  have h1 := List.any_eq_false.1 h (rowN l k) (rowN_mem hk)
  cases hq : ordersB m (rowN l k) with
  | true => rfl
  | false => rw [hq] at h1; exact absurd rfl h1
theorem ordersB_len {m : Int} {o : List Int} (h : ordersB m o = true) : (o.length : Int) = m := by
  unfold ordersB at h
  rw [Bool.and_eq_true] at h
  exact of_decide_eq_true h.2
set_option maxRecDepth 100000 in
set_option maxHeartbeats 4000000 in
theorem bestL_any (S : Shp) (ev sv lv : Value) (l : List (List Int)) (w : World) (h : ShR w ev sv S) (hl : SlRK .i64 w lv l) (hok : shpB S = true) (h0 : 0 < l.length) (hbad : badOs S.many l = false) :
    Calls Tryd.prog 38 #[shpV S.many ev sv, lv] w fun e w' => e = .returned (.tuple #[.int .i64 (bestI S l), .int .i64 0]) ∧ Below w.heap.size w w' := by
  have hCo : ∀ k, k < l.length → ∀ rv W, Below w.heap.size w W → SlI .i64 W rv (rowN l k) → Calls Tryd.prog 82 #[shpV S.many ev sv, rv] W fun e w' => e = .returned (wres (cO S l k)) ∧ Below W.heap.size W w' := fun k hk rv W hb hrv => cost_any S ev sv rv (rowN l k) W (h.later hb) hrv hok
  have HC := Lib.hid hCo
  have HL := Lib.hid hl
  have hll := hl.len
  have hb0 := later_alloc w (.cells #[.int .i64 S.many, ev, sv] 27)
  have hx0 : SB (w.alloc (.cells #[.int .i64 S.many, ev, sv] 27)) w.heap.size S.many ev sv := box_new w _ _
  have hC := Check_any S ev sv _ (h.later hb0)
  rw [if_pos hok] at hC
  have hE : Enters 85 := enters_of Tryd.func85 (by kernel_rfl) rfl
  have hBad := fun W (hb : Below (w.alloc (.cells #[.int .i64 S.many, ev, sv] 27)).heap.size (w.alloc (.cells #[.int .i64 S.many, ev, sv] 27)) W) => ContainsFuncR_any (p := fun o => !ordersB S.many o) (caps := #[.pointer (some ⟨w.heap.size, 0, none⟩)]) hE ((hl.later hb0).later hb) (fun r hr rv W' hb' hrv => bad1_any (kept (later_trans hb hb') hx0) (by obtain ⟨a, c, e, -⟩ := h.edges.open; exact ⟨_, _, _, e⟩) (by obtain ⟨a, c, e, -⟩ := h.sizes.open; exact ⟨_, _, _, e⟩) hrv)
  unfold badOs at hbad
  simp only [hbad] at hBad
  have HK := Lib.hid (And.intro hC (And.intro hBad (And.intro hb0 hx0)))
  have h0n : ((l.length : Int) == 0) = false := by rw [beq_eq_false_iff_ne]; omega
  have h0n2 : (l.length == 0) = false := by rw [beq_eq_false_iff_ne]; omega
  obtain ⟨ae, ce, rfl, -⟩ := h.edges.open
  obtain ⟨az, cz, rfl, -⟩ := h.sizes.open
  obtain ⟨al, cl, rfl, -⟩ := hl.open
  clear h hl hok hbad hC hE hBad hb0 hx0 hCo
  go_enter Tryd.func38, Tryd.ntmps38
  go_wp2_with fail
  refine HK.out.1.mono ?_
  rintro e w1 ⟨rfl, hb1⟩
  have HB1 := Lib.hid hb1
  clear hb1
  go_wp2_with fail
  refine (HK.out.2.1 _ HB1.out).mono ?_
  rintro e w2 ⟨rfl, hb2⟩
  have h0 : BeW w S.many (.slice ae S.edges.length ce) (.slice az S.sizes.length cz) w2.heap.size 0 (w2.alloc (.cells #[.int .u64 0, .int .u64 0] 35)) := by
    have hbb := later_trans HB1.out hb2
    have hs := hbb.size
    rw [World.size_alloc] at hs
    exact ⟨later_trans (later_trans HK.out.2.2.1 hbb) (later_alloc _ _), box_alloc (kept hbb HK.out.2.2.2) _, box_new _ _ _, by omega⟩
  have H0 := Lib.hid h0
  clear h0 hb2
  go_wp2_with fail
  obtain ⟨X, hX⟩ : ∃ X, w2.heap.size = X := ⟨_, rfl⟩
  rw [hX] at H0 ⊢
  clear hX
  go_loopw [9, 31] (fun s i wr => ∃ k : Nat, k ≤ l.length ∧ i = .int .i64 k ∧ s = .int .i64 (outI (bestTo (cO S l) k)) ∧ BeW w S.many (.slice ae S.edges.length ce) (.slice az S.sizes.length cz) X (bestC (cO S l) (bestTo (cO S l) k)) wr) (fun _ i _ => l.length - (intOf i).toNat)
  case atStart => exact ⟨0, Nat.zero_le _, rfl, rfl, H0.out⟩
  case round =>
    obtain ⟨k, hk, rfl, rfl, hI⟩ := hrel
    by_cases hlt : k < l.length
    · obtain ⟨_, _, e1, _, _, _, f4⟩ := (HL.out.later hI.bel).open
      obtain ⟨b, of', e2, hbw, fc⟩ := f4 (by omega)
      injection e1 with e1a e1b e1c
      subst e1a e1c
      subst e2
      obtain ⟨rv, c1, hrv⟩ := fc k hlt
      have hCk := fun W (hb : Below wr.heap.size wr W) => HC.out k hlt rv W (later_trans hI.bel hb) (hrv.later hb)
      obtain ⟨ar, cr, rfl, -⟩ := hrv.open
      obtain ⟨row, hrow⟩ : ∃ row, (rowN l k).length = row := ⟨_, rfl⟩
      rw [hrow] at c1 hCk
      obtain ⟨q0, q1, q2, -, -, -, lS⟩ := three_of' hI.bs
      have HI := Lib.hid hI
      have hov1 := bestTo_over (c := cO S l) (k := k)
      have hfi1 := bestTo_first (c := cO S l) (k := k)
      have hle1 := fun j => bestTo_less (c := cO S l) (k := k) (j := j)
      have hmo1 := fun j => bestTo_more (c := cO S l) (k := k) (j := j)
      have hlt1 := fun j => bestTo_lt (c := cO S l) (k := k) (j := j)
      obtain ⟨n, hn⟩ : ∃ n, cO S l k = n := ⟨_, rfl⟩
      rw [hn] at hov1 hfi1 hCk
      simp only [hn] at hle1 hmo1
      obtain ⟨bt, hbt⟩ : ∃ bt, bestTo (cO S l) k = bt := ⟨_, rfl⟩
      rw [hbt] at hov1 hfi1 HI ⊢
      simp only [hbt] at hle1 hmo1 hlt1
      have HN := Lib.hid hn
      clear hrv fc f4 e1b hrow hn hbt hI
      by_cases hov : n < 340282366920938463463374607431768211456
      · have hV : wres n = .tuple #[wv n, .int .i64 0] := by unfold wres; rw [if_pos hov]
        rw [hV] at hCk
        obtain ⟨nh, hnh⟩ : ∃ nh, n / 18446744073709551616 = nh := ⟨_, rfl⟩
        obtain ⟨nl, hnl⟩ : ∃ nl, n % 18446744073709551616 = nl := ⟨_, rfl⟩
        have ewn : wv n = .agg #[.int .u64 (nh : Int), .int .u64 (nl : Int)] := by unfold wv; rw [hnh, hnl]
        rw [ewn] at hCk
        have HCk := Lib.hid hCk
        have HNh := Lib.hid (And.intro hnh hnl)
        cases bt with
        | none =>
          have HR := Lib.hid (hfi1 hov rfl)
          rw [show outI none = -1 from rfl]
          clear hov hov1 hfi1 hle1 hmo1 hlt1 hV hCk ewn hnh hnl
          go_wp2_with fail
          refine (HCk.out _ (later_refl _)).mono ?_
          rintro e w2 ⟨rfl, hb2⟩
          have hI2 := (HI.out.later hb2).later (later_alloc w2 (.cells #[.int .u64 (nh : Int), .int .u64 (nl : Int)] 35))
          obtain ⟨x0, x1, fx0, fx1, lX⟩ := two_of hI2.bx
          obtain ⟨t0, t1, -, -, lT⟩ := two_of (box_new w2 #[.int .u64 (nh : Int), .int .u64 (nl : Int)] 35)
          have H2 := Lib.hid (hI2.set (q := n))
          clear hb2 hI2
          go_wp2_with fail
          have h2 := H2.out
          rw [HNh.out.1, HNh.out.2] at h2
          go_roundw
          case rel => first | exact ⟨k + 1, hlt, by go_num, by rw [HR.out]; rfl, by rw [HR.out]; show BeW _ _ _ _ _ (cO S l k) _; rw [HN.out]; exact h2⟩ | ((repeat apply Exists.intro); refine ⟨?_, rfl⟩; exact ⟨k + 1, hlt, by go_num, by rw [HR.out]; rfl, by rw [HR.out]; show BeW _ _ _ _ _ (cO S l k) _; rw [HN.out]; exact h2⟩)
          case measure => simp [intOf]; omega
        | some j =>
          have hjl := hlt1 j rfl
          rw [show outI (some j) = (j : Int) from rfl]
          have hj0 : ¬ (j : Int) < 0 := by omega
          have hbc : bestC (cO S l) (some j) = cO S l j := rfl
          rw [hbc] at HI
          have hle2 := hle1 j hov rfl
          have hmo2 := hmo1 j hov rfl
          obtain ⟨p, hp⟩ : ∃ p, cO S l j = p := ⟨_, rfl⟩
          rw [hp] at HI hle2 hmo2 hjl
          obtain ⟨ph, hph⟩ : ∃ ph, p / 18446744073709551616 = ph := ⟨_, rfl⟩
          obtain ⟨pl, hpl⟩ : ∃ pl, p % 18446744073709551616 = pl := ⟨_, rfl⟩
          have ewp : wv p = .agg #[.int .u64 (ph : Int), .int .u64 (pl : Int)] := by unfold wv; rw [hph, hpl]
          have hCmp := fun W => Compare_any n p hov hjl.2 W
          rw [ewn, ewp] at hCmp
          have HP := Lib.hid (And.intro hp (And.intro hph hpl))
          by_cases hl : n < p
          · have HR := Lib.hid (hle2 hl)
            have hcm : cmpI (n : Int) (p : Int) = -1 := cmpI_lt (by omega)
            rw [hcm] at hCmp
            have HCmp := Lib.hid hCmp
            clear hov hov1 hfi1 hle1 hmo1 hlt1 hV hCk ewn ewp hnh hnl hph hpl hp hle2 hmo2 hl hcm hCmp hbc hjl
            go_wp2_with fail
            refine (HCk.out _ (later_refl _)).mono ?_
            rintro e w2 ⟨rfl, hb2⟩
            have hI2 := (HI.out.later hb2).later (later_alloc w2 (.cells #[.int .u64 (nh : Int), .int .u64 (nl : Int)] 35))
            have hbx := hI2.bx
            unfold WB at hbx
            rw [HP.out.2.1, HP.out.2.2] at hbx
            obtain ⟨x0, x1, fx0, fx1, lX⟩ := two_of hbx
            have hnw := box_new w2 #[.int .u64 (nh : Int), .int .u64 (nl : Int)] 35
            obtain ⟨t0, t1, -, -, lT⟩ := two_of hnw
            have H2 := Lib.hid (And.intro hI2 hnw)
            clear hb2 hI2 hnw hbx
            go_wp2_with fail
            refine (HCmp.out _).mono ?_
            rintro e w3 ⟨rfl, hb3⟩
            obtain ⟨t0, t1, -, -, lT⟩ := two_of (kept hb3 H2.out.2)
            have hI3 := H2.out.1.later hb3
            obtain ⟨x0, x1, fx0, fx1, lX⟩ := two_of hI3.bx
            have H3 := Lib.hid (hI3.set (q := n))
            clear hb3 hI3
            go_wp2_with fail
            have h2 := H3.out
            rw [HNh.out.1, HNh.out.2] at h2
            go_roundw
            case rel => first | exact ⟨k + 1, hlt, by go_num, by rw [HR.out]; rfl, by rw [HR.out]; show BeW _ _ _ _ _ (cO S l k) _; rw [HN.out]; exact h2⟩ | ((repeat apply Exists.intro); refine ⟨?_, rfl⟩; exact ⟨k + 1, hlt, by go_num, by rw [HR.out]; rfl, by rw [HR.out]; show BeW _ _ _ _ _ (cO S l k) _; rw [HN.out]; exact h2⟩)
            case measure => simp [intOf]; omega
          · have HR := Lib.hid (hmo2 hl)
            have hcm : ¬ cmpI (n : Int) (p : Int) < 0 := by
              by_cases e : n = p
              · rw [cmpI_eq (by omega)]; decide
              · rw [cmpI_gt (by omega)]; decide
            obtain ⟨cm, hcc⟩ : ∃ cm, cmpI (n : Int) (p : Int) = cm := ⟨_, rfl⟩
            rw [hcc] at hCmp hcm
            have HCmp := Lib.hid hCmp
            clear hov hov1 hfi1 hle1 hmo1 hlt1 hV hCk ewn ewp hnh hnl hph hpl hp hle2 hmo2 hl hcc hCmp hbc hjl
            go_wp2_with fail
            refine (HCk.out _ (later_refl _)).mono ?_
            rintro e w2 ⟨rfl, hb2⟩
            have hI2 := (HI.out.later hb2).later (later_alloc w2 (.cells #[.int .u64 (nh : Int), .int .u64 (nl : Int)] 35))
            have hbx := hI2.bx
            unfold WB at hbx
            rw [HP.out.2.1, HP.out.2.2] at hbx
            obtain ⟨x0, x1, fx0, fx1, lX⟩ := two_of hbx
            obtain ⟨t0, t1, -, -, lT⟩ := two_of (box_new w2 #[.int .u64 (nh : Int), .int .u64 (nl : Int)] 35)
            have H2 := Lib.hid hI2
            clear hb2 hI2 hbx
            go_wp2_with fail
            refine (HCmp.out _).mono ?_
            rintro e w3 ⟨rfl, hb3⟩
            have H3 := Lib.hid (H2.out.later hb3)
            clear hb3
            go_wp2_with fail
            go_roundw
            case rel => exact ⟨k + 1, hlt, by go_num, by rw [HR.out]; rfl, by rw [HR.out]; show BeW _ _ _ _ _ (cO S l j) _; rw [HP.out.1]; exact H3.out⟩
            case measure => simp [intOf]; omega
      · have hV : wres n = .tuple #[.agg #[.int .u64 0, .int .u64 0], .int .i64 110] := by unfold wres; rw [if_neg hov]; rfl
        rw [hV] at hCk
        have HCk := Lib.hid hCk
        have HR := Lib.hid (hov1 hov)
        obtain ⟨s0, hs0⟩ : ∃ s0, outI bt = s0 := ⟨_, rfl⟩
        rw [hs0]
        have HS := Lib.hid hs0
        clear hov hov1 hfi1 hle1 hmo1 hlt1 hV hCk hs0
        go_wp2_with fail
        refine (HCk.out _ (later_refl _)).mono ?_
        rintro e w2 ⟨rfl, hb2⟩
        have H2 := Lib.hid ((HI.out.later hb2).later (later_alloc w2 (.cells #[.int .u64 0, .int .u64 0] 35)))
        clear hb2
        go_wp2_with fail
        go_roundw
        case rel => first | exact ⟨k + 1, hlt, by go_num, by rw [HR.out, HS.out], by rw [HR.out]; exact H2.out⟩ | ((repeat apply Exists.intro); refine ⟨?_, rfl⟩; exact ⟨k + 1, hlt, by go_num, by rw [HR.out, HS.out], by rw [HR.out]; exact H2.out⟩)
        case measure => simp [intOf]; omega
    · obtain rfl : k = l.length := by omega
      have HI := Lib.hid hI.bel
      have hend : ∀ bt, bestTo (cO S l) l.length = bt → bestI S l = (bt.getD 0 : Nat) := fun bt h => by rw [← h]; rfl
      obtain ⟨bt, hbt⟩ : ∃ bt, bestTo (cO S l) l.length = bt := ⟨_, rfl⟩
      have HE := Lib.hid (hend bt hbt)
      rw [hbt]
      clear hI hend hbt
      cases bt with
      | none =>
        rw [show outI none = -1 from rfl]
        go_wp2_with fail
        go_ret2
        exact ⟨by rw [HE.out]; rfl, HI.out⟩
      | some j =>
        rw [show outI (some j) = (j : Int) from rfl]
        have hj0 : ¬ (j : Int) < 0 := by omega
        go_wp2_with fail
        go_ret2
        exact ⟨by rw [HE.out]; rfl, HI.out⟩
set_option maxRecDepth 100000 in
set_option maxHeartbeats 4000000 in
theorem bestR_any (S : Shp) (ev sv lv : Value) (l : List (List Int)) (w : World) (h : ShR w ev sv S) (hl : SlRK .i64 w lv l) (hok : shpB S = true) (hbad : badOs S.many l = false) :
    Calls Tryd.prog 39 #[shpV S.many ev sv, lv] w fun e w' => e = .returned (.int .i64 (bestI S l)) ∧ Below w.heap.size w w' := by
  have hCo : ∀ k, k < l.length → ∀ rv W, Below w.heap.size w W → SlI .i64 W rv (rowN l k) → Calls Tryd.prog 37 #[shpV S.many ev sv, rv] W fun e w' => e = .returned (numV (cO S l k)) ∧ Below W.heap.size W w' := fun k hk rv W hb hrv => Cost22_any S ev sv rv (rowN l k) W (h.later hb) hrv hok (by have h1 := ordersB_len (bad_row hbad hk); have h2 := (shpB_yes hok).2.1; omega)
  have HC := Lib.hid hCo
  have HL := Lib.hid hl
  have hll := hl.len
  have h0 : BeW w S.many ev sv (w.heap.size + 1) 0 ((w.alloc (.cells #[.int .i64 S.many, ev, sv] 27)).alloc (.cells #[.int .u64 0, .int .u64 0] 35)) := by
    refine ⟨later_trans (later_alloc _ _) (later_alloc _ _), box_alloc (box_new w _ _) _, ?_, by omega⟩
    have hh := box_new (w.alloc (.cells #[.int .i64 S.many, ev, sv] 27)) #[.int .u64 0, .int .u64 0] 35
    rw [World.size_alloc] at hh; exact hh
  obtain ⟨ae, ce, rfl, -⟩ := h.edges.open
  obtain ⟨az, cz, rfl, -⟩ := h.sizes.open
  obtain ⟨al, cl, rfl, -⟩ := hl.open
  have H0 := Lib.hid h0
  clear h hl hok hbad hCo h0
  go_enter Tryd.func39, Tryd.ntmps39
  go_wp2_with fail
  obtain ⟨X, hX⟩ : ∃ X, w.heap.size + 1 = X := ⟨_, rfl⟩
  rw [hX] at H0 ⊢
  clear hX
  go_loopw [6, 14] (fun s i wr => ∃ k : Nat, k ≤ l.length ∧ i = .int .i64 k ∧ s = .int .i64 (outI (bestTo (cO S l) k)) ∧ BeW w S.many (.slice ae S.edges.length ce) (.slice az S.sizes.length cz) X (bestC (cO S l) (bestTo (cO S l) k)) wr) (fun _ i _ => l.length - (intOf i).toNat)
  case atStart => exact ⟨0, Nat.zero_le _, rfl, rfl, H0.out⟩
  case round =>
    obtain ⟨k, hk, rfl, rfl, hI⟩ := hrel
    by_cases hlt : k < l.length
    · obtain ⟨_, _, e1, _, _, _, f4⟩ := (HL.out.later hI.bel).open
      obtain ⟨b, of', e2, hbw, fc⟩ := f4 (by omega)
      injection e1 with e1a e1b e1c
      subst e1a e1c
      subst e2
      obtain ⟨rv, c1, hrv⟩ := fc k hlt
      have hCk := fun W (hb : Below wr.heap.size wr W) => HC.out k hlt rv W (later_trans hI.bel hb) (hrv.later hb)
      obtain ⟨ar, cr, rfl, -⟩ := hrv.open
      obtain ⟨row, hrow⟩ : ∃ row, (rowN l k).length = row := ⟨_, rfl⟩
      rw [hrow] at c1 hCk
      obtain ⟨q0, q1, q2, -, -, -, lS⟩ := three_of' hI.bs
      have HI := Lib.hid hI
      have hov1 := bestTo_over (c := cO S l) (k := k)
      have hfi1 := bestTo_first (c := cO S l) (k := k)
      have hle1 := fun j => bestTo_less (c := cO S l) (k := k) (j := j)
      have hmo1 := fun j => bestTo_more (c := cO S l) (k := k) (j := j)
      have hlt1 := fun j => bestTo_lt (c := cO S l) (k := k) (j := j)
      obtain ⟨n, hn⟩ : ∃ n, cO S l k = n := ⟨_, rfl⟩
      rw [hn] at hov1 hfi1 hCk
      simp only [hn] at hle1 hmo1
      obtain ⟨bt, hbt⟩ : ∃ bt, bestTo (cO S l) k = bt := ⟨_, rfl⟩
      rw [hbt] at hov1 hfi1 HI ⊢
      simp only [hbt] at hle1 hmo1 hlt1
      have HN := Lib.hid hn
      clear hrv fc f4 e1b hrow hn hbt hI
      by_cases hov : n < 340282366920938463463374607431768211456
      · have hV : numV n = .tuple #[wv n, .bool true] := by unfold numV; rw [if_pos hov]
        rw [hV] at hCk
        obtain ⟨nh, hnh⟩ : ∃ nh, n / 18446744073709551616 = nh := ⟨_, rfl⟩
        obtain ⟨nl, hnl⟩ : ∃ nl, n % 18446744073709551616 = nl := ⟨_, rfl⟩
        have ewn : wv n = .agg #[.int .u64 (nh : Int), .int .u64 (nl : Int)] := by unfold wv; rw [hnh, hnl]
        rw [ewn] at hCk
        have HCk := Lib.hid hCk
        have HNh := Lib.hid (And.intro hnh hnl)
        cases bt with
        | none =>
          have HR := Lib.hid (hfi1 hov rfl)
          rw [show outI none = -1 from rfl]
          clear hov hov1 hfi1 hle1 hmo1 hlt1 hV hCk ewn hnh hnl
          go_wp2_with fail
          refine (HCk.out _ (later_refl _)).mono ?_
          rintro e w2 ⟨rfl, hb2⟩
          have hI2 := (HI.out.later hb2).later (later_alloc w2 (.cells #[.int .u64 (nh : Int), .int .u64 (nl : Int)] 35))
          obtain ⟨x0, x1, fx0, fx1, lX⟩ := two_of hI2.bx
          obtain ⟨t0, t1, -, -, lT⟩ := two_of (box_new w2 #[.int .u64 (nh : Int), .int .u64 (nl : Int)] 35)
          have H2 := Lib.hid (hI2.set (q := n))
          clear hb2 hI2
          go_wp2_with fail
          have h2 := H2.out
          rw [HNh.out.1, HNh.out.2] at h2
          go_roundw
          case rel => first | exact ⟨k + 1, hlt, by go_num, by rw [HR.out]; rfl, by rw [HR.out]; show BeW _ _ _ _ _ (cO S l k) _; rw [HN.out]; exact h2⟩ | ((repeat apply Exists.intro); refine ⟨?_, rfl⟩; exact ⟨k + 1, hlt, by go_num, by rw [HR.out]; rfl, by rw [HR.out]; show BeW _ _ _ _ _ (cO S l k) _; rw [HN.out]; exact h2⟩)
          case measure => simp [intOf]; omega
        | some j =>
          have hjl := hlt1 j rfl
          rw [show outI (some j) = (j : Int) from rfl]
          have hj0 : ¬ (j : Int) < 0 := by omega
          have hbc : bestC (cO S l) (some j) = cO S l j := rfl
          rw [hbc] at HI
          have hle2 := hle1 j hov rfl
          have hmo2 := hmo1 j hov rfl
          obtain ⟨p, hp⟩ : ∃ p, cO S l j = p := ⟨_, rfl⟩
          rw [hp] at HI hle2 hmo2 hjl
          obtain ⟨ph, hph⟩ : ∃ ph, p / 18446744073709551616 = ph := ⟨_, rfl⟩
          obtain ⟨pl, hpl⟩ : ∃ pl, p % 18446744073709551616 = pl := ⟨_, rfl⟩
          have ewp : wv p = .agg #[.int .u64 (ph : Int), .int .u64 (pl : Int)] := by unfold wv; rw [hph, hpl]
          have hCmp := fun W => Compare01_any n p nh nl ph pl W (by omega) (by omega) (by omega) (by omega) (by omega) (by omega)
          have HP := Lib.hid (And.intro hp (And.intro hph hpl))
          by_cases hl : n < p
          · have HR := Lib.hid (hle2 hl)
            have hcm : cmpI (n : Int) (p : Int) = -1 := cmpI_lt (by omega)
            rw [hcm] at hCmp
            have HCmp := Lib.hid hCmp
            clear hov hov1 hfi1 hle1 hmo1 hlt1 hV hCk ewn ewp hnh hnl hph hpl hp hle2 hmo2 hl hcm hCmp hbc hjl
            go_wp2_with fail
            refine (HCk.out _ (later_refl _)).mono ?_
            rintro e w2 ⟨rfl, hb2⟩
            have hI2 := (HI.out.later hb2).later (later_alloc w2 (.cells #[.int .u64 (nh : Int), .int .u64 (nl : Int)] 35))
            have hbx := hI2.bx
            unfold WB at hbx
            rw [HP.out.2.1, HP.out.2.2] at hbx
            obtain ⟨x0, x1, fx0, fx1, lX⟩ := two_of hbx
            have hnw := box_new w2 #[.int .u64 (nh : Int), .int .u64 (nl : Int)] 35
            obtain ⟨t0, t1, -, -, lT⟩ := two_of hnw
            have H2 := Lib.hid (And.intro hI2 hnw)
            clear hb2 hI2 hnw hbx
            go_wp2_with fail
            refine (HCmp.out _).mono ?_
            rintro e w3 ⟨rfl, hb3⟩
            obtain ⟨t0, t1, -, -, lT⟩ := two_of (kept hb3 H2.out.2)
            have hI3 := H2.out.1.later hb3
            obtain ⟨x0, x1, fx0, fx1, lX⟩ := two_of hI3.bx
            have H3 := Lib.hid (hI3.set (q := n))
            clear hb3 hI3
            go_wp2_with fail
            have h2 := H3.out
            rw [HNh.out.1, HNh.out.2] at h2
            go_roundw
            case rel => first | exact ⟨k + 1, hlt, by go_num, by rw [HR.out]; rfl, by rw [HR.out]; show BeW _ _ _ _ _ (cO S l k) _; rw [HN.out]; exact h2⟩ | ((repeat apply Exists.intro); refine ⟨?_, rfl⟩; exact ⟨k + 1, hlt, by go_num, by rw [HR.out]; rfl, by rw [HR.out]; show BeW _ _ _ _ _ (cO S l k) _; rw [HN.out]; exact h2⟩)
            case measure => simp [intOf]; omega
          · have HR := Lib.hid (hmo2 hl)
            have hcm : ¬ cmpI (n : Int) (p : Int) < 0 := by
              by_cases e : n = p
              · rw [cmpI_eq (by omega)]; decide
              · rw [cmpI_gt (by omega)]; decide
            obtain ⟨cm, hcc⟩ : ∃ cm, cmpI (n : Int) (p : Int) = cm := ⟨_, rfl⟩
            rw [hcc] at hCmp hcm
            have HCmp := Lib.hid hCmp
            clear hov hov1 hfi1 hle1 hmo1 hlt1 hV hCk ewn ewp hnh hnl hph hpl hp hle2 hmo2 hl hcc hCmp hbc hjl
            go_wp2_with fail
            refine (HCk.out _ (later_refl _)).mono ?_
            rintro e w2 ⟨rfl, hb2⟩
            have hI2 := (HI.out.later hb2).later (later_alloc w2 (.cells #[.int .u64 (nh : Int), .int .u64 (nl : Int)] 35))
            have hbx := hI2.bx
            unfold WB at hbx
            rw [HP.out.2.1, HP.out.2.2] at hbx
            obtain ⟨x0, x1, fx0, fx1, lX⟩ := two_of hbx
            obtain ⟨t0, t1, -, -, lT⟩ := two_of (box_new w2 #[.int .u64 (nh : Int), .int .u64 (nl : Int)] 35)
            have H2 := Lib.hid hI2
            clear hb2 hI2 hbx
            go_wp2_with fail
            refine (HCmp.out _).mono ?_
            rintro e w3 ⟨rfl, hb3⟩
            have H3 := Lib.hid (H2.out.later hb3)
            clear hb3
            go_wp2_with fail
            go_roundw
            case rel => exact ⟨k + 1, hlt, by go_num, by rw [HR.out]; rfl, by rw [HR.out]; show BeW _ _ _ _ _ (cO S l j) _; rw [HP.out.1]; exact H3.out⟩
            case measure => simp [intOf]; omega
      · have hV : numV n = .tuple #[.agg #[.int .u64 0, .int .u64 0], .bool false] := by unfold numV; rw [if_neg hov]
        rw [hV] at hCk
        have HCk := Lib.hid hCk
        have HR := Lib.hid (hov1 hov)
        obtain ⟨s0, hs0⟩ : ∃ s0, outI bt = s0 := ⟨_, rfl⟩
        rw [hs0]
        have HS := Lib.hid hs0
        clear hov hov1 hfi1 hle1 hmo1 hlt1 hV hCk hs0
        go_wp2_with fail
        refine (HCk.out _ (later_refl _)).mono ?_
        rintro e w2 ⟨rfl, hb2⟩
        have H2 := Lib.hid ((HI.out.later hb2).later (later_alloc w2 (.cells #[.int .u64 0, .int .u64 0] 35)))
        clear hb2
        go_wp2_with fail
        go_roundw
        case rel => first | exact ⟨k + 1, hlt, by go_num, by rw [HR.out, HS.out], by rw [HR.out]; exact H2.out⟩ | ((repeat apply Exists.intro); refine ⟨?_, rfl⟩; exact ⟨k + 1, hlt, by go_num, by rw [HR.out, HS.out], by rw [HR.out]; exact H2.out⟩)
        case measure => simp [intOf]; omega
    · obtain rfl : k = l.length := by omega
      have HI := Lib.hid hI.bel
      have hend : ∀ bt, bestTo (cO S l) l.length = bt → bestI S l = (bt.getD 0 : Nat) := fun bt h => by rw [← h]; rfl
      obtain ⟨bt, hbt⟩ : ∃ bt, bestTo (cO S l) l.length = bt := ⟨_, rfl⟩
      have HE := Lib.hid (hend bt hbt)
      rw [hbt]
      clear hI hend hbt
      cases bt with
      | none =>
        rw [show outI none = -1 from rfl]
        go_wp2_with fail
        go_ret
        exact ⟨ret_int (by rw [HE.out]; rfl), HI.out⟩
      | some j =>
        rw [show outI (some j) = (j : Int) from rfl]
        have hj0 : ¬ (j : Int) < 0 := by omega
        go_wp2_with fail
        go_ret
        exact ⟨ret_int (by rw [HE.out]; rfl), HI.out⟩
end
/-! ## XCo7 -/
section
open Go.RowKit Go.Maps
set_option linter.unusedVariables false
set_option linter.unusedSimpArgs false

/-- What Best answers. -/
def bestX (S : Shp) (l : List (List Int)) : Int := if shpB S = true then (if l.length = 0 then 0 else if badOs S.many l = true then 0 else bestI S l) else 0
def bestE (S : Shp) (l : List (List Int)) : Int := if shpB S = true then (if l.length = 0 then 2 else if badOs S.many l = true then 2 else 0) else 320
set_option maxRecDepth 100000 in
set_option maxHeartbeats 4000000 in
theorem Best_any (S : Shp) (ev sv lv : Value) (l : List (List Int)) (w : World) (h : ShR w ev sv S) (hl : SlRK .i64 w lv l) :
    Calls Tryd.prog 38 #[shpV S.many ev sv, lv] w fun e w' => e = .returned (.tuple #[.int .i64 (bestX S l), .int .i64 (bestE S l)]) ∧ Below w.heap.size w w' := by
  have hb0 := later_alloc w (.cells #[.int .i64 S.many, ev, sv] 27)
  have hx0 : SB (w.alloc (.cells #[.int .i64 S.many, ev, sv] 27)) w.heap.size S.many ev sv := box_new w _ _
  have hC := Check_any S ev sv _ (h.later hb0)
  have hE : Enters 85 := enters_of Tryd.func85 (by kernel_rfl) rfl
  have hBad := fun W (hb : Below (w.alloc (.cells #[.int .i64 S.many, ev, sv] 27)).heap.size (w.alloc (.cells #[.int .i64 S.many, ev, sv] 27)) W) => ContainsFuncR_any (p := fun o => !ordersB S.many o) (caps := #[.pointer (some ⟨w.heap.size, 0, none⟩)]) hE ((hl.later hb0).later hb) (fun r hr rv W' hb' hrv => bad1_any (kept (later_trans hb hb') hx0) (by obtain ⟨a, c, e, -⟩ := h.edges.open; exact ⟨_, _, _, e⟩) (by obtain ⟨a, c, e, -⟩ := h.sizes.open; exact ⟨_, _, _, e⟩) hrv)
  have hBG := fun (h1 : shpB S = true) (h2 : 0 < l.length) (h3 : badOs S.many l = false) => bestL_any S ev sv lv l w h hl h1 h2 h3
  obtain ⟨ae, ce, rfl, -⟩ := h.edges.open
  obtain ⟨az, cz, rfl, -⟩ := h.sizes.open
  obtain ⟨al, cl, rfl, -⟩ := hl.open
  by_cases hok : shpB S = true
  · by_cases h0 : l.length = 0
    · have e1 : bestX S l = 0 := by unfold bestX; rw [if_pos hok, if_pos h0]
      have e2 : bestE S l = 2 := by unfold bestE; rw [if_pos hok, if_pos h0]
      rw [if_pos hok] at hC
      rw [e1, e2]
      have HK := Lib.hid (And.intro hC hb0)
      have h0n : ((l.length : Int) == 0) = true := by rw [h0]; rfl
      have h0n2 : (l.length == 0) = true := by rw [h0]; rfl
      clear h hl hok hC hE hBad hBG hb0 hx0 e1 e2 h0
      go_enter Tryd.func38, Tryd.ntmps38
      go_wp2_with fail
      refine HK.out.1.mono ?_
      rintro e w1 ⟨rfl, hb1⟩
      have HB1 := Lib.hid (later_trans HK.out.2 hb1)
      clear hb1
      go_wp2_with fail
      go_ret2
      exact ⟨rfl, HB1.out⟩
    · cases hbd : badOs S.many l with
      | false =>
        have e1 : bestX S l = bestI S l := by unfold bestX; rw [if_pos hok, if_neg h0, hbd, if_neg (by decide)]
        have e2 : bestE S l = 0 := by unfold bestE; rw [if_pos hok, if_neg h0, hbd, if_neg (by decide)]
        rw [e1, e2]
        exact hBG hok (by omega) hbd
      | true =>
        have e1 : bestX S l = 0 := by unfold bestX; rw [if_pos hok, if_neg h0, hbd, if_pos rfl]
        have e2 : bestE S l = 2 := by unfold bestE; rw [if_pos hok, if_neg h0, hbd, if_pos rfl]
        rw [if_pos hok] at hC
        unfold badOs at hbd
        simp only [hbd] at hBad
        rw [e1, e2]
        have HK := Lib.hid (And.intro hC (And.intro hBad hb0))
        have h0n : ((l.length : Int) == 0) = false := by rw [beq_eq_false_iff_ne]; omega
        have h0n2 : (l.length == 0) = false := by rw [beq_eq_false_iff_ne]; omega
        clear h hl hok hC hE hBad hBG hb0 hx0 e1 e2 h0 hbd
        go_enter Tryd.func38, Tryd.ntmps38
        go_wp2_with fail
        refine HK.out.1.mono ?_
        rintro e w1 ⟨rfl, hb1⟩
        have HB1 := Lib.hid hb1
        clear hb1
        go_wp2_with fail
        refine (HK.out.2.1 _ HB1.out).mono ?_
        rintro e w2 ⟨rfl, hb2⟩
        have HB2 := Lib.hid (later_trans HK.out.2.2 (later_trans HB1.out hb2))
        clear hb2
        go_wp2_with fail
        go_ret2
        exact ⟨rfl, HB2.out⟩
  · have e1 : bestX S l = 0 := by unfold bestX; rw [if_neg hok]
    have e2 : bestE S l = 320 := by unfold bestE; rw [if_neg hok]
    rw [if_neg hok] at hC
    rw [e1, e2]
    have HK := Lib.hid (And.intro hC hb0)
    clear h hl hok hC hE hBad hBG hb0 hx0 e1 e2
    go_enter Tryd.func38, Tryd.ntmps38
    go_wp2_with fail
    refine HK.out.1.mono ?_
    rintro e w1 ⟨rfl, hb1⟩
    have HB1 := Lib.hid (later_trans HK.out.2 hb1)
    clear hb1
    go_wp2_with fail
    go_ret2
    exact ⟨rfl, HB1.out⟩
end
end Go.Proofs.YtdmfhlfhlflakaaDoor
