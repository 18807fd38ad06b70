/-
  slices.BinarySearchFunc at pairs, run's place, walked.
-/
import Derived.Test.YtdfnfdgkhflonaaTCompact
import Derived.Test.YtdfnfdgkhflonaaTRunC
import Derived.Test.YtdfnfdgkhflonaaTBs
import Derived.Test.YtdfnfdgkhflonaaTEq
namespace Go.Proofs.Ytdfnfdgkhflonaa
open Go.RowKit
set_option linter.unusedVariables false

theorem run_lt {l : List Pr} (h : PairsTo l l.length) {i j : Nat} (hij : i < j) (hj : j < l.length) : Ahd (l[i]'(by omega)) l[j] := by
  have := pairwise_of h
  rw [List.pairwise_iff_getElem] at this
  exact this i j (by omega) hj hij
/-- Where a pair stands, or would. -/
def PlaceOk (l : List Pr) (p : Pr) (i : Nat) : Prop := i ≤ l.length ∧ (∀ j, j < i → (hj : j < l.length) → Ahd l[j] p) ∧ (∀ j, i ≤ j → (hj : j < l.length) → ¬ Ahd l[j] p)

set_option maxRecDepth 100000 in
set_option maxHeartbeats 4000000 in
theorem bsf_any (v : Value) (l : List Pr) (p : Pr) (w : World) (h : SlP w v l) (hr : PairsTo l l.length) (hl : l.length ≤ 1099511627776) :
    Calls Try.prog 118 #[v, .agg #[.int .u64 p.a, .int .u64 p.b], .func (.func 111) #[] #[]] w fun e w' => ∃ (i : Nat) (ok : Bool), e = .returned (.tuple #[.int .i64 i, .bool ok]) ∧ PlaceOk l p i ∧ Below w.heap.size w w' := by
  obtain ⟨a, c, rfl, h1, h2, h3, h4⟩ := h.open
  have HX := Lib.hid h4
  have HR := Lib.hid hr
  obtain ⟨W, hW⟩ : ∃ W, w.alloc (.cells #[.int .u64 p.a, .int .u64 p.b] 59) = W := ⟨_, rfl⟩
  obtain ⟨K, hKe⟩ : ∃ K, w.heap.size = K := ⟨_, rfl⟩
  have hbW : Below w.heap.size w W := by rw [← hW]; exact later_alloc w _
  have hKb : W.heap[K]? = some (.cells #[.int .u64 p.a, .int .u64 p.b] 59 (0, 0)) := by rw [← hW, ← hKe]; exact box_new w _ _
  clear h h1 h2 h3 h4 hr
  go_enter Try.func118, Try.ntmps118
  go_wp2
  go_loopw [9, 10] (fun lo hi wr => ∃ i h : Nat, i ≤ h ∧ h ≤ l.length ∧ lo = .int .i64 i ∧ hi = .int .i64 h ∧ (∀ j, j < i → (hj : j < l.length) → Ahd l[j] p) ∧ (∀ j, h ≤ j → (hj : j < l.length) → ¬ Ahd l[j] p) ∧ wr.heap[K]? = some (.cells #[.int .u64 p.a, .int .u64 p.b] 59 (0, 0)) ∧ Below w.heap.size w wr) (fun lo hi _ => (intOf hi - intOf lo).toNat)
  case atStart => exact ⟨0, l.length, Nat.zero_le _, Nat.le_refl _, rfl, rfl, fun j hj => by omega, fun j hj hj' => by omega, hKb, hbW⟩
  case round =>
    obtain ⟨i, h, hlh, hhn, rfl, rfl, hlo, hhi, hK, hb⟩ := hrel
    have HLO := Lib.hid hlo
    have HHI := Lib.hid hhi
    have k0 := box_cell (i := 0) hK
    have k1 := box_cell (i := 1) hK
    simp at k0 k1
    clear hlo hhi
    by_cases hlt : i < h
    · obtain ⟨bb, o, rfl, hbw, hcs⟩ := HX.out (by omega)
      obtain ⟨m, hm⟩ : ∃ m, (i + h) / 2 = m := ⟨_, rfl⟩
      have hml : m < l.length := by omega
      have hquo : ((i : Int) + (h : Int)) / 2 = (m : Int) := by omega
      obtain ⟨hc0, hc1⟩ := hcs m hml
      have hc0 := ((bcell hb).1 bb (o + m * 2) hbw).trans hc0
      have hc1 := ((bcell hb).1 bb (o + m * 2 + 1) hbw).trans hc1
      obtain ⟨x, hx⟩ : ∃ x, l[m] = x := ⟨_, rfl⟩
      rw [hx] at hc0 hc1
      have HXE := Lib.hid hx
      have hf4 : wr.cell? ⟨K, 0, none⟩ = some (.int .u64 p.a) ∧ wr.cell? ⟨K, 1, none⟩ = some (.int .u64 p.b) ∧ wr.cell? ⟨bb, o + m * 2, none⟩ = some (.int .u64 x.a) ∧ wr.cell? ⟨bb, o + m * 2 + 1, none⟩ = some (.int .u64 x.b) := ⟨k0, k1, hc0, hc1⟩
      clear hcs hx
      by_cases hA : Ahd x p
      · have hneg : cmpP x p < 0 := (cmpP_lt x p).2 hA
        obtain ⟨cv, hcv⟩ : ∃ cv, cmpP x p = cv := ⟨_, rfl⟩
        rw [hcv] at hneg
        have hnd : decide (cv < 0) = true := decide_eq_true hneg
        have HCV := Lib.hid hcv
        have HA := Lib.hid hA
        clear hcv hA hneg
        go_wp2_with fail
        go_region_held3 (fun W' => W'.cell? ⟨K, 0, none⟩ = some (.int .u64 p.a) ∧ W'.cell? ⟨K, 1, none⟩ = some (.int .u64 p.b) ∧ W'.cell? ⟨bb, o + m * 2, none⟩ = some (.int .u64 x.a) ∧ W'.cell? ⟨bb, o + m * 2 + 1, none⟩ = some (.int .u64 x.b))
          (first | exact hf4 | exact cells4_next hbC hf4 | assumption)
          (first
            | (go_at_call 111; refine (cmpP_any x p _).mono ?_; rintro e wC ⟨rfl, hbC'⟩; rw [HCV.out]; have hbC : Below wr.heap.size wr wC := later_trans (later_drew _) hbC'))
        all_goals go_wp2_with fail
        all_goals go_roundw
        case rel => exact ⟨m + 1, h, by omega, hhn, by go_num, rfl, fun j hj hj' => by
          by_cases e : j = m
          · subst e; rw [HXE.out]; exact HA.out
          · have := run_lt HR.out (show j < m by omega) hml; rw [HXE.out] at this; exact ahd_trans this HA.out, HHI.out, (hbC.block _ (lt_of_block hK)).trans hK, later_trans hb hbC⟩
        case measure => simp [intOf]; omega
      · have hneg : ¬ cmpP x p < 0 := fun h => hA ((cmpP_lt x p).1 h)
        obtain ⟨cv, hcv⟩ : ∃ cv, cmpP x p = cv := ⟨_, rfl⟩
        rw [hcv] at hneg
        have hnd : decide (cv < 0) = false := decide_eq_false hneg
        have HCV := Lib.hid hcv
        have HA := Lib.hid hA
        clear hcv hA hneg
        go_wp2_with fail
        go_region_held3 (fun W' => W'.cell? ⟨K, 0, none⟩ = some (.int .u64 p.a) ∧ W'.cell? ⟨K, 1, none⟩ = some (.int .u64 p.b) ∧ W'.cell? ⟨bb, o + m * 2, none⟩ = some (.int .u64 x.a) ∧ W'.cell? ⟨bb, o + m * 2 + 1, none⟩ = some (.int .u64 x.b))
          (first | exact hf4 | exact cells4_next hbC hf4 | assumption)
          (first
            | (go_at_call 111; refine (cmpP_any x p _).mono ?_; rintro e wC ⟨rfl, hbC'⟩; rw [HCV.out]; have hbC : Below wr.heap.size wr wC := later_trans (later_drew _) hbC'))
        all_goals go_wp2_with fail
        all_goals go_roundw
        case rel => exact ⟨i, m, by omega, by omega, rfl, by go_num, HLO.out, fun j hj hj' => by
          by_cases e : j = m
          · subst e; rw [HXE.out]; exact HA.out
          · intro hc
            have := run_lt HR.out (show m < j by omega) hj'
            rw [HXE.out] at this
            exact HA.out (ahd_trans this hc), (hbC.block _ (lt_of_block hK)).trans hK, later_trans hb hbC⟩
        case measure => simp [intOf]; omega
    · obtain rfl : i = h := by omega
      by_cases hl0 : i = l.length
      · have hle : decide ((i : Int) < (l.length : Int)) = false := decide_eq_false (by omega)
        have hle2 : decide (i < l.length) = false := decide_eq_false (by omega)
        have HPO := Lib.hid (show PlaceOk l p i from ⟨hhn, HLO.out, HHI.out⟩)
        go_wp2_with fail
        go_quiet (fail)
        go_wp2_with fail
        go_ret2
        exact ⟨i, false, rfl, HPO.out, later_trans hb (later_drewN _ _)⟩
      · have hll : i < l.length := by omega
        obtain ⟨bb, o, rfl, hbw, hcs⟩ := HX.out (by omega)
        obtain ⟨hc0, hc1⟩ := hcs i hll
        have hc0 := ((bcell hb).1 bb (o + i * 2) hbw).trans hc0
        have hc1 := ((bcell hb).1 bb (o + i * 2 + 1) hbw).trans hc1
        obtain ⟨x, hx⟩ : ∃ x, l[i] = x := ⟨_, rfl⟩
        rw [hx] at hc0 hc1
        have hf4 : wr.cell? ⟨K, 0, none⟩ = some (.int .u64 p.a) ∧ wr.cell? ⟨K, 1, none⟩ = some (.int .u64 p.b) ∧ wr.cell? ⟨bb, o + i * 2, none⟩ = some (.int .u64 x.a) ∧ wr.cell? ⟨bb, o + i * 2 + 1, none⟩ = some (.int .u64 x.b) := ⟨k0, k1, hc0, hc1⟩
        have HPO := Lib.hid (show PlaceOk l p i from ⟨hhn, HLO.out, HHI.out⟩)
        obtain ⟨cv, hcv⟩ : ∃ cv, cmpP x p = cv := ⟨_, rfl⟩
        have HCV := Lib.hid hcv
        clear hcs hx hcv hl0
        go_wp2_with fail
        go_region_held3 (fun W' => W'.cell? ⟨K, 0, none⟩ = some (.int .u64 p.a) ∧ W'.cell? ⟨K, 1, none⟩ = some (.int .u64 p.b) ∧ W'.cell? ⟨bb, o + i * 2, none⟩ = some (.int .u64 x.a) ∧ W'.cell? ⟨bb, o + i * 2 + 1, none⟩ = some (.int .u64 x.b))
          (first | exact hf4 | exact cells4_next hbC hf4 | assumption)
          (first
            | (go_at_call 111; refine (cmpP_any x p _).mono ?_; rintro e wC ⟨rfl, hbC'⟩; rw [HCV.out]; have hbC : Below wr.heap.size wr wC := later_trans (later_drew _) hbC'))
        all_goals go_wp2_with fail
        all_goals go_ret2
        all_goals exact ⟨i, (cv == 0), rfl, HPO.out, later_trans hb hbC⟩

set_option maxRecDepth 100000 in
theorem place_any (v : Value) (l : List Pr) (p : Pr) (w : World) (h : SlP w v l) (hr : PairsTo l l.length) (hl : l.length ≤ 1099511627776) :
    Calls Try.prog 93 #[v, .agg #[.int .u64 p.a, .int .u64 p.b]] w fun e w' => ∃ i : Nat, e = .returned (.int .i64 i) ∧ PlaceOk l p i ∧ Below w.heap.size w w' := by
  have HB := Lib.hid (bsf_any v l p (w.alloc (.cells #[.int .u64 p.a, .int .u64 p.b] 59)) (h.later (later_alloc w _)) hr hl)
  obtain ⟨a, c, rfl, -⟩ := h.open
  clear h hr
  go_enter Try.func93, Try.ntmps93
  go_wp2_with fail
  refine HB.out.mono ?_
  rintro e w1 ⟨i, ok, rfl, hpo, hb⟩
  go_wp2_with fail
  go_ret
  exact ⟨i, rfl, hpo, later_trans (later_alloc w _) hb⟩

theorem mem_place {l : List Pr} {p : Pr} {i : Nat} (h : PairsTo l l.length) (hp : PlaceOk l p i) : p ∈ l ↔ ∃ hi : i < l.length, l[i] = p := by
  constructor
  · intro hm
    obtain ⟨j, hj, he⟩ := List.getElem_of_mem hm
    have h1 : ¬ Ahd l[j] p := by rw [he]; unfold Ahd; omega
    have h2 : i ≤ j := by
      rcases Nat.lt_or_ge j i with hc | hc
      · exact absurd (hp.2.1 j hc hj) h1
      · exact hc
    by_cases e : i = j
    · subst e; exact ⟨hj, he⟩
    · have := run_lt h (show i < j by omega) hj
      rw [he] at this
      exact absurd this (hp.2.2 i (Nat.le_refl _) (by omega))
  · rintro ⟨hi, rfl⟩
    exact List.getElem_mem hi

theorem eql_pair (p q : Pr) (w : World) : (binOp .eql 59 (.agg #[.int .u64 p.a, .int .u64 p.b]) (.agg #[.int .u64 q.a, .int .u64 q.b])).run Try.prog w = .ok (.bool (decide (p = q))) w := by
  have u := Try.underlying38
  have hS : Try.prog.underlying 59 = some (.struct (Try.prog.fieldsOf 59)) := by kernel_rfl
  have hp : Try.prog.stoodInHeld 59 = false := by kernel_rfl
  rw [run_eql_struct, show (10000 : Nat) = 9999 + 1 from rfl, run_equalIn_agg w 9999 59 _ _ hS hp]
  simp only [Program.fieldsOf, Try.underlying59]
  go_simp
  obtain ⟨pa, pb⟩ := p
  obtain ⟨qa, qb⟩ := q
  by_cases ha : pa = qa <;> by_cases hb : pb = qb <;> simp [ha, hb]
theorem guardE_pair (x y : Operand) (xs ys : Array Value) (w : World) : (eqGuard .eql 59 x y (.agg xs) (.agg ys)).run Try.prog w = .ok () w := run_eqGuard_agg w .eql 59 x y xs ys (by kernel_rfl)

set_option maxRecDepth 100000 in
set_option maxHeartbeats 4000000 in
theorem runHas_any (v : Value) (l : List Pr) (p : Pr) (w : World) (h : SlP w v l) (hr : RunOk l) :
    Calls Try.prog 51 #[v, .agg #[.int .u64 p.a, .int .u64 p.b]] w fun e w' => e = .returned (.bool (decide (p ∈ l))) ∧ Below w.heap.size w w' := by
  have hl := hr.1
  have HP := Lib.hid (fun V (hV : Below w.heap.size w V) => place_any v l p V (h.later hV) hr.2 (by omega))
  have HC := Lib.hid (fun V (hV : Below w.heap.size w V) => (runCheck_any v l V (h.later hV)).mono (R' := fun e w' => e = .returned (.int .i64 0) ∧ Below V.heap.size V w') (by rintro e w' ⟨rfl, h⟩; exact ⟨by rw [if_pos hr], h⟩))
  have HM := Lib.hid (fun i => mem_place (p := p) (i := i) hr.2)
  obtain ⟨a, c, rfl, h1, h2, h3, h4⟩ := h.open
  have HX := Lib.hid h4
  obtain ⟨W, hW⟩ : ∃ W, w.alloc (.cells #[.int .u64 p.a, .int .u64 p.b] 59) = W := ⟨_, rfl⟩
  obtain ⟨K, hKe⟩ : ∃ K, w.heap.size = K := ⟨_, rfl⟩
  have hbW : Below w.heap.size w W := by rw [← hW]; exact later_alloc w _
  have hKb : W.heap[K]? = some (.cells #[.int .u64 p.a, .int .u64 p.b] 59 (0, 0)) := by rw [← hW, ← hKe]; exact box_new w _ _
  have k0 := box_cell (i := 0) hKb
  have k1 := box_cell (i := 1) hKb
  simp at k0 k1
  clear h h1 h2 h3 h4 hr
  go_enter Try.func51, Try.ntmps51
  go_wp2_with fail
  refine (HP.out _ hbW).mono ?_
  rintro e w1 ⟨i, rfl, hpo, hb1⟩
  have hK := (hb1.block _ (lt_of_block hKb)).trans hKb
  have hb := later_trans hbW hb1
  have hm := HM.out i hpo
  have hil := hpo.1
  clear k0 k1
  have k0 := box_cell (i := 0) hK
  have k1 := box_cell (i := 1) hK
  simp at k0 k1
  by_cases hl0 : i < l.length
  · obtain ⟨bb, o, rfl, hbw, hcs⟩ := HX.out (by omega)
    obtain ⟨hc0, hc1⟩ := hcs i hl0
    have hc0 := ((bcell hb).1 bb (o + i * 2) hbw).trans hc0
    have hc1 := ((bcell hb).1 bb (o + i * 2 + 1) hbw).trans hc1
    obtain ⟨x, hx⟩ : ∃ x, l[i] = x := ⟨_, rfl⟩
    rw [hx] at hc0 hc1
    have hf4 : w1.cell? ⟨K, 0, none⟩ = some (.int .u64 p.a) ∧ w1.cell? ⟨K, 1, none⟩ = some (.int .u64 p.b) ∧ w1.cell? ⟨bb, o + i * 2, none⟩ = some (.int .u64 x.a) ∧ w1.cell? ⟨bb, o + i * 2 + 1, none⟩ = some (.int .u64 x.b) := ⟨k0, k1, hc0, hc1⟩
    by_cases he : x = p
    · have HAN := Lib.hid (show decide (p ∈ l) = true from decide_eq_true (hm.2 ⟨hl0, hx.trans he⟩))
      subst he
      clear hcs hx hm hpo
      go_wp2_with fail
      go_region_held3 (fun W' => W'.cell? ⟨K, 0, none⟩ = some (.int .u64 x.a) ∧ W'.cell? ⟨K, 1, none⟩ = some (.int .u64 x.b) ∧ W'.cell? ⟨bb, o + i * 2, none⟩ = some (.int .u64 x.a) ∧ W'.cell? ⟨bb, o + i * 2 + 1, none⟩ = some (.int .u64 x.b))
        (first | exact hf4 | exact cells4_next hbC hf4 | assumption)
        (first
          | (go_at_call 80; refine (HC.out _ (later_trans hb (later_drew _))).mono ?_; rintro e wC ⟨rfl, hbC'⟩; have hbC : Below w1.heap.size w1 wC := later_trans (later_drew _) hbC'))
      all_goals go_wp2_with fail
      all_goals go_ret
      all_goals rw [HAN.out]
      all_goals exact ⟨rfl, by subst hKe; exact later_trans hb hbC⟩
    · have HAN := Lib.hid (show decide (p ∈ l) = false from decide_eq_false (fun hq => by obtain ⟨h1, h2⟩ := hm.1 hq; exact he (hx.symm.trans h2)))
      have heq := eql_pair x p
      rw [decide_eq_false he] at heq
      have hgd := guardE_pair
      clear hcs hx hm hpo he
      go_wp2_with fail
      go_quiet (fail)
      go_wp2_with fail
      go_ret
      rw [HAN.out]
      exact ⟨rfl, by subst hKe; exact later_trans hb (later_drewN _ _)⟩
  · have hl1 : i = l.length := by omega
    have HAN := Lib.hid (show decide (p ∈ l) = false from decide_eq_false (fun hq => by obtain ⟨h1, h2⟩ := hm.1 hq; omega))
    have hle : decide ((i : Int) < (l.length : Int)) = false := decide_eq_false (by omega)
    have hle2 : decide (i < l.length) = false := decide_eq_false (by omega)
    clear hm hpo hl0
    go_wp2_with fail
    go_quiet (fail)
    go_wp2_with fail
    go_ret
    rw [HAN.out]
    exact ⟨rfl, by subst hKe; exact later_trans hb (later_drewN _ _)⟩

set_option maxRecDepth 100000 in
theorem firsts_any (v : Value) (l : List Pr) (w : World) (h : SlP w v l) (hr : RunOk l) :
    Calls Try.prog 52 #[v] w fun e w' => ∃ v', e = .returned v' ∧ w'.ownsRow w.heap.size 38 1 v' (onceTo (l.map Pr.a) l.length).length ((onceTo (l.map Pr.a) l.length).map (.int .u64)) ∧ Below w.heap.size w w' := by
  have hl := hr.1
  have HS := Lib.hid h
  have hC := runCheck_any v l w h
  rw [if_pos hr] at hC
  have HC := Lib.hid hC
  obtain ⟨a, c, rfl, -⟩ := h.open
  clear h hr hC
  go_enter Try.func52, Try.ntmps52
  go_wp2_with fail
  refine HC.out.mono ?_
  rintro e w1 ⟨rfl, hb1⟩
  go_wp2_with fail
  refine (firstsG_any _ l _ (HS.out.later hb1) (by omega)).mono ?_
  rintro e w2 ⟨v2, rfl, ho2, hb2⟩
  go_wp2_with fail
  refine (compact_any v2 (l.map Pr.a) w1.heap.size w2 ho2 (by simpa using hl) hb2.size).mono ?_
  rintro e w3 ⟨v3, rfl, ho3, hb3⟩
  rw [List.length_map] at ho3
  go_wp2_with fail
  go_ret
  exact ⟨_, rfl, owns_down ho3 hb1.size, later_trans hb1 (hb2.trans hb3)⟩

set_option maxRecDepth 100000 in
theorem same_any (va vl vb vm : Value) (A B : List Br) (L M : List Int) (w : World) (hA : SlB w va A) (hL : SlI .u64 w vl L) (hB : SlB w vb B) (hM : SlI .u64 w vm M) (hAB : A = B) (hLM : L = M) :
    Calls Try.prog 54 #[.agg #[va, vl], .agg #[vb, vm]] w fun e w' => e = .returned (.bool true) ∧ Below w.heap.size w w' := by
  subst hAB
  subst hLM
  have HE := Lib.hid (fun V (hV : Below w.heap.size w V) => (equalB_any va vb A A V (hA.later hV) (hB.later hV)).mono (R' := fun e w' => e = .returned (.bool true) ∧ ∃ n, w' = V.drewN n) (by rintro e w' ⟨rfl, h⟩; exact ⟨by simp, h⟩))
  have HI := Lib.hid (fun V (hV : Below w.heap.size w V) => (equal_any vl vm L L V (hL.later hV) (hM.later hV)).mono (R' := fun e w' => e = .returned (.bool true) ∧ ∃ n, w' = V.drewN n) (by rintro e w' ⟨rfl, h⟩; exact ⟨by simp, h⟩))
  obtain ⟨a1, c1, rfl, -⟩ := hA.open
  obtain ⟨a2, c2, rfl, -⟩ := hL.open
  obtain ⟨a3, c3, rfl, -⟩ := hB.open
  obtain ⟨a4, c4, rfl, -⟩ := hM.open
  clear hA hL hB hM
  have hb0 := later_trans (later_alloc w (.cells #[.slice a1 A.length c1, .slice a2 L.length c2] 25)) (later_alloc _ (.cells #[.slice a3 A.length c3, .slice a4 L.length c4] 25))
  go_enter Try.func54, Try.ntmps54
  go_wp2_with fail
  refine (HE.out _ hb0).mono ?_
  rintro e w1 ⟨rfl, n1, rfl⟩
  go_wp2_with fail
  refine (HI.out _ (later_trans hb0 (later_drewN _ n1))).mono ?_
  rintro e w2 ⟨rfl, n2, rfl⟩
  go_wp2_with fail
  go_ret
  exact ⟨rfl, later_trans hb0 (later_drewN _ (n1 + n2))⟩
end Go.Proofs.Ytdfnfdgkhflonaa
