/-
  plan.covers, Covers, walked.
-/
import Derived.Test.YtdmfhlfhlflakaaDoorPlLeast
namespace Go.Proofs.YtdmfhlfhlflakaaDoor
open Go.RowKit
set_option linter.unusedVariables false

/-- A cover. -/
structure Cov where
  ws : List Int
  of : Int
abbrev covV (wv : Value) (o : Int) : Value := .agg #[wv, .int .i64 o]
/-- The weights of the first k edges that have v, together. -/
def sumTo (es : List (List Int)) (ws : List Int) (v : Int) : Nat → Int
  | 0 => 0
  | k + 1 => if v ∈ rowN es k then sumTo es ws v k + ws.getD k 0 else sumTo es ws v k
def coverAt (es : List (List Int)) (c : Cov) (v : Nat) : Bool := decide (c.of ≤ sumTo es c.ws v es.length)
/-- Is it a cover? -/
def coversB (S : Shp) (c : Cov) : Bool :=
  decide (c.ws.length = S.edges.length) && (decide (1 ≤ c.of) && (!badB 16 c.of && (!c.ws.any (badB 16) && (List.range S.many.toNat).all (coverAt S.edges c))))

theorem sumTo_bound {es : List (List Int)} {ws : List Int} {v : Int} (h : ∀ i, i < ws.length → 0 ≤ ws.getD i 0 ∧ ws.getD i 0 ≤ 16) : ∀ k, k ≤ ws.length → 0 ≤ sumTo es ws v k ∧ sumTo es ws v k ≤ 16 * k
  | 0, _ => by simp [sumTo]
  | k + 1, hk => by
    have := sumTo_bound (es := es) (v := v) h k (by omega)
    have h1 := h k (by omega)
    unfold sumTo
    split <;> omega
theorem okWs {ws : List Int} (h : ws.any (badB 16) = false) : ∀ i, i < ws.length → 0 ≤ ws.getD i 0 ∧ ws.getD i 0 ≤ 16 := by
  intro i hi
  rw [List.any_eq_false] at h
  have := h _ (List.getElem_mem hi)
  rw [getD_at hi]
  unfold badB at this
  simp only [Bool.or_eq_true, decide_eq_true_eq, not_or] at this
  omega

/-- What covers asks first. -/
def coverPre (S : Shp) (c : Cov) : Bool := decide (c.ws.length = S.edges.length) && (decide (1 ≤ c.of) && (!badB 16 c.of && !c.ws.any (badB 16)))
theorem coversB_pre {S : Shp} {c : Cov} : coversB S c = (coverPre S c && (List.range S.many.toNat).all (coverAt S.edges c)) := by
  unfold coversB coverPre
  simp only [Bool.and_assoc]
theorem cover_yes {n : Nat} {p : Nat → Bool} (h : ∀ j, j < n → p j = true) : (List.range n).all p = true := by
  rw [List.all_eq_true]; exact fun j hj => h j (List.mem_range.1 hj)
theorem cover_no {n j : Nat} {p : Nat → Bool} (hj : j < n) (h : p j = false) : (List.range n).all p = false := by
  rw [List.all_eq_false]; exact ⟨j, List.mem_range.2 hj, by rw [h]; decide⟩

set_option maxRecDepth 100000 in
set_option maxHeartbeats 2000000 in
theorem covers_no (S : Shp) (c : Cov) (ev sv wv : Value) (w : World) (h : ShR w ev sv S) (hw : SlI .i64 w wv c.ws) (hp : coverPre S c = false) :
    Calls Tryd.prog 49 #[shpV S.many ev sv, covV wv c.of] w fun e w' => e = .returned (.bool false) ∧ Below w.heap.size w w' := by
  obtain ⟨m, ls, zs⟩ := S
  obtain ⟨ws, o⟩ := c
  have he := h.edges
  have hs := h.sizes
  simp only at he hs hw ⊢
  have hE : Enters 93 := enters_of Tryd.func93 (by kernel_rfl) rfl
  have hE' := hE
  unfold Enters at hE'
  have hB := fun W => badWeight_any o W
  have hA : ∀ W, Below w.heap.size w W → Calls Tryd.prog 46 #[wv, .func (.func 93) #[] #[]] W fun e w' => e = .returned (.bool (ws.any (badB 16))) ∧ Below W.heap.size W w' :=
    fun W hb => ContainsFunc_any hE (hw.later hb) fun x hx W' hb' => (badWeight_any x W').mono fun e w' ⟨h1, h2⟩ => ⟨h1, by rw [h2]; exact Below.refl _ _⟩
  have HA := Lib.hid hA
  have hl := he.len
  have hl2 := hw.len
  unfold maxLen at hl2
  obtain ⟨ae, ce, rfl, -⟩ := he.open
  obtain ⟨az, cz, rfl, -⟩ := hs.open
  obtain ⟨aw, cw, rfl, -⟩ := hw.open
  unfold coverPre at hp
  simp only at hp
  clear h he hs hw hA hE
  by_cases h1 : ws.length = ls.length
  · have hlen : ((ws.length : Int) != ls.length) = false := by rw [h1]; simp
    rw [decide_eq_true h1, Bool.true_and] at hp
    clear h1
    by_cases h2 : 1 ≤ o
    · have k2 : ¬ o < 1 := by omega
      rw [decide_eq_true h2, Bool.true_and] at hp
      by_cases h3 : badB 16 o = true
      · simp only [h3] at hB
        clear h3 hp
        go_enter Tryd.func49, Tryd.ntmps49
        go_wp2_with fail
        refine (hB _).mono ?_
        rintro e w1 ⟨rfl, rfl⟩
        go_wp2_with fail
        go_ret
        exact ⟨rfl, by go_grown⟩
      · have h3 := Bool.eq_false_iff.2 h3
        simp only [h3] at hB
        rw [h3, Bool.not_false, Bool.true_and] at hp
        have h4 : ws.any (badB 16) = true := by simpa using hp
        simp only [h4] at HA
        clear h3 hp h4
        go_enter Tryd.func49, Tryd.ntmps49
        go_wp2_with fail
        refine (hB _).mono ?_
        rintro e w1 ⟨rfl, rfl⟩
        go_wp2_with fail
        refine (HA.out _ (by go_grown)).mono ?_
        rintro e w1 ⟨rfl, hb1⟩
        go_wp2_with fail
        go_ret
        exact ⟨rfl, later_trans (later_alloc w _) (below_new hb1)⟩
    · have k2 : o < 1 := by omega
      clear hp
      go_enter Tryd.func49, Tryd.ntmps49
      go_wp2_with fail
      go_ret
      exact ⟨rfl, by go_grown⟩
  · have hlen : ((ws.length : Int) != ls.length) = true := by simp; omega
    clear h1 hp
    go_enter Tryd.func49, Tryd.ntmps49
    go_wp2_with fail
    go_ret
    exact ⟨rfl, by go_grown⟩

set_option maxRecDepth 100000 in
set_option maxHeartbeats 4000000 in
theorem covers_pre (S : Shp) (c : Cov) (ev sv wv : Value) (w : World) (h : ShR w ev sv S) (hw : SlI .i64 w wv c.ws) (hp : coverPre S c = true) (hm : 0 ≤ S.many) (hm' : S.many ≤ 32) (hls : S.edges.length ≤ 40) :
    Calls Tryd.prog 49 #[shpV S.many ev sv, covV wv c.of] w fun e w' => e = .returned (.bool (coversB S c)) ∧ Below w.heap.size w w' := by
  rw [coversB_pre, hp, Bool.true_and]
  obtain ⟨m, ls, zs⟩ := S
  obtain ⟨ws, o⟩ := c
  have he := h.edges
  have hs := h.sizes
  simp only at he hs hw hm hm' hls ⊢
  have hE : Enters 93 := enters_of Tryd.func93 (by kernel_rfl) rfl
  have hE' := hE
  unfold Enters at hE'
  have hB := fun W => badWeight_any o W
  have hA : ∀ W, Below w.heap.size w W → Calls Tryd.prog 46 #[wv, .func (.func 93) #[] #[]] W fun e w' => e = .returned (.bool (ws.any (badB 16))) ∧ Below W.heap.size W w' :=
    fun W hb => ContainsFunc_any hE (hw.later hb) fun x hx W' hb' => (badWeight_any x W').mono fun e w' ⟨h1, h2⟩ => ⟨h1, by rw [h2]; exact Below.refl _ _⟩
  unfold coverPre at hp
  simp only [Bool.and_eq_true, decide_eq_true_eq, Bool.not_eq_true'] at hp
  obtain ⟨h1, h2, h3, h4⟩ := hp
  have hwb := okWs h4
  have hob : 1 ≤ o ∧ o ≤ 16 := by
    unfold badB at h3
    simp only [Bool.or_eq_false_iff, decide_eq_false_iff_not] at h3
    omega
  have k2 : ¬ o < 1 := by omega
  simp only [h3] at hB
  simp only [h4] at hA
  have hlen : ((ws.length : Int) != ls.length) = false := by rw [h1]; simp
  obtain ⟨mn, rfl⟩ : ∃ mn : Nat, m = mn := ⟨m.toNat, by omega⟩
  rw [Int.toNat_natCast]
  have HH := Lib.hid (And.intro he (And.intro hw (And.intro hA (And.intro hwb h1))))
  have hlw : ws.length ≤ 40 := by omega
  have hmn : mn ≤ 32 := by omega
  obtain ⟨ae, ce, rfl, -⟩ := he.open
  obtain ⟨az, cz, rfl, -⟩ := hs.open
  obtain ⟨aw, cw, rfl, -⟩ := hw.open
  clear h he hs hw hA hE hwb h1 h2 h3 h4 hm hm'
  go_enter Tryd.func49, Tryd.ntmps49
  go_wp2_with fail
  refine (hB _).mono ?_
  rintro e w1 ⟨rfl, rfl⟩
  go_wp2_with fail
  refine (HH.out.2.2.1 _ (by go_grown)).mono ?_
  rintro e w1 ⟨rfl, hb1⟩
  have bS := kept hb1 (box_alloc (box_new w #[.int .i64 (mn : Int), .slice ae ls.length ce, .slice az zs.length cz] 27) _)
  have bC := new_kept hb1
  rw [World.size_alloc] at bC
  have s0 := box_cell (i := 0) bS
  have s1 := box_cell (i := 1) bS
  have c0 := box_cell (i := 0) bC
  have c1 := box_cell (i := 1) bC
  simp at s0 s1 c0 c1
  have HB := Lib.hid (later_trans (later_alloc w _) (below_new hb1))
  clear hb1 bS bC
  go_wp2_with fail
  go_loop [38] (fun i => ∃ k : Nat, k ≤ mn ∧ i = .int .i64 k ∧ ∀ j, j < k → coverAt ls ⟨ws, o⟩ j = true) (fun i => mn - (intOf i).toNat)
  case atStart => exact ⟨0, Nat.zero_le _, rfl, fun j hj => by omega⟩
  case round =>
    obtain ⟨k, hk, rfl, hs⟩ := hrel
    have HS := Lib.hid hs
    clear hs
    by_cases hlt : k < mn
    · go_wp2_with fail
      go_loop [7, 45] (fun s i => ∃ j : Nat, j ≤ ls.length ∧ i = .int .i64 j ∧ s = .int .i64 (sumTo ls ws k j)) (fun _ i => ls.length - (intOf i).toNat)
      case atStart => exact ⟨0, Nat.zero_le _, rfl, rfl⟩
      case round =>
        obtain ⟨j, hj, rfl, rfl⟩ := hrel
        have hsb := sumTo_bound (es := ls) (v := k) HH.out.2.2.2.1 j (by have := HH.out.2.2.2.2; omega)
        by_cases hjl : j < ls.length
        · obtain ⟨_, _, e1, _, _, _, g4⟩ := (HH.out.1.later HB.out).open
          obtain ⟨be, oe, e2, _, gc⟩ := g4 (by omega)
          obtain ⟨rv, ce1, hrv⟩ := gc j hjl
          injection e1 with e1a e1b e1c
          subst e1a e1c
          subst e2
          obtain ⟨_, _, f1, _, _, _, f4⟩ := (HH.out.2.1.later HB.out).open
          have hjw : j < ws.length := by have := HH.out.2.2.2.2; omega
          obtain ⟨bw, ow, f2, _, fc⟩ := f4 (by omega)
          have cw1 := fc j hjw
          rw [← getD_at hjw] at cw1
          injection f1 with f1a f1b f1c
          subst f1a f1c
          subst f2
          have HC := Lib.hid (Contains_any rv _ (k : Int) _ hrv)
          obtain ⟨ar, cr, rfl, -⟩ := hrv.open
          have hwj := HH.out.2.2.2.1 j hjw
          have HJ := Lib.hid hjw
          have hjwI : (j : Int) < ws.length := by omega
          clear gc g4 fc f4 hrv e1b f1b hjw
          by_cases hin : (k : Int) ∈ rowN ls j
          · have HR : Hid (sumTo ls ws k (j + 1) = sumTo ls ws k j + ws.getD j 0) := Lib.hid (by
              show (if (k : Int) ∈ rowN ls j then _ else _) = _
              rw [if_pos hin])
            rw [decide_eq_true hin] at HC
            clear hin
            generalize sumTo ls ws k j = s at *
            generalize ws.getD j 0 = y at *
            go_wp2_with fail
            refine HC.out.mono ?_
            rintro e w2 ⟨rfl, rfl⟩
            go_wp2_with fail
            go_round
            case rel => exact ⟨j + 1, by omega, by go_num, by rw [HR.out]⟩
            case measure => simp [intOf]; omega
          · have HR : Hid (sumTo ls ws k (j + 1) = sumTo ls ws k j) := Lib.hid (by
              show (if (k : Int) ∈ rowN ls j then _ else _) = _
              rw [if_neg hin])
            rw [decide_eq_false hin] at HC
            clear hin
            generalize sumTo ls ws k j = s at *
            go_wp2_with fail
            refine HC.out.mono ?_
            rintro e w2 ⟨rfl, rfl⟩
            go_wp2_with fail
            go_round
            case rel => exact ⟨j + 1, by omega, by go_num, by rw [HR.out]⟩
            case measure => simp [intOf]; omega
        · obtain rfl : j = ls.length := by omega
          obtain ⟨s, hs⟩ : ∃ s, sumTo ls ws k ls.length = s := ⟨_, rfl⟩
          rw [hs] at hsb ⊢
          have HSum := Lib.hid hs
          clear hs
          by_cases hso : s < o
          · have HN : Hid ((List.range mn).all (coverAt ls ⟨ws, o⟩) = false) := Lib.hid (cover_no hlt (by
              unfold coverAt
              simp only
              rw [HSum.out]
              exact decide_eq_false (by omega)))
            go_wp2_with fail
            go_ret
            exact ⟨ret_bool HN.out.symm, HB.out⟩
          · have HY : Hid (coverAt ls ⟨ws, o⟩ k = true) := Lib.hid (by
              unfold coverAt
              simp only
              rw [HSum.out]
              exact decide_eq_true (by omega))
            go_wp2_with fail
            go_round
            case rel => exact ⟨k + 1, by omega, by go_num, fun j hj => by
              by_cases e : j = k
              · subst e; exact HY.out
              · exact HS.out j (by omega)⟩
            case measure => simp [intOf]; omega
    · have HY : Hid ((List.range mn).all (coverAt ls ⟨ws, o⟩) = true) := Lib.hid (cover_yes fun j hj => HS.out j (by omega))
      go_wp2_with fail
      go_ret
      exact ⟨ret_bool HY.out.symm, HB.out⟩
end Go.Proofs.YtdmfhlfhlflakaaDoor
