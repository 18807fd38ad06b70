/-
  The document's functions Has and Right (hypergraphs, shapes), walked.
-/
import Derived.Test.YtdmfhlfhlflakaaDoorPlBnd
namespace Go.Proofs.YtdmfhlfhlflakaaDoor
open Go.RowKit
set_option linter.unusedVariables false
set_option linter.unusedSimpArgs false

set_option maxHeartbeats 400000 in
/-- Has: does a row have a number? It only reads. -/
theorem Has_any (v : Value) (xs : List Int) (x : Int) (w : World) (h : SlI .i64 w v xs) :
    Calls Tryd.prog 59 #[v, .int .i64 x] w fun e w' => e = .returned (.bool (decide (x ∈ xs))) ∧ w' = w := by
  obtain ⟨a, c, rfl, h1, h2, h3, h4⟩ := h.open
  have HX := Lib.hid h4
  have hm : xs.length ≤ 9223372036854775807 := by omega
  clear h h1 h2 h3 h4
  go_enter Tryd.func59, Tryd.ntmps59
  go_wp2
  go_loop [9] (fun i => ∃ k : Nat, k ≤ xs.length ∧ i = .int .i64 k ∧ ∀ j, j < k → xs.getD j 0 ≠ x) (fun i => xs.length - (intOf i).toNat)
  case atStart => exact ⟨0, Nat.zero_le _, rfl, fun j hj => by omega⟩
  case round =>
    obtain ⟨k, hk, rfl, hs⟩ := hrel
    have HS := Lib.hid hs
    clear hs
    by_cases hlt : k < xs.length
    · obtain ⟨b, o, rfl, hb, hc⟩ := HX.out (by omega)
      have c1 := hc k hlt
      have HM := Lib.hid (List.getElem_mem hlt)
      rw [← getD_at hlt] at c1
      have HG := Lib.hid (getD_at hlt)
      obtain ⟨y, hy⟩ : ∃ y, xs.getD k 0 = y := ⟨_, rfl⟩
      rw [hy] at c1
      have HY := Lib.hid hy
      clear hc hy
      by_cases hxy : y = x
      · have e : Hid (decide (x ∈ xs) = true) := Lib.hid (decide_eq_true (by rw [← hxy, ← HY.out, HG.out]; exact HM.out))
        have hb1 : (y == x) = true := by rw [beq_iff_eq]; exact hxy
        clear hxy
        go_wp2
        go_ret
        exact ⟨ret_bool e.out.symm, rfl⟩
      · have hb1 : (y == x) = false := by rw [beq_eq_false_iff_ne]; exact hxy
        go_wp2
        go_round
        case rel => exact ⟨k + 1, by omega, by go_num, fun j hj => by
          by_cases e : j = k
          · subst e; rw [HY.out]; exact hxy
          · exact HS.out j (by omega)⟩
        case measure => simp [intOf]; omega
    · have e : Hid (decide (x ∈ xs) = false) := Lib.hid (decide_eq_false fun hm => by
        obtain ⟨j, hj, e⟩ := List.getElem_of_mem hm
        exact HS.out j (by omega) (by rw [getD_at hj]; exact e))
      go_wp2
      go_ret
      exact ⟨ret_bool e.out.symm, rfl⟩

theorem three_of' {W : World} {X : Nat} {u0 u1 u2 : Value} {t : TypeId} (h : W.heap[X]? = some (.cells #[u0, u1, u2] t (0, 0))) : W.cell? ⟨X, 0, none⟩ = some u0 ∧ W.cell? ⟨X, 1, none⟩ = some u1 ∧ W.cell? ⟨X, 2, none⟩ = some u2 ∧ W.frozen? ⟨X, 0, none⟩ = false ∧ W.frozen? ⟨X, 1, none⟩ = false ∧ W.frozen? ⟨X, 2, none⟩ = false ∧ X < W.heap.size :=
  ⟨box_cell (i := 0) h, box_cell (i := 1) h, box_cell (i := 2) h, box_frozen h, box_frozen h, box_frozen h, lt_of_block h⟩
/-- May an element stand where it stands? -/
def elOk (m : Int) (e : List Int) (j : Nat) : Bool := (decide (0 ≤ e.getD j 0) && decide (e.getD j 0 < m)) && riseI e j (e.getD j 0)
theorem edge_yes {m : Int} {e : List Int} (h : ∀ j, j < e.length → elOk m e j = true) : edgeB m e = true := by
  unfold edgeB vertsB
  rw [allI_yes (fun j hj => ?_), allI_yes (fun j hj => ?_)]
  · rfl
  · have := h j hj
    unfold elOk at this
    simp only [Bool.and_eq_true] at this ⊢
    exact this.2
  · have := h j hj
    unfold elOk at this
    simp only [Bool.and_eq_true] at this ⊢
    exact this.1
theorem edge_no {m : Int} {e : List Int} {j : Nat} (hj : j < e.length) (h : elOk m e j = false) : edgeB m e = false := by
  unfold edgeB vertsB
  unfold elOk at h
  rw [Bool.and_eq_false_iff] at h
  rcases h with h | h
  · rw [allI_no hj h, Bool.false_and]
  · rw [allI_no hj h, Bool.and_false]

set_option maxRecDepth 100000 in
set_option maxHeartbeats 4000000 in
/-- Right: may a hypergraph be? -/
theorem Right20_any (m : Int) (ev : Value) (ls : List (List Int)) (w : World) (h : SlRK .i64 w ev ls) :
    Calls Tryd.prog 54 #[hypV m ev] w fun e w' => e = .returned (.bool (hypB m ls)) ∧ Below w.heap.size w w' := by
  have H := Lib.hid (h.later (later_alloc w (.cells #[.int .i64 m, ev] 24)))
  have hl := h.len
  obtain ⟨ae, ce, rfl, -⟩ := h.open
  clear h
  by_cases h1 : m < 0
  · rw [show hypB m ls = false from by unfold hypB sizesB; rw [decide_eq_false (show ¬ 0 ≤ m by omega)]; simp]
    go_enter Tryd.func54, Tryd.ntmps54
    go_wp2
    go_ret
    exact ⟨rfl, later_alloc _ _⟩
  by_cases h2 : 32 < m
  · rw [show hypB m ls = false from by unfold hypB sizesB; rw [decide_eq_false (show ¬ m ≤ 32 by omega)]; simp]
    go_enter Tryd.func54, Tryd.ntmps54
    go_wp2
    go_ret
    exact ⟨rfl, later_alloc _ _⟩
  by_cases h3 : 40 < ls.length
  · have h3i : (40 : Int) < ls.length := by omega
    rw [show hypB m ls = false from by unfold hypB sizesB; rw [decide_eq_false (show ¬ (ls.length : Int) ≤ 40 by omega)]; simp]
    go_enter Tryd.func54, Tryd.ntmps54
    go_wp2
    go_ret
    exact ⟨rfl, later_alloc _ _⟩
  have hB : hypB m ls = (List.range ls.length).all fun i => edgeB m (rowN ls i) := by
    unfold hypB sizesB allR
    rw [decide_eq_true (show 0 ≤ m by omega), decide_eq_true (show m ≤ 32 by omega), decide_eq_true (show (ls.length : Int) ≤ 40 by omega)]; rfl
  rw [hB]
  have h40 : ls.length ≤ 40 := by omega
  have h40i : ¬ (40 : Int) < ls.length := by omega
  clear hB h3
  go_enter Tryd.func54, Tryd.ntmps54
  go_wp2
  go_loop [24] (fun i => ∃ k : Nat, k ≤ ls.length ∧ i = .int .i64 k ∧ ∀ j, j < k → edgeB m (rowN ls j) = true) (fun i => ls.length - (intOf i).toNat)
  case atStart => exact ⟨0, Nat.zero_le _, rfl, fun j hj => by omega⟩
  case round =>
    obtain ⟨k, hk, rfl, hs⟩ := hrel
    have HS := Lib.hid hs
    clear hs
    by_cases hlt : k < ls.length
    · obtain ⟨_, _, e1, _, _, _, g4⟩ := H.out.open
      obtain ⟨be, oe, e2, _, gc⟩ := g4 (by omega)
      obtain ⟨rv, ce1, hrv⟩ := gc k hlt
      injection e1 with e1a e1b e1c
      subst e1a e1c
      subst e2
      obtain ⟨xs, hxs⟩ : ∃ xs, rowN ls k = xs := ⟨_, rfl⟩
      rw [hxs] at hrv
      obtain ⟨a, c, rfl, s1, s2, s3, s4⟩ := hrv.open
      have HR := Lib.hid (And.intro s4 (And.intro hxs hlt))
      have hxl : xs.length ≤ 9223372036854775807 := by omega
      clear gc g4 e1b hrv s1 s2 s3 s4 hxs
      go_wp2
      go_loop [30] (fun i => ∃ j : Nat, j ≤ xs.length ∧ i = .int .i64 j ∧ ∀ q, q < j → elOk m xs q = true) (fun i => xs.length - (intOf i).toNat)
      case atStart => exact ⟨0, Nat.zero_le _, rfl, fun j hj => by omega⟩
      case round =>
        obtain ⟨j, hj, rfl, hq⟩ := hrel
        have HQ := Lib.hid hq
        clear hq
        by_cases hjl : j < xs.length
        · obtain ⟨b, o, rfl, hb, hc⟩ := HR.out.1 (by omega)
          have c1 := hc j hjl
          rw [← getD_at hjl] at c1
          have HE : Hid (elOk m xs j = ((decide (0 ≤ xs.getD j 0) && decide (xs.getD j 0 < m)) && riseI xs j (xs.getD j 0))) := Lib.hid rfl
          obtain ⟨y, hy⟩ : ∃ y, xs.getD j 0 = y := ⟨_, rfl⟩
          rw [hy] at c1 HE
          have HN : Hid (elOk m xs j = false → (List.range ls.length).all (fun i => edgeB m (rowN ls i)) = false) := Lib.hid (fun e => cover_no HR.out.2.2 (by rw [HR.out.2.1]; exact edge_no hjl e))
          have HJ := Lib.hid hjl
          by_cases y1 : y < 0
          · have HF := Lib.hid (HN.out (by rw [HE.out, decide_eq_false (show ¬ 0 ≤ y by omega)]; rfl))
            clear hc hy
            go_wp2
            go_ret
            exact ⟨ret_bool HF.out.symm, later_alloc _ _⟩
          by_cases y2 : m ≤ y
          · have HF := Lib.hid (HN.out (by rw [HE.out, decide_eq_false (show ¬ y < m by omega), Bool.and_false]; rfl))
            clear hc hy
            go_wp2
            go_ret
            exact ⟨ret_bool HF.out.symm, later_alloc _ _⟩
          by_cases y3 : j = 0
          · have HY : Hid (elOk m xs j = true) := Lib.hid (by
              rw [HE.out, decide_eq_true (show 0 ≤ y by omega), decide_eq_true (show y < m by omega)]
              unfold riseI
              rw [decide_eq_true y3]; rfl)
            subst y3
            rw [Nat.add_zero] at c1
            clear hc hy
            go_wp2
            go_round
            case rel => exact ⟨1, by omega, by go_num, fun q hq => by
              obtain rfl : q = 0 := by omega
              exact HY.out⟩
            case measure => simp [intOf]; omega
          obtain ⟨i, hi⟩ : ∃ i, j = i + 1 := ⟨j - 1, by omega⟩
          have c2 := hc i (by omega)
          rw [← getD_at (by omega)] at c2
          obtain ⟨p, hp⟩ : ∃ p, xs.getD i 0 = p := ⟨_, rfl⟩
          rw [hp] at c2
          have hri : riseI xs j y = decide (p < y) := by
            unfold riseI
            rw [decide_eq_false y3, Bool.false_or, hi, Nat.add_sub_cancel, hp]
          have hw : (j : Int) - 1 = (i : Int) := by omega
          have hi1 : (i : Int) < xs.length := by omega
          have hj1 : (1 : Int) ≤ j := by omega
          have hjp : 0 < j := by omega
          have hjpI : (0 : Int) < j := by omega
          have hj2 : (j : Int) ≤ 9223372036854775807 := by omega
          by_cases y4 : y ≤ p
          · have HF := Lib.hid (HN.out (by rw [HE.out, hri, decide_eq_false (show ¬ p < y by omega), Bool.and_false]))
            clear hc hy hp hri hi y3
            go_wp2
            go_ret
            exact ⟨ret_bool HF.out.symm, later_alloc _ _⟩
          · have HY : Hid (elOk m xs j = true) := Lib.hid (by
              rw [HE.out, hri, decide_eq_true (show 0 ≤ y by omega), decide_eq_true (show y < m by omega), decide_eq_true (show p < y by omega)]; rfl)
            clear hc hy hp hri hi y3
            go_wp2
            go_round
            case rel => exact ⟨j + 1, by have := HJ.out; omega, by go_num, fun q hq => by
              by_cases e : q = j
              · subst e; exact HY.out
              · exact HQ.out q (by omega)⟩
            case measure => simp [intOf]; omega
        · have HY : Hid (edgeB m (rowN ls k) = true) := Lib.hid (by
            rw [HR.out.2.1]
            exact edge_yes fun q hq => HQ.out q (by omega))
          go_wp2
          go_round
          case rel => exact ⟨k + 1, by omega, by go_num, fun j hj => by
            by_cases e : j = k
            · subst e; exact HY.out
            · exact HS.out j (by omega)⟩
          case measure => simp [intOf]; omega
    · have HY : Hid ((List.range ls.length).all (fun i => edgeB m (rowN ls i)) = true) := Lib.hid (cover_yes fun j hj => HS.out j (by omega))
      go_wp2
      go_ret
      exact ⟨ret_bool HY.out.symm, later_alloc _ _⟩

set_option maxRecDepth 100000 in
set_option maxHeartbeats 4000000 in
/-- Right: may a shape be? -/
theorem Right22_any (S : Shp) (ev sv : Value) (w : World) (h : ShR w ev sv S) :
    Calls Tryd.prog 17 #[shpV S.many ev sv] w fun e w' => e = .returned (.bool (shpB S)) ∧ Below w.heap.size w w' := by
  have hb0 := later_alloc w (.cells #[.int .i64 S.many, ev, sv] 27)
  have hR := Right20_any S.many ev S.edges _ (h.edges.later hb0)
  have HS := Lib.hid h.sizes
  have hbx := box_new w #[.int .i64 S.many, ev, sv] 27
  have hel := h.edges.len
  have hsl := h.sizes.len
  unfold maxLen at hsl
  obtain ⟨ae, ce, rfl, -⟩ := h.edges.open
  obtain ⟨az, cz, rfl, -⟩ := h.sizes.open
  have HB := Lib.hid (And.intro hb0 hbx)
  obtain ⟨m, ls, zs⟩ := S
  simp only at hR HS HB hel hsl ⊢
  clear h hb0 hbx
  by_cases hy : hypB m ls = true
  · rw [hy] at hR
    have HR := Lib.hid hR
    by_cases hle : zs.length = ls.length
    · have hlen : ((zs.length : Int) != ls.length) = false := by rw [hle]; simp
      have hS : shpB ⟨m, ls, zs⟩ = (List.range zs.length).all fun i => !badB 1048576 (zs.getD i 0) := by
        unfold shpB
        simp only
        rw [hy, decide_eq_true hle, Bool.true_and, Bool.true_and]
        by_cases ha : zs.any (badB 1048576) = true
        · obtain ⟨x, hx, hb⟩ := List.any_eq_true.1 ha
          obtain ⟨j, hj, rfl⟩ := List.getElem_of_mem hx
          rw [ha, cover_no hj (by rw [getD_at hj, hb]; rfl)]; rfl
        · rw [Bool.eq_false_iff.2 ha]
          refine (cover_yes fun j hj => ?_).symm
          have := List.any_eq_false.1 (Bool.eq_false_iff.2 ha) _ (List.getElem_mem hj)
          rw [getD_at hj, Bool.eq_false_iff.2 this]; rfl
      rw [hS]
      clear hR hy hS hle
      go_enter Tryd.func17, Tryd.ntmps17
      go_wp2_with fail
      refine HR.out.mono ?_
      rintro e w1 ⟨rfl, hb1⟩
      obtain ⟨c0, c1, c2, -, -, -, lS⟩ := three_of' (kept hb1 HB.out.2)
      have H1 := Lib.hid (later_trans HB.out.1 hb1)
      clear hb1
      go_wp2_with fail
      go_loop [22] (fun i => ∃ k : Nat, k ≤ zs.length ∧ i = .int .i64 k ∧ ∀ j, j < k → (!badB 1048576 (zs.getD j 0)) = true) (fun i => zs.length - (intOf i).toNat)
      case atStart => exact ⟨0, Nat.zero_le _, rfl, fun j hj => by omega⟩
      case round =>
        obtain ⟨k, hk, rfl, hs⟩ := hrel
        have HQ := Lib.hid hs
        clear hs
        by_cases hlt : k < zs.length
        · obtain ⟨_, _, e1, _, _, _, g4⟩ := (HS.out.later H1.out).open
          obtain ⟨be, oe, e2, _, gc⟩ := g4 (by omega)
          injection e1 with e1a e1b e1c
          subst e1a e1c
          subst e2
          have cz1 := gc k hlt
          rw [← getD_at hlt] at cz1
          have HL := Lib.hid hlt
          have HE : Hid (badB 1048576 (zs.getD k 0) = (decide (zs.getD k 0 < 0) || decide (1048576 < zs.getD k 0))) := Lib.hid rfl
          obtain ⟨z, hz⟩ : ∃ z, zs.getD k 0 = z := ⟨_, rfl⟩
          have HN : Hid (badB 1048576 z = true → (List.range zs.length).all (fun i => !badB 1048576 (zs.getD i 0)) = false) := Lib.hid (fun e => cover_no hlt (by rw [hz, e]; rfl))
          have HZ := Lib.hid hz
          rw [hz] at cz1 HE
          clear gc g4 e1b hz
          by_cases z1 : z < 0
          · have HF := Lib.hid (HN.out (by rw [HE.out, decide_eq_true z1]; rfl))
            go_wp2_with fail
            go_ret
            exact ⟨ret_bool HF.out.symm, H1.out⟩
          by_cases z2 : 1048576 < z
          · have HF := Lib.hid (HN.out (by rw [HE.out, decide_eq_true z2, Bool.or_true]))
            go_wp2_with fail
            go_ret
            exact ⟨ret_bool HF.out.symm, H1.out⟩
          have HY : Hid ((!badB 1048576 (zs.getD k 0)) = true) := Lib.hid (by rw [HZ.out, HE.out, decide_eq_false z1, decide_eq_false z2]; rfl)
          go_wp2_with fail
          go_round
          case rel => exact ⟨k + 1, by omega, by go_num, fun j hj => by
            by_cases e : j = k
            · subst e; exact HY.out
            · exact HQ.out j (by omega)⟩
          case measure => simp [intOf]; omega
        · have HY : Hid ((List.range zs.length).all (fun i => !badB 1048576 (zs.getD i 0)) = true) := Lib.hid (cover_yes fun j hj => HQ.out j (by omega))
          go_wp2_with fail
          go_ret
          exact ⟨ret_bool HY.out.symm, H1.out⟩
    · have hlen : ((zs.length : Int) != ls.length) = true := by rw [bne_iff_ne]; omega
      rw [show shpB ⟨m, ls, zs⟩ = false from by unfold shpB; simp only; rw [decide_eq_false hle]; simp]
      clear hR hy hle
      go_enter Tryd.func17, Tryd.ntmps17
      go_wp2_with fail
      refine HR.out.mono ?_
      rintro e w1 ⟨rfl, hb1⟩
      obtain ⟨c0, c1, c2, -, -, -, lS⟩ := three_of' (kept hb1 HB.out.2)
      have H1 := Lib.hid (later_trans HB.out.1 hb1)
      clear hb1
      go_wp2_with fail
      go_ret
      exact ⟨rfl, H1.out⟩
  · have hyf := Bool.eq_false_iff.2 hy
    rw [hyf] at hR
    have HR := Lib.hid hR
    rw [show shpB ⟨m, ls, zs⟩ = false from by unfold shpB; simp only; rw [hyf]; rfl]
    clear hR hy hyf
    go_enter Tryd.func17, Tryd.ntmps17
    go_wp2_with fail
    refine HR.out.mono ?_
    rintro e w1 ⟨rfl, hb1⟩
    have H1 := Lib.hid (later_trans HB.out.1 hb1)
    clear hb1
    go_wp2_with fail
    go_ret
    exact ⟨rfl, H1.out⟩
end Go.Proofs.YtdmfhlfhlflakaaDoor
