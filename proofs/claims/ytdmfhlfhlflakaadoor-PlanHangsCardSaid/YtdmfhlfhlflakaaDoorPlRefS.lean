/-
  The document's sizes of variables, and orders, walked.
-/
import Derived.Test.YtdmfhlfhlflakaaDoorPlRef20
import Derived.Test.YtdmfhlfhlflakaaDoorPlOrdP
import Derived.Deep.RegionHeld3
namespace Go.Proofs.YtdmfhlfhlflakaaDoor
open Go.RowKit
set_option linter.unusedVariables false
set_option linter.unusedSimpArgs false

set_option maxRecDepth 100000 in
set_option maxHeartbeats 4000000 in
theorem Size22_any (S : Shp) (ev sv : Value) (v : Int) (w : World) (h : ShR w ev sv S) (hok : shpB S = true) :
    Calls Tryd.prog 20 #[shpV S.many ev sv, .int .i64 v] w fun e w' => e = .returned (.int .i64 (refS S v)) ∧ Below w.heap.size w w' := by
  have hb0 := later_alloc w (.cells #[.int .i64 S.many, ev, sv] 27)
  have hS := h.later hb0
  have hl := shpB_len hok
  have h40 := (shpB_yes hok).2.2.1
  have hz0 : ∀ k m, leastTo S.edges v (fun i => S.sizes.getD i 0) k = some m → k ≤ S.edges.length → 0 ≤ m := by
    intro k m hk hke
    obtain ⟨i, hi, rfl⟩ := leastTo_in hk
    have hb : S.sizes.any (badB 1048576) = false := (shpB_yes hok).2.2.2.2
    have hi' : i < S.sizes.length := by omega
    have := List.any_eq_false.1 hb _ (List.getElem_mem hi')
    rw [getD_at hi']
    unfold badB at this
    simp only [Bool.or_eq_true, decide_eq_true_eq, not_or] at this
    omega
  obtain ⟨m, ls, zs⟩ := S
  have he := hS.edges
  have hs := hS.sizes
  simp only at he hs hl h40 hz0 ⊢
  have hres : refS ⟨m, ls, zs⟩ v = (leastTo ls v (fun i => zs.getD i 0) ls.length).getD (-1) := rfl
  rw [hres]
  obtain ⟨f, hf⟩ : ∃ f : Nat → Int, f = fun i => zs.getD i 0 := ⟨_, rfl⟩
  rw [← hf] at hz0 ⊢
  have HF := Lib.hid (And.intro he (And.intro hs (And.intro hl (And.intro hf hz0))))
  obtain ⟨ae, ce, rfl, -⟩ := he.open
  obtain ⟨az, cz, rfl, -⟩ := hs.open
  clear h hS hok he hs hz0 hf hres hl
  have HB := Lib.hid hb0
  clear hb0
  go_enter Tryd.func20, Tryd.ntmps20
  go_wp2_with fail
  go_loop [5, 12] (fun s i => ∃ k : Nat, k ≤ ls.length ∧ i = .int .i64 k ∧ s = .int .i64 ((leastTo ls v f k).getD (-1))) (fun _ i => ls.length - (intOf i).toNat)
  case atStart => exact ⟨0, Nat.zero_le _, rfl, rfl⟩
  case round =>
    obtain ⟨k, hk, rfl, rfl⟩ := hrel
    by_cases hlt : k < ls.length
    · obtain ⟨_, _, e1, _, _, _, g4⟩ := HF.out.1.open
      obtain ⟨be, oe, e2, _, gc⟩ := g4 (by omega)
      obtain ⟨rv, ce1, hrv⟩ := gc k hlt
      injection e1 with e1a e1b e1c
      subst e1a e1c
      subst e2
      have hkz : k < zs.length := by have := HF.out.2.2.1; omega
      obtain ⟨_, _, f1, _, _, _, f4⟩ := HF.out.2.1.open
      obtain ⟨bw, ow, f2, _, fc⟩ := f4 (by omega)
      have cw1 := fc k hkz
      rw [← getD_at hkz] at cw1
      injection f1 with f1a f1b f1c
      subst f1a f1c
      subst f2
      have HC := Lib.hid (Has_any rv _ v _ hrv)
      obtain ⟨ar, cr, rfl, -⟩ := hrv.open
      have hfk : f k = zs.getD k 0 := by rw [HF.out.2.2.2.1]
      obtain ⟨z, hz⟩ : ∃ z, zs.getD k 0 = z := ⟨_, rfl⟩
      rw [hz] at cw1 hfk
      have hkzI : (k : Int) < zs.length := by omega
      have HL := Lib.hid hlt
      clear gc g4 fc f4 hrv e1b f1b hkz hz
      by_cases hin : v ∈ rowN ls k
      · rw [decide_eq_true hin] at HC
        cases hq : leastTo ls v f k with
        | none =>
          have HR : Hid (leastTo ls v f (k + 1) = some z) := Lib.hid (by rw [leastTo_first hin hq, hfk])
          simp only [Option.getD_none]
          clear hin hq hfk
          go_wp2_with fail
          refine HC.out.mono ?_
          rintro e w2 ⟨rfl, rfl⟩
          go_wp2_with fail
          go_round
          case rel => exact ⟨k + 1, by omega, by go_num, by rw [HR.out]; rfl⟩
          case measure => simp [intOf]; omega
        | some q =>
          have hq0 : ¬ q < 0 := by have := HF.out.2.2.2.2 k q hq (by omega); omega
          simp only [Option.getD_some]
          by_cases hzq : z < q
          · have HR : Hid (leastTo ls v f (k + 1) = some z) := Lib.hid (by rw [leastTo_less hin hq (by rw [hfk]; exact hzq), hfk])
            clear hin hq hfk
            go_wp2_with fail
            refine HC.out.mono ?_
            rintro e w2 ⟨rfl, rfl⟩
            go_wp2_with fail
            go_round
            case rel => exact ⟨k + 1, by omega, by go_num, by rw [HR.out]; rfl⟩
            case measure => simp [intOf]; omega
          · have HR : Hid (leastTo ls v f (k + 1) = some q) := Lib.hid (by rw [leastTo_more hin hq (by rw [hfk]; exact hzq)])
            clear hin hq hfk
            go_wp2_with fail
            refine HC.out.mono ?_
            rintro e w2 ⟨rfl, rfl⟩
            go_wp2_with fail
            go_round
            case rel => exact ⟨k + 1, by omega, by go_num, by rw [HR.out]; rfl⟩
            case measure => simp [intOf]; omega
      · have HR : Hid (leastTo ls v f (k + 1) = leastTo ls v f k) := Lib.hid (leastTo_out hin)
        rw [decide_eq_false hin] at HC
        clear hin hfk
        obtain ⟨s, hs⟩ : ∃ s, (leastTo ls v f k).getD (-1) = s := ⟨_, rfl⟩
        rw [hs]
        have HQ := Lib.hid hs
        clear hs
        go_wp2_with fail
        refine HC.out.mono ?_
        rintro e w2 ⟨rfl, rfl⟩
        go_wp2_with fail
        go_round
        case rel => exact ⟨k + 1, by omega, by go_num, by rw [HR.out, HQ.out]⟩
        case measure => simp [intOf]; omega
    · obtain rfl : k = ls.length := by omega
      obtain ⟨s, hs⟩ : ∃ s, (leastTo ls v f ls.length).getD (-1) = s := ⟨_, rfl⟩
      rw [hs]
      have HQ := Lib.hid hs
      clear hs
      go_wp2_with fail
      go_ret
      exact ⟨ret_int HQ.out.symm, HB.out⟩

set_option maxRecDepth 100000 in
set_option maxHeartbeats 4000000 in
theorem Orders22_any (m : Int) (ev sv v : Value) (o : List Int) (w : World) (he : ∃ a n c, ev = .slice a n c) (hs : ∃ a n c, sv = .slice a n c) (ho : SlI .i64 w v o) :
    Calls Tryd.prog 23 #[shpV m ev sv, v] w fun e w' => e = .returned (.bool (ordersB m o)) ∧ Below w.heap.size w w' := by
  obtain ⟨ae, ne, ce, rfl⟩ := he
  obtain ⟨az, nz, cz, rfl⟩ := hs
  have hol := ho.len
  unfold maxLen at hol
  have hoL := SlI.later ho (later_alloc w (.cells #[.int .i64 m, .slice ae ne ce, .slice az nz cz] 27))
  have HB := Lib.hid (later_alloc w (.cells #[.int .i64 m, .slice ae ne ce, .slice az nz cz] 27))
  have HO := Lib.hid hoL
  obtain ⟨a, c, rfl, hoc, hoc2, -⟩ := ho.open
  clear ho hoL
  go_enter Tryd.func23, Tryd.ntmps23
  go_wp2_with fail
  go_loop [9] (fun i => ∃ k : Nat, k ≤ o.length ∧ i = .int .i64 k ∧ ∀ j, j < k → ordAt m o j = true) (fun i => o.length - (intOf i).toNat)
  case atStart => exact ⟨0, Nat.zero_le _, rfl, fun j hj => by omega⟩
  case round =>
    obtain ⟨k, hk, rfl, hs⟩ := hrel
    have HS := Lib.hid hs
    clear hs
    by_cases hlt : k < o.length
    · obtain ⟨_, _, e1, _, _, _, f4⟩ := HO.out.open
      obtain ⟨bo, oo, e2, hbo, fc⟩ := f4 (by omega)
      injection e1 with e1a e1b e1c
      subst e1a e1c
      subst e2
      have c1 := fc k hlt
      rw [← getD_at hlt] at c1
      have hord : ordAt m o k = (decide (0 ≤ o.getD k 0) && (decide (o.getD k 0 < m) && !decide (o.getD k 0 ∈ o.take k))) := rfl
      obtain ⟨x, hx⟩ : ∃ x, o.getD k 0 = x := ⟨_, rfl⟩
      rw [hx] at c1 hord
      have HC := Lib.hid (Has_any _ (o.take k) x _ (SlI.cut2 (k := .i64) HO.out hk))
      have hbad : ordAt m o k = false → Hid (ordersB m o = false) := fun h => Lib.hid (by
        unfold ordersB
        rw [cover_no hlt h, Bool.false_and])
      have HL := Lib.hid hlt
      clear f4 fc e1b hx
      by_cases h1 : x < 0
      · have HN := hbad (by rw [hord, decide_eq_false (show ¬ 0 ≤ x by omega)]; rfl)
        clear hbad hord
        go_wp2_with fail
        go_ret
        exact ⟨ret_bool HN.out.symm, HB.out⟩
      by_cases h2 : m ≤ x
      · have HN := hbad (by rw [hord, decide_eq_false (show ¬ x < m by omega), Bool.false_and, Bool.and_false])
        clear hbad hord
        go_wp2_with fail
        go_ret
        exact ⟨ret_bool HN.out.symm, HB.out⟩
      have hkc : k ≤ c := by omega
      have hkI : (k : Int) ≤ c := by omega
      by_cases h3 : x ∈ o.take k
      · have HN := hbad (by rw [hord, decide_eq_true h3, Bool.not_true, Bool.and_false, Bool.and_false])
        rw [decide_eq_true h3] at HC
        clear hbad hord h3
        go_wp2_with fail
        refine HC.out.mono ?_
        rintro e w2 ⟨rfl, rfl⟩
        go_wp2_with fail
        go_ret
        exact ⟨ret_bool HN.out.symm, HB.out⟩
      · have HY : Hid (ordAt m o k = true) := Lib.hid (by rw [hord, decide_eq_false h3, decide_eq_true (show 0 ≤ x by omega), decide_eq_true (show x < m by omega)]; rfl)
        rw [decide_eq_false h3] at HC
        clear hbad hord h3
        go_wp2_with fail
        refine HC.out.mono ?_
        rintro e w2 ⟨rfl, rfl⟩
        go_wp2_with fail
        go_round
        case rel => exact ⟨k + 1, by omega, by go_num, fun j hj => by
          by_cases e : j = k
          · subst e; exact HY.out
          · exact HS.out j (by omega)⟩
        case measure => simp [intOf]; omega
    · have hall : (List.range o.length).all (ordAt m o) = true := cover_yes fun j hj => HS.out j (by omega)
      have HA : Hid (ordersB m o = ((o.length : Int) == m)) := Lib.hid (by
        unfold ordersB
        rw [hall, Bool.true_and]
        by_cases e : (o.length : Int) = m
        · rw [decide_eq_true e]; exact (beq_iff_eq.2 e).symm
        · rw [decide_eq_false e]; exact (beq_eq_false_iff_ne.2 e).symm)
      clear hall
      go_wp2_with fail
      go_ret
      exact ⟨ret_bool HA.out.symm, HB.out⟩
end Go.Proofs.YtdmfhlfhlflakaaDoor
