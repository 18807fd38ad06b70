/-
  The document's order that is chosen, walked.
-/
import Derived.Test.YtdmfhlfhlflakaaDoorPlRefS
namespace Go.Proofs.YtdmfhlfhlflakaaDoor
open Go.RowKit
set_option linter.unusedVariables false
set_option linter.unusedSimpArgs false

/-- Has an edge the variable and one of others? -/
def togE (T : List Int) (v : Int) (e : List Int) : Bool := decide (v ∈ e) && T.any fun w => decide (w ∈ e)
theorem near_togE (S : Shp) (T : List Int) (v : Int) : nearB S T v = S.edges.any (togE T v) := by
  unfold nearB togE
  congr 1
  funext e
  rw [meetsB_swap]

set_option maxRecDepth 100000 in
set_option maxHeartbeats 4000000 in
theorem together_any (S : Shp) (ev sv tv : Value) (v : Int) (T : List Int) (w : World) (h : ShR w ev sv S) (ht : SlI .i64 w tv T) :
    Calls Tryd.prog 106 #[shpV S.many ev sv, .int .i64 v, tv] w fun e w' => e = .returned (.bool (nearB S T v)) ∧ Below w.heap.size w w' := by
  rw [near_togE]
  have hb0 := later_alloc w (.cells #[.int .i64 S.many, ev, sv] 27)
  have hS := h.later hb0
  have hT := SlI.later ht hb0
  obtain ⟨m, ls, zs⟩ := S
  have he := hS.edges
  have hs := hS.sizes
  have htl := hT.len
  unfold maxLen at htl
  simp only at he hs ⊢
  have hel := he.len
  have HF := Lib.hid (And.intro he hT)
  obtain ⟨ae, ce, rfl, -⟩ := he.open
  obtain ⟨az, cz, rfl, -⟩ := hs.open
  obtain ⟨at', ct, rfl, -⟩ := hT.open
  clear h hS he hs hT ht
  have HB := Lib.hid hb0
  clear hb0
  go_enter Tryd.func106, Tryd.ntmps106
  go_wp2_with fail
  go_loop [15] (fun i => ∃ k : Nat, k ≤ ls.length ∧ i = .int .i64 k ∧ ∀ j, j < k → togE T v (rowN ls j) = false) (fun i => ls.length - (intOf i).toNat)
  case atStart => exact ⟨0, Nat.zero_le _, rfl, fun j hj => by omega⟩
  case round =>
    obtain ⟨k, hk, rfl, hs⟩ := hrel
    have HS := Lib.hid hs
    clear hs
    by_cases hlt : k < ls.length
    · obtain ⟨_, _, e1, _, _, _, g4⟩ := HF.out.1.open
      obtain ⟨be, oe, e2, _, gc⟩ := g4 (by omega)
      obtain ⟨rv, ce1, hrv⟩ := gc k hlt
      injection e1 with e1a e1b e1c
      subst e1a e1c
      subst e2
      have HC := Lib.hid (Has_any rv _ v _ hrv)
      have HRv := Lib.hid hrv
      obtain ⟨ar, cr, rfl, -⟩ := hrv.open
      have HL := Lib.hid hlt
      clear gc g4 hrv e1b
      by_cases hin : v ∈ rowN ls k
      · have HI := Lib.hid hin
        rw [decide_eq_true hin] at HC
        clear hin
        go_wp2_with fail
        refine HC.out.mono ?_
        rintro e w2 ⟨rfl, rfl⟩
        go_wp2_with fail
        go_loop [25] (fun i => ∃ j : Nat, j ≤ T.length ∧ i = .int .i64 j ∧ ∀ q, q < j → ¬ T.getD q 0 ∈ rowN ls k) (fun i => T.length - (intOf i).toNat)
        case atStart => exact ⟨0, Nat.zero_le _, rfl, fun j hj => by omega⟩
        case round =>
          obtain ⟨j, hj, rfl, hq⟩ := hrel
          have HQ := Lib.hid hq
          clear hq
          by_cases hjl : j < T.length
          · obtain ⟨_, _, f1, _, _, _, f4⟩ := HF.out.2.open
            obtain ⟨bw, ow, f2, _, fc⟩ := f4 (by omega)
            have cw1 := fc j hjl
            have HM := Lib.hid (List.getElem_mem hjl)
            have HG := Lib.hid (getD_at hjl)
            rw [← getD_at hjl] at cw1
            injection f1 with f1a f1b f1c
            subst f1a f1c
            subst f2
            obtain ⟨x, hx⟩ : ∃ x, T.getD j 0 = x := ⟨_, rfl⟩
            rw [hx] at cw1
            have HX := Lib.hid hx
            have HC2 := Lib.hid (Has_any _ _ x _ HRv.out)
            clear fc f4 f1b hx
            by_cases hxin : x ∈ rowN ls k
            · have HY : Hid (ls.any (togE T v) = true) := Lib.hid (List.any_eq_true.2 ⟨rowN ls k, rowN_mem HL.out, by
                unfold togE
                rw [decide_eq_true HI.out, Bool.true_and, List.any_eq_true]
                exact ⟨_, HM.out, decide_eq_true (by rw [← HG.out, HX.out]; exact hxin)⟩⟩)
              rw [decide_eq_true hxin] at HC2
              clear hxin
              go_wp2_with fail
              refine HC2.out.mono ?_
              rintro e w2 ⟨rfl, rfl⟩
              go_wp2_with fail
              go_ret
              exact ⟨ret_bool HY.out.symm, HB.out⟩
            · have HN := Lib.hid hxin
              rw [decide_eq_false hxin] at HC2
              clear hxin
              go_wp2_with fail
              refine HC2.out.mono ?_
              rintro e w2 ⟨rfl, rfl⟩
              go_wp2_with fail
              go_round
              case rel => exact ⟨j + 1, by omega, by go_num, fun q hq => by
                by_cases e : q = j
                · subst e; rw [HX.out]; exact HN.out
                · exact HQ.out q (by omega)⟩
              case measure => simp [intOf]; omega
          · have HY : Hid (togE T v (rowN ls k) = false) := Lib.hid (by
              unfold togE
              rw [Bool.and_eq_false_iff]
              refine .inr (List.any_eq_false.2 fun x hx => ?_)
              obtain ⟨q, hq, rfl⟩ := List.getElem_of_mem hx
              have := HQ.out q (by omega)
              rw [getD_at hq] at this
              simpa using this)
            go_wp2_with fail
            go_round
            case rel => exact ⟨k + 1, by have := HL.out; omega, by go_num, fun j hj => by
              by_cases e : j = k
              · subst e; exact HY.out
              · exact HS.out j (by omega)⟩
            case measure => simp [intOf]; have := HL.out; omega
      · have HY : Hid (togE T v (rowN ls k) = false) := Lib.hid (by unfold togE; rw [decide_eq_false hin]; rfl)
        rw [decide_eq_false hin] at HC
        clear hin
        go_wp2_with fail
        refine HC.out.mono ?_
        rintro e w2 ⟨rfl, rfl⟩
        go_wp2_with fail
        go_round
        case rel => exact ⟨k + 1, by have := HL.out; omega, by go_num, fun j hj => by
          by_cases e : j = k
          · subst e; exact HY.out
          · exact HS.out j (by omega)⟩
        case measure => simp [intOf]; have := HL.out; omega
    · have HY : Hid (ls.any (togE T v) = false) := Lib.hid (List.any_eq_false.2 fun e he => by
        obtain ⟨j, hj, rfl⟩ := List.getElem_of_mem he
        have := HS.out j (by omega)
        rw [rowN_at hj] at this
        rw [this]; decide)
      go_wp2_with fail
      go_ret
      exact ⟨ret_bool HY.out.symm, HB.out⟩

theorem ahead_lit {a b : Int} {q : Bool} (h : q = true ↔ ((0 ≤ a ∧ (b < 0 ∨ a ≤ b)) ∨ (a < 0 ∧ b < 0))) : q = ((decide (0 ≤ a) && (decide (b < 0) || decide (a ≤ b))) || (decide (a < 0) && decide (b < 0))) := by
  rw [Bool.eq_iff_iff, h]
  simp only [Bool.or_eq_true, Bool.and_eq_true, decide_eq_true_eq]

set_option maxRecDepth 100000 in
set_option maxHeartbeats 4000000 in
theorem ahead_any (S : Shp) (ev sv : Value) (x y : Int) (w : World) (h : ShR w ev sv S) (hok : shpB S = true) :
    Calls Tryd.prog 107 #[shpV S.many ev sv, .int .i64 x, .int .i64 y] w fun e w' => e = .returned (.bool (aheadB S x y)) ∧ Below w.heap.size w w' := by
  have hb0 := later_alloc w (.cells #[.int .i64 S.many, ev, sv] 27)
  have hbx := box_new w #[.int .i64 S.many, ev, sv] 27
  have hSz : ∀ (v : Int) (W : World), Below w.heap.size w W → Calls Tryd.prog 20 #[shpV S.many ev sv, .int .i64 v] W fun e w' => e = .returned (.int .i64 (refS S v)) ∧ Below W.heap.size W w' := fun v W hb => Size22_any S ev sv v W (h.later hb) hok
  obtain ⟨a, ha⟩ : ∃ a, refS S x = a := ⟨_, rfl⟩
  obtain ⟨b, hb⟩ : ∃ a, refS S y = a := ⟨_, rfl⟩
  have hres : aheadB S x y = ((decide (0 ≤ a) && (decide (b < 0) || decide (a ≤ b))) || (decide (a < 0) && decide (b < 0))) := by unfold aheadB; rw [ha, hb]
  obtain ⟨r, hr⟩ : ∃ r, aheadB S x y = r := ⟨_, rfl⟩
  rw [hr]
  rw [hr] at hres
  have HR := Lib.hid hres
  clear hr
  have HSz := Lib.hid hSz
  have HAB := Lib.hid (And.intro ha hb)
  have H0 := Lib.hid (And.intro hb0 hbx)
  obtain ⟨ae, ce, rfl, -⟩ := h.edges.open
  obtain ⟨az, cz, rfl, -⟩ := h.sizes.open
  obtain ⟨m, ls, zs⟩ := S
  simp only at H0 HSz HAB ⊢
  clear h hok hb0 hbx hSz hres ha hb
  go_enter Tryd.func107, Tryd.ntmps107
  go_upto_region 1 with fail
  obtain ⟨W1, hW1⟩ : ∃ W, w.alloc (.cells #[.int .i64 m, .slice ae ls.length ce, .slice az zs.length cz] 27) = W := ⟨_, rfl⟩
  rw [hW1] at H0
  try rw [hW1]
  clear hW1
  obtain ⟨c0, c1, c2, -, -, -, lS⟩ := three_of' H0.out.2
  have HKeep : Hid (∀ W, Below W1.heap.size W1 W → W.cell? ⟨w.heap.size, 0, none⟩ = some (.int .i64 m) ∧ W.cell? ⟨w.heap.size, 1, none⟩ = some (.slice ae ls.length ce) ∧ W.cell? ⟨w.heap.size, 2, none⟩ = some (.slice az zs.length cz)) := Lib.hid (fun W hb => ⟨cell_next hb c0, cell_next hb c1, cell_next hb c2⟩)
  go_cut [7, 8] (fun s7 s8 wx => s7 = .int .i64 a ∧ s8 = .int .i64 b ∧ Below W1.heap.size W1 wx)
  case first =>
    go_region_held3 (fun W => W.cell? ⟨w.heap.size, 0, none⟩ = some (.int .i64 m) ∧ W.cell? ⟨w.heap.size, 1, none⟩ = some (.slice ae ls.length ce) ∧ W.cell? ⟨w.heap.size, 2, none⟩ = some (.slice az zs.length cz))
      (first | exact HKeep.out _ (later_refl _) | exact HKeep.out _ (later_drew _) | exact HKeep.out _ hbQ | exact HKeep.out _ hbP | assumption)
      (first
        | (go_at_call 20; have hq := hbP; refine (HSz.out _ _ (later_trans H0.out.1 hbP)).mono ?_; rintro e wQ ⟨rfl, hQ1⟩; have hbQ : Below W1.heap.size W1 wQ := (later_trans hbP hQ1))
        | (go_at_call 20; refine (HSz.out _ _ (later_trans H0.out.1 (later_drew _))).mono ?_; rintro e wP ⟨rfl, hP1⟩; have hbP : Below W1.heap.size W1 wP := (later_trans (later_drew _) hP1)))
    all_goals (go_wp2_with fail)
    all_goals go_meet
    all_goals exact ⟨by rw [HAB.out.1], by rw [HAB.out.2], hbQ⟩
  case rest =>
    obtain ⟨rfl, rfl, hbx⟩ := hcut
    have HBx := Lib.hid (later_trans H0.out.1 hbx)
    clear hbx c0 c1 c2
    by_cases a0 : 0 ≤ a
    · have a1 : ¬ a < 0 := by omega
      by_cases b0 : b < 0
      · go_wp2_with fail
        go_ret
        exact ⟨ret_bool ((ahead_lit (q := true) ⟨fun _ => (by omega), fun _ => rfl⟩).trans HR.out.symm), HBx.out⟩
      · by_cases ab : a ≤ b
        · go_wp2_with fail
          go_ret
          exact ⟨ret_bool ((ahead_lit (q := true) ⟨fun _ => (by omega), fun _ => rfl⟩).trans HR.out.symm), HBx.out⟩
        · go_wp2_with fail
          go_ret
          exact ⟨ret_bool ((ahead_lit (q := false) ⟨fun h => (by cases h), fun h => absurd h (by omega)⟩).trans HR.out.symm), HBx.out⟩
    · have a1 : a < 0 := by omega
      by_cases b0 : b < 0
      · go_wp2_with fail
        go_ret
        exact ⟨ret_bool ((ahead_lit (q := true) ⟨fun _ => (by omega), fun _ => rfl⟩).trans HR.out.symm), HBx.out⟩
      · go_wp2_with fail
        go_ret
        exact ⟨ret_bool ((ahead_lit (q := false) ⟨fun h => (by cases h), fun h => absurd h (by omega)⟩).trans HR.out.symm), HBx.out⟩

/-- What stands while the next one is sought. -/
structure NxW (w : World) (m : Int) (ev sv : Value) (W : World) : Prop where
  bel : Below w.heap.size w W
  bs : SB W w.heap.size m ev sv
  bb : W.heap[w.heap.size + 1]? = some (.cells #[.bool true, .bool false] 4 (0, 0))
theorem NxW.later {w W W' : World} {m : Int} {ev sv : Value} (h : NxW w m ev sv W) (hb : Below W.heap.size W W') : NxW w m ev sv W' := ⟨later_trans h.bel hb, kept hb h.bs, kept hb h.bb⟩
theorem passTo_neg {S : Shp} {T : List Int} {near : Bool} {v : Nat} (h : ¬ 0 ≤ passTo S T near v) : passTo S T near v = -1 := by
  have := passTo_bound S T near v
  omega

set_option maxRecDepth 100000 in
set_option maxHeartbeats 4000000 in
theorem next_any (S : Shp) (ev sv tv : Value) (T : List Int) (w : World) (h : ShR w ev sv S) (hok : shpB S = true) (ht : SlI .i64 w tv T) :
    Calls Tryd.prog 62 #[shpV S.many ev sv, tv] w fun e w' => e = .returned (.int .i64 (nextV S T)) ∧ Below w.heap.size w w' := by
  have hb0 := later_alloc w (.cells #[.int .i64 S.many, ev, sv] 27)
  have hbx := box_new w #[.int .i64 S.many, ev, sv] 27
  have hHas : ∀ (v : Int) (W : World), Below w.heap.size w W → Calls Tryd.prog 59 #[tv, .int .i64 v] W fun e w' => e = .returned (.bool (decide (v ∈ T))) ∧ w' = W := fun v W hb => Has_any tv T v W (SlI.later ht hb)
  have hTog : ∀ (v : Int) (W : World), Below w.heap.size w W → Calls Tryd.prog 106 #[shpV S.many ev sv, .int .i64 v, tv] W fun e w' => e = .returned (.bool (nearB S T v)) ∧ Below W.heap.size W w' := fun v W hb => together_any S ev sv tv v T W (h.later hb) (SlI.later ht hb)
  have hAhd : ∀ (x y : Int) (W : World), Below w.heap.size w W → Calls Tryd.prog 107 #[shpV S.many ev sv, .int .i64 x, .int .i64 y] W fun e w' => e = .returned (.bool (aheadB S x y)) ∧ Below W.heap.size W w' := fun x y W hb => ahead_any S ev sv x y W (h.later hb) hok
  obtain ⟨q1, q2, -, -, -⟩ := shpB_yes hok
  obtain ⟨mn, hmn⟩ : ∃ mn : Nat, S.many = mn := ⟨S.many.toNat, by omega⟩
  have hmt : S.many.toNat = mn := by omega
  have hnx : nextV S T = if 0 ≤ passTo S T true mn then passTo S T true mn else passTo S T false mn := by unfold nextV; rw [hmt]
  rw [hnx]
  rw [hmn] at hb0 hbx hTog hAhd ⊢
  have H0 := Lib.hid (And.intro hb0 hbx)
  have HC := Lib.hid (And.intro hHas (And.intro hTog hAhd))
  have hm32 : mn ≤ 32 := by omega
  obtain ⟨ae, ce, rfl, -⟩ := h.edges.open
  obtain ⟨az, cz, rfl, -⟩ := h.sizes.open
  obtain ⟨at', ct, rfl, -⟩ := ht.open
  clear h hok ht hb0 hbx hHas hTog hAhd q1 q2 hmt hnx hmn
  obtain ⟨z, hz⟩ : ∃ z, (if 0 ≤ passTo S T true mn then passTo S T true mn else passTo S T false mn) = z := ⟨_, rfl⟩
  rw [hz]
  have HNx := Lib.hid hz
  clear hz
  go_enter Tryd.func62, Tryd.ntmps62
  go_wp2_with fail
  go_loopw [5, 11] (fun s i wr => ∃ k : Nat, i = .int .i64 k ∧ ((k = 0 ∧ s = .int .i64 (-1)) ∨ (k = 1 ∧ s = .int .i64 (-1) ∧ passTo S T true mn = -1) ∨ (k = 2 ∧ s = .int .i64 (passTo S T false mn) ∧ passTo S T true mn = -1)) ∧ NxW w mn (.slice ae S.edges.length ce) (.slice az S.sizes.length cz) wr) (fun _ i _ => 2 - (intOf i).toNat)
  case atStart => exact ⟨0, rfl, .inl ⟨rfl, rfl⟩, ⟨later_trans H0.out.1 (later_alloc _ _), box_alloc H0.out.2 _, by have h := box_new (w.alloc (.cells #[.int .i64 (mn : Int), .slice ae S.edges.length ce, .slice az S.sizes.length cz] 27)) #[.bool true, .bool false] 4; rw [World.size_alloc] at h; exact h⟩⟩
  case round =>
    obtain ⟨k, rfl, hcase, hW⟩ := hrel
    obtain ⟨c0, c1, c2, -, -, -, lS⟩ := three_of' hW.bs
    obtain ⟨b0, b1, -, -, lB⟩ := two_of hW.bb
    have HW0 := Lib.hid hW
    clear hW
    rcases hcase with ⟨rfl, rfl⟩ | ⟨rfl, rfl, hTn⟩ | ⟨rfl, rfl, hTn⟩
    · -- near ones
      go_wp2_with fail
      go_loopw [5, 18] (fun s i wr => ∃ v : Nat, v ≤ mn ∧ i = .int .i64 v ∧ s = .int .i64 (passTo S T true v) ∧ NxW w mn (.slice ae S.edges.length ce) (.slice az S.sizes.length cz) wr) (fun _ i _ => mn - (intOf i).toNat)
      case atStart => exact ⟨0, Nat.zero_le _, rfl, rfl, HW0.out⟩
      case round =>
        clear c0 c1 c2 lS b0 b1 lB
        obtain ⟨v, hv, rfl, rfl, hW⟩ := hrel
        obtain ⟨c0, c1, c2, -, -, -, lS⟩ := three_of' hW.bs
        obtain ⟨b0, b1, -, -, lB⟩ := two_of hW.bb
        have HW := Lib.hid hW
        obtain ⟨out, ho⟩ : ∃ out, passTo S T true v = out := ⟨_, rfl⟩
        have hob := passTo_bound S T true v
        rw [ho] at hob ⊢
        have HO := Lib.hid ho
        clear ho hW
        by_cases hlt : v < mn
        · by_cases hT : (v : Int) ∈ T
          · have HY : Hid (passTo S T true (v + 1) = out) := Lib.hid (by rw [passTo_skip (by rw [decide_eq_true hT]; rfl)]; exact HO.out)
            have HH := Lib.hid (HC.out.1 v _ HW.out.bel)
            rw [decide_eq_true hT] at HH
            clear hT
            go_wp2_with fail
            refine HH.out.mono ?_
            rintro e w2 ⟨rfl, rfl⟩
            go_wp2_with fail
            go_roundw
            case rel => first | exact ⟨v + 1, by omega, by go_num, by rw [HY.out], HW.out⟩ | ((repeat apply Exists.intro); refine ⟨?_, rfl⟩; exact ⟨v + 1, by omega, by go_num, by rw [HY.out], HW.out⟩)
            case measure => simp [intOf]; omega
          · have HH := Lib.hid (HC.out.1 v _ HW.out.bel)
            rw [decide_eq_false hT] at HH
            have HTf := Lib.hid (decide_eq_false hT)
            clear hT
            by_cases hn : nearB S T v = true
            · have HSk : Hid ((decide ((v : Int) ∈ T) || (true && !nearB S T v)) = false) := Lib.hid (by rw [HTf.out, hn]; rfl)
              have HTg := Lib.hid (HC.out.2.1 v _ HW.out.bel)
              rw [hn] at HTg
              clear hn
              go_wp2_with fail
              refine HH.out.mono ?_
              rintro e w2 ⟨rfl, rfl⟩
              go_wp2_with fail
              refine HTg.out.mono ?_
              rintro e w4 ⟨rfl, hb4⟩
              have HW4 := Lib.hid (HW.out.later hb4)
              clear c0 c1 c2 lS b0 b1 lB hb4
              obtain ⟨c0, c1, c2, -, -, -, lS⟩ := three_of' HW4.out.bs
              obtain ⟨b0, b1, -, -, lB⟩ := two_of HW4.out.bb
              by_cases hneg : out < 0
              · have HY : Hid (passTo S T true (v + 1) = v) := Lib.hid (passTo_take HSk.out (by rw [HO.out, decide_eq_true hneg]; rfl))
                go_wp2_with fail
                go_roundw
                case rel => first | exact ⟨v + 1, by omega, by go_num, by rw [HY.out], HW4.out⟩ | ((repeat apply Exists.intro); refine ⟨?_, rfl⟩; exact ⟨v + 1, by omega, by go_num, by rw [HY.out], HW4.out⟩)
                case measure => simp [intOf]; omega
              · by_cases hah : aheadB S out v = true
                · have HY : Hid (passTo S T true (v + 1) = out) := Lib.hid (by rw [passTo_leave HSk.out (by rw [HO.out, decide_eq_false hneg, hah]; rfl)]; exact HO.out)
                  have HA := Lib.hid (HC.out.2.2 out v _ HW4.out.bel)
                  rw [hah] at HA
                  clear hah
                  go_wp2_with fail
                  refine HA.out.mono ?_
                  rintro e w3 ⟨rfl, hb3⟩
                  have HW3 := Lib.hid (HW4.out.later hb3)
                  clear hb3
                  go_wp2_with fail
                  go_roundw
                  case rel => first | exact ⟨v + 1, by omega, by go_num, by rw [HY.out], HW3.out⟩ | ((repeat apply Exists.intro); refine ⟨?_, rfl⟩; exact ⟨v + 1, by omega, by go_num, by rw [HY.out], HW3.out⟩)
                  case measure => simp [intOf]; omega
                · have hahf := Bool.eq_false_iff.2 hah
                  have HY : Hid (passTo S T true (v + 1) = v) := Lib.hid (passTo_take HSk.out (by rw [HO.out, decide_eq_false hneg, hahf]; rfl))
                  have HA := Lib.hid (HC.out.2.2 out v _ HW4.out.bel)
                  rw [hahf] at HA
                  clear hah hahf
                  go_wp2_with fail
                  refine HA.out.mono ?_
                  rintro e w3 ⟨rfl, hb3⟩
                  have HW3 := Lib.hid (HW4.out.later hb3)
                  clear hb3
                  go_wp2_with fail
                  go_roundw
                  case rel => first | exact ⟨v + 1, by omega, by go_num, by rw [HY.out], HW3.out⟩ | ((repeat apply Exists.intro); refine ⟨?_, rfl⟩; exact ⟨v + 1, by omega, by go_num, by rw [HY.out], HW3.out⟩)
                  case measure => simp [intOf]; omega
            · have hnf := Bool.eq_false_iff.2 hn
              have HY : Hid (passTo S T true (v + 1) = out) := Lib.hid (by rw [passTo_skip (by rw [HTf.out, hnf]; rfl)]; exact HO.out)
              have HTg := Lib.hid (HC.out.2.1 v _ HW.out.bel)
              rw [hnf] at HTg
              clear hn hnf
              go_wp2_with fail
              refine HH.out.mono ?_
              rintro e w2 ⟨rfl, rfl⟩
              go_wp2_with fail
              refine HTg.out.mono ?_
              rintro e w4 ⟨rfl, hb4⟩
              have HW4 := Lib.hid (HW.out.later hb4)
              clear hb4
              go_wp2_with fail
              go_roundw
              case rel => first | exact ⟨v + 1, by omega, by go_num, by rw [HY.out], HW4.out⟩ | ((repeat apply Exists.intro); refine ⟨?_, rfl⟩; exact ⟨v + 1, by omega, by go_num, by rw [HY.out], HW4.out⟩)
              case measure => simp [intOf]; omega
        · obtain rfl : v = mn := by omega
          by_cases h0 : 0 ≤ out
          · have HZ : Hid (out = z) := Lib.hid (by rw [← HNx.out, if_pos (by rw [HO.out]; exact h0), HO.out])
            go_wp2_with fail
            go_ret
            exact ⟨ret_int HZ.out, HW.out.bel⟩
          · have HZ : Hid (passTo S T true v = -1) := Lib.hid (passTo_neg (by rw [HO.out]; exact h0))
            have hom : out = -1 := by rw [← HO.out]; exact HZ.out
            subst hom
            go_wp2_with fail
            go_roundw
            case rel => first | exact ⟨1, by go_num, .inr (.inl ⟨rfl, rfl, HZ.out⟩), HW.out⟩ | ((repeat apply Exists.intro); refine ⟨?_, rfl⟩; exact ⟨1, by go_num, .inr (.inl ⟨rfl, rfl, HZ.out⟩), HW.out⟩)
            case measure => simp [intOf]
    · have HTn := Lib.hid hTn
      clear hTn
      go_wp2_with fail
      go_loopw [5, 18] (fun s i wr => ∃ v : Nat, v ≤ mn ∧ i = .int .i64 v ∧ s = .int .i64 (passTo S T false v) ∧ NxW w mn (.slice ae S.edges.length ce) (.slice az S.sizes.length cz) wr) (fun _ i _ => mn - (intOf i).toNat)
      case atStart => exact ⟨0, Nat.zero_le _, rfl, rfl, HW0.out⟩
      case round =>
        clear c0 c1 c2 lS b0 b1 lB
        obtain ⟨v, hv, rfl, rfl, hW⟩ := hrel
        obtain ⟨c0, c1, c2, -, -, -, lS⟩ := three_of' hW.bs
        obtain ⟨b0, b1, -, -, lB⟩ := two_of hW.bb
        have HW := Lib.hid hW
        obtain ⟨out, ho⟩ : ∃ out, passTo S T false v = out := ⟨_, rfl⟩
        have hob := passTo_bound S T false v
        rw [ho] at hob ⊢
        have HO := Lib.hid ho
        clear ho hW
        by_cases hlt : v < mn
        · by_cases hT : (v : Int) ∈ T
          · have HY : Hid (passTo S T false (v + 1) = out) := Lib.hid (by rw [passTo_skip (by rw [decide_eq_true hT]; rfl)]; exact HO.out)
            have HH := Lib.hid (HC.out.1 v _ HW.out.bel)
            rw [decide_eq_true hT] at HH
            clear hT
            go_wp2_with fail
            refine HH.out.mono ?_
            rintro e w2 ⟨rfl, rfl⟩
            go_wp2_with fail
            go_roundw
            case rel => first | exact ⟨v + 1, by omega, by go_num, by rw [HY.out], HW.out⟩ | ((repeat apply Exists.intro); refine ⟨?_, rfl⟩; exact ⟨v + 1, by omega, by go_num, by rw [HY.out], HW.out⟩)
            case measure => simp [intOf]; omega
          · have HH := Lib.hid (HC.out.1 v _ HW.out.bel)
            rw [decide_eq_false hT] at HH
            have HTf := Lib.hid (decide_eq_false hT)
            clear hT
            have HSk : Hid ((decide ((v : Int) ∈ T) || (false && !nearB S T v)) = false) := Lib.hid (by rw [HTf.out]; rfl)
            go_wp2_with fail
            refine HH.out.mono ?_
            rintro e w2 ⟨rfl, rfl⟩
            by_cases hneg : out < 0
            · have HY : Hid (passTo S T false (v + 1) = v) := Lib.hid (passTo_take HSk.out (by rw [HO.out, decide_eq_true hneg]; rfl))
              go_wp2_with fail
              go_roundw
              case rel => first | exact ⟨v + 1, by omega, by go_num, by rw [HY.out], HW.out⟩ | ((repeat apply Exists.intro); refine ⟨?_, rfl⟩; exact ⟨v + 1, by omega, by go_num, by rw [HY.out], HW.out⟩)
              case measure => simp [intOf]; omega
            · by_cases hah : aheadB S out v = true
              · have HY : Hid (passTo S T false (v + 1) = out) := Lib.hid (by rw [passTo_leave HSk.out (by rw [HO.out, decide_eq_false hneg, hah]; rfl)]; exact HO.out)
                have HA := Lib.hid (HC.out.2.2 out v _ HW.out.bel)
                rw [hah] at HA
                clear hah
                go_wp2_with fail
                refine HA.out.mono ?_
                rintro e w3 ⟨rfl, hb3⟩
                have HW3 := Lib.hid (HW.out.later hb3)
                clear hb3
                go_wp2_with fail
                go_roundw
                case rel => first | exact ⟨v + 1, by omega, by go_num, by rw [HY.out], HW3.out⟩ | ((repeat apply Exists.intro); refine ⟨?_, rfl⟩; exact ⟨v + 1, by omega, by go_num, by rw [HY.out], HW3.out⟩)
                case measure => simp [intOf]; omega
              · have hahf := Bool.eq_false_iff.2 hah
                have HY : Hid (passTo S T false (v + 1) = v) := Lib.hid (passTo_take HSk.out (by rw [HO.out, decide_eq_false hneg, hahf]; rfl))
                have HA := Lib.hid (HC.out.2.2 out v _ HW.out.bel)
                rw [hahf] at HA
                clear hah hahf
                go_wp2_with fail
                refine HA.out.mono ?_
                rintro e w3 ⟨rfl, hb3⟩
                have HW3 := Lib.hid (HW.out.later hb3)
                clear hb3
                go_wp2_with fail
                go_roundw
                case rel => first | exact ⟨v + 1, by omega, by go_num, by rw [HY.out], HW3.out⟩ | ((repeat apply Exists.intro); refine ⟨?_, rfl⟩; exact ⟨v + 1, by omega, by go_num, by rw [HY.out], HW3.out⟩)
                case measure => simp [intOf]; omega
        · obtain rfl : v = mn := by omega
          by_cases h0 : 0 ≤ out
          · have HZ : Hid (out = z) := Lib.hid (by rw [← HNx.out, if_neg (by rw [HTn.out]; decide), HO.out])
            go_wp2_with fail
            go_ret
            exact ⟨ret_int HZ.out, HW.out.bel⟩
          · go_wp2_with fail
            go_roundw
            case rel => first | exact ⟨2, by go_num, .inr (.inr ⟨rfl, by rw [HO.out], HTn.out⟩), HW.out⟩ | ((repeat apply Exists.intro); refine ⟨?_, rfl⟩; exact ⟨2, by go_num, .inr (.inr ⟨rfl, by rw [HO.out], HTn.out⟩), HW.out⟩)
            case measure => simp [intOf]
    · have HZ : Hid (passTo S T false mn = z) := Lib.hid (by rw [← HNx.out, if_neg (by rw [hTn]; decide)])
      rw [HZ.out]
      clear hTn
      go_wp2_with fail
      go_ret
      exact ⟨rfl, HW0.out.bel⟩

theorem chosen_bound {S : Shp} (hm : S.many ≤ 32) : ∀ k, ∀ x ∈ chosenTo S k, -1 ≤ x ∧ x ≤ 32
  | 0, x, hx => by cases hx
  | k + 1, x, hx => by
    rcases List.mem_append.1 (show x ∈ chosenTo S k ++ [_] from hx) with hx | hx
    · exact chosen_bound hm k x hx
    · obtain rfl := List.mem_singleton.1 hx
      have := pickTo_bound S (chosenTo S k) S.many.toNat
      omega
theorem chosen_wf {S : Shp} (hm : S.many ≤ 32) {k : Nat} : ∀ x ∈ chosenTo S k, (Lit.int .i64 x).wf = true := fun x hx => WalkArith.wf_i64 (by have := chosen_bound hm k x hx; omega)

set_option maxRecDepth 100000 in
set_option maxHeartbeats 4000000 in
/-- Chosen: the order that is chosen, in a row of the call's own. -/
theorem Chosen_any (S : Shp) (ev sv : Value) (w : World) (h : ShR w ev sv S) (hok : shpB S = true) :
    Calls Tryd.prog 24 #[shpV S.many ev sv] w fun e w' => ∃ v', e = .returned v' ∧ w'.ownsRow w.heap.size 3 1 v' (chosenTo S S.many.toNat).length ((chosenTo S S.many.toNat).map (.int .i64)) ∧ Below w.heap.size w w' := by
  obtain ⟨i0, hi, hz0, hz1, hz2⟩ := info_parts info_int
  have hb0 := later_alloc w (.cells #[.int .i64 S.many, ev, sv] 27)
  have hbx := box_new w #[.int .i64 S.many, ev, sv] 27
  have hNx : ∀ (k : Nat) (tv : Value) (W : World), Below w.heap.size w W → W.ownsRow w.heap.size 3 1 tv k ((chosenTo S k).map (.int .i64)) → Calls Tryd.prog 62 #[shpV S.many ev sv, tv] W fun e w' => e = .returned (.int .i64 (nextV S (chosenTo S k))) ∧ Below W.heap.size W w' :=
    fun k tv W hb ho => next_any S ev sv tv (chosenTo S k) W (h.later hb) hok (SlI.of_owns ho (chosen_wf (shpB_yes hok).2.1))
  have hcn := fun k => chosenTo_next hok k
  obtain ⟨q1, q2, -, -, -⟩ := shpB_yes hok
  obtain ⟨mn, hmn⟩ : ∃ mn : Nat, S.many = mn := ⟨S.many.toNat, by omega⟩
  have hmt : S.many.toNat = mn := by omega
  rw [hmt, chosenTo_len]
  rw [hmn] at hb0 hbx hNx ⊢
  have H0 := Lib.hid (And.intro hb0 hbx)
  have HC := Lib.hid (And.intro hNx hcn)
  have hm32 : mn ≤ 32 := by omega
  obtain ⟨ae, ce, rfl, -⟩ := h.edges.open
  obtain ⟨az, cz, rfl, -⟩ := h.sizes.open
  clear h hok hb0 hbx hNx hcn q1 q2 hmt hmn
  go_enter Tryd.func24, Tryd.ntmps24
  go_wp2_with fail
  go_loopw [3, 7] (fun s i wr => ∃ k : Nat, k ≤ mn ∧ i = .int .i64 k ∧ wr.ownsRow w.heap.size 3 1 s k ((chosenTo S k).map (.int .i64)) ∧ SB wr w.heap.size mn (.slice ae S.edges.length ce) (.slice az S.sizes.length cz) ∧ Below w.heap.size w wr) (fun _ i _ => mn - (intOf i).toNat)
  case atStart => exact ⟨0, Nat.zero_le _, rfl, World.ownsRow_nil _ _ _ _, H0.out.2, H0.out.1⟩
  case round =>
    obtain ⟨k, hk, rfl, ho, hS, hb⟩ := hrel
    obtain ⟨av, cv, rfl⟩ := owns_shape2 ho
    by_cases hlt : k < mn
    · obtain ⟨c0, c1, c2, -, -, -, lS⟩ := three_of' hS
      have HN := Lib.hid (HC.out.1 k _ _ hb ho)
      obtain ⟨z, hz⟩ : ∃ z, nextV S (chosenTo S k) = z := ⟨_, rfl⟩
      rw [hz] at HN
      have HZ := Lib.hid hz
      have H1 := Lib.hid (And.intro ho (And.intro hS hb))
      clear ho hS hb hz
      go_wp2_with fail
      refine HN.out.mono ?_
      rintro e w2 ⟨rfl, hb2⟩
      have ho2 := owns_later H1.out.1 hb2
      have hb02 := later_trans H1.out.2.2 hb2
      have hs2 := hb02.size
      have H2 := Lib.hid (And.intro (kept hb2 H1.out.2.1) hb02)
      clear hb2 hb02
      go_wp2_with (at_builtin; refine wpList_append_own _ rfl (.tmp 9) (.tmp 13) 25 rfl w.heap.size 3 i0 _ 1 8 Tryd.underlying25 hi hz0 hz1 hz2 rfl (by decide) _ _ _ rfl (ho2.alloc _) ⟨w2.heap.size, 0, none⟩ 1 1 [.int .i64 z] rfl rfl (cells_new _ _ _) (by simp [Value.oneCell']) (by unfold maxLen; omega) (by omega) (by simp; omega) ?_; intro v6 w6 hown6 hgrow6 _; obtain ⟨g6, cap6, rfl⟩ := ownsRow_succ hown6)
      have hA := later_alloc w2 (.cells #[.int .i64 z] 3)
      have hoA := owns_later ho2 hA
      have hF : w6.ownsRow w.heap.size 3 1 (.slice (some ⟨g6, 0, none⟩) (k + 1) cap6) (k + 1) ((chosenTo S (k + 1)).map (.int .i64)) := by
        rw [HC.out.2 k, HZ.out, List.map_append]; exact hown6
      have HF := Lib.hid (And.intro hF (And.intro (box_grown hoA hgrow6 (kept hA H2.out.1) (by decide)) ((later_trans H2.out.2 hA).grown hgrow6 (later_trans H2.out.2 hA).size (fun q e => owns_above hoA q e))))
      clear hown6 hgrow6 ho2 hA hoA hF
      go_roundw
      case rel => first | exact ⟨k + 1, by omega, by go_num, HF.out.1, HF.out.2.1, HF.out.2.2⟩ | ((repeat apply Exists.intro); refine ⟨?_, rfl⟩; exact ⟨k + 1, by omega, by go_num, HF.out.1, HF.out.2.1, HF.out.2.2⟩)
      case measure => simp [intOf]; omega
    · obtain rfl : k = mn := by omega
      have H1 := Lib.hid (And.intro ho hb)
      clear ho hS hb
      go_wp2_with fail
      go_ret
      exact ⟨_, rfl, H1.out.1, H1.out.2⟩
end Go.Proofs.YtdmfhlfhlflakaaDoor
