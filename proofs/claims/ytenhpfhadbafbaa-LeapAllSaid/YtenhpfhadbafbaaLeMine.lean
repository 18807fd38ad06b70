/-
  Rows of rows of the call's own: the laws' own and small, and same, walked.
-/
import Derived.Test.YtenhpfhadbafbaaLeSome
namespace Go.Proofs.Ytenhpfhadbafbaa
open Go.RowKit
set_option linter.unusedVariables false

/-- A row of the call's own stays where a row of another type grows. -/
theorem own_grown {w w' : World} {base base' : Nat} {e e' : TypeId} {size size' : Nat} {v v' : Value} {n n' : Nat} {xs xs' : List Value} (h : w.ownsRow base e size v n xs) (hg : w.grownBy w' v.ownBlock) (k : w.ownsRow base' e' size' v' n' xs') (hne : e ≠ e') : w'.ownsRow base' e' size' v' n' xs' := by
  obtain ⟨k1, k2⟩ := k
  refine ⟨k1, ?_⟩
  rcases k2 with k2 | ⟨g, cap, cur, hv, hg', hh, r⟩
  · exact .inl k2
  · exact .inr ⟨g, cap, cur, hv, hg', box_grown h hg hh hne, r⟩
/-- And where one of its cells is set. -/
theorem own_set_other {w : World} {base base' : Nat} {e e' : TypeId} {size size' : Nat} {v' : Value} {g n n' cap i : Nat} {xs xs' : List Value} (h : w.ownsRow base e size (.slice (some ⟨g, 0, none⟩) n cap) n xs) (k : w.ownsRow base' e' size' v' n' xs') (hne : e ≠ e') (u : Value) : (w.setCell ⟨g, i, none⟩ u).ownsRow base' e' size' v' n' xs' := by
  obtain ⟨k1, k2⟩ := k
  refine ⟨k1, ?_⟩
  rcases k2 with k2 | ⟨g', cap', cur, hv, hg', hh, r⟩
  · exact .inl k2
  · have hn : g' ≠ g := fun e1 => own_ne h hh hne (by rw [e1]; rfl)
    exact .inr ⟨g', cap', cur, hv, hg', box_other hh hn u, r⟩
/-- Rows of the call's own, in a row of the call's own. -/
structure OwnR (base : Nat) (W : World) (v : Value) (ps : List (Value × List Int)) : Prop where
  own : W.ownsRow base 32 1 v ps.length (ps.map Prod.fst)
  rows : ∀ p ∈ ps, W.ownsRow base 40 1 p.1 p.2.length (p.2.map (.int .u64)) ∧ ∀ x ∈ p.2, (Lit.int .u64 x).wf = true
section
variable {base : Nat} {W W' : World} {v : Value} {ps : List (Value × List Int)}
theorem OwnR.later (h : OwnR base W v ps) (hb : Below W.heap.size W W') : OwnR base W' v ps := ⟨owns_later h.own hb, fun p hp => ⟨owns_later (h.rows p hp).1 hb, (h.rows p hp).2⟩⟩
theorem OwnR.slR (h : OwnR base W v ps) : SlR W v (ps.map Prod.snd) := by
  refine ⟨fun r => (ps.getD r (.slice none 0 0, [])).1, ?_, fun r hr => ?_⟩
  · have e : (List.range (ps.map Prod.snd).length).map (fun r => (ps.getD r (.slice none 0 0, [])).1) = ps.map Prod.fst := by
      refine List.ext_getElem (by simp) fun i h1 h2 => ?_
      simp at h2
      simp [List.getD, List.getElem?_eq_getElem h2]
    rw [e]
    exact SlC.of_owns h.own
  · have hr' : r < ps.length := by simpa using hr
    have := h.rows ps[r] (List.getElem_mem hr')
    have e1 : (ps.getD r (.slice none 0 0, [])).1 = ps[r].1 := by simp [List.getD, List.getElem?_eq_getElem hr']
    have e2 : rowN (ps.map Prod.snd) r = ps[r].2 := by simp [rowN, List.getD, List.getElem?_eq_getElem hr']
    show SlI .u64 W (ps.getD r (.slice none 0 0, [])).1 _
    rw [e1, e2]
    exact SlI.of_owns this.1 this.2
end
/-- What own makes of rows. -/
def ownTo (ls : List (List Int)) (i : Nat) : List (List Int) := ((ls.take i).take 6).map (fun l => l.take 40)
def ownOf (ls : List (List Int)) : List (List Int) := (ls.take 6).map (fun l => l.take 40)
theorem ownTo_all (ls : List (List Int)) : ownTo ls ls.length = ownOf ls := by
  unfold ownTo ownOf
  rw [List.take_of_length_le (Nat.le_refl _)]
theorem ownTo_step {ls : List (List Int)} {i : Nat} (h : i < ls.length) (h6 : i < 6) : ownTo ls (i + 1) = ownTo ls i ++ [(rowN ls i).take 40] := by
  unfold ownTo
  rw [List.take_succ_eq_append_getElem h, List.take_append, List.map_append, List.take_of_length_le (l := [ls[i]]) (by simp; omega)]
  simp [rowN, List.getD, List.getElem?_eq_getElem h]
theorem ownTo_stay {ls : List (List Int)} {i : Nat} (h6 : 6 ≤ i) : ownTo ls (i + 1) = ownTo ls i := by
  unfold ownTo
  rw [List.take_take, List.take_take]
  congr 2
  omega
theorem ownTo_len (ls : List (List Int)) (i : Nat) : (ownTo ls i).length ≤ 6 := by
  unfold ownTo
  rw [List.length_map, List.length_take]
  omega
theorem ownOf_len (ls : List (List Int)) : (ownOf ls).length ≤ 6 := by
  unfold ownOf
  rw [List.length_map, List.length_take]
  omega
theorem ownOf_row {ls : List (List Int)} {r : Nat} (h : r < (ownOf ls).length) : r < ls.length ∧ rowN (ownOf ls) r = (rowN ls r).take 40 := by
  have h1 : r < ls.length := by
    unfold ownOf at h
    rw [List.length_map, List.length_take] at h
    omega
  refine ⟨h1, ?_⟩
  have e1 : rowN (ownOf ls) r = (ownOf ls)[r] := by simp [rowN, List.getD, List.getElem?_eq_getElem h]
  rw [e1]
  have e2 : (ownOf ls)[r] = (ls[r]).take 40 := by simp [ownOf]
  rw [e2]
  simp [rowN, List.getD, List.getElem?_eq_getElem h1]

set_option maxRecDepth 100000 in
set_option maxHeartbeats 2000000 in
theorem own_any (v : Value) (ls : List (List Int)) (w : World) (h : SlR w v ls) :
    Calls Try.prog 8 #[v] w fun e w' => ∃ v' ps, e = .returned v' ∧ OwnR w.heap.size w' v' ps ∧ ps.map Prod.snd = ownOf ls ∧ Below w.heap.size w w' := by
  obtain ⟨i0, hi, hz0, hz1, hz2⟩ := info_parts info_row
  obtain ⟨a, c, rfl, h1, h2, h3, h4⟩ := h.open
  have HX := Lib.hid h4
  have hm : ls.length ≤ 9223372036854775807 := by omega
  clear h h1 h2 h3 h4
  go_enter Try.func8, Try.ntmps8
  go_wp2_with fail
  go_loopw [3, 8] (fun out k wr => ∃ (i : Nat) (ps : List (Value × List Int)), i ≤ ls.length ∧ k = .int .i64 i ∧ OwnR w.heap.size wr out ps ∧ ps.map Prod.snd = ownTo ls i ∧ Below w.heap.size w wr) (fun _ k _ => ls.length - (intOf k).toNat)
  case atStart => exact ⟨0, [], Nat.zero_le _, rfl, ⟨World.ownsRow_nil _ _ _ _, fun p hp => by cases hp⟩, rfl, later_refl w⟩
  case round =>
    obtain ⟨i, ps, hi', rfl, hown, hps, hb⟩ := hrel
    obtain ⟨ao, co, rfl⟩ := owns_shape2 hown.own
    have hpl : ps.length ≤ 6 := by
      have := congrArg List.length hps
      rw [List.length_map] at this
      rw [this]
      exact ownTo_len _ _
    by_cases hlt : i < ls.length
    · obtain ⟨b1, o1, rfl, hb1w, hc1⟩ := HX.out (by omega)
      obtain ⟨rv, c1, hrv⟩ := hc1 i hlt
      obtain ⟨a2, c2, rfl, s1, s2, s3, s4⟩ := (hrv.later hb).open
      have hx := ((bcell hb).1 b1 (o1 + i) hb1w).trans c1
      have HO := Lib.hid (And.intro hown (And.intro hps hb))
      have hsz := hb.size
      have HR := Lib.hid (hrv.later hb)
      clear hown hps hb hc1 hrv c1 s3 s4
      by_cases h6 : i < 6
      · obtain ⟨m, hm'⟩ : ∃ m, min (rowN ls i).length 40 = m := ⟨_, rfl⟩
        have hmin : Value.int .i64 (if (40 : Int) < (rowN ls i).length then (40 : Int) else ((rowN ls i).length : Int)) = .int .i64 (m : Int) := by rw [show (if (40 : Int) < (rowN ls i).length then (40 : Int) else ((rowN ls i).length : Int)) = (m : Int) from by split <;> omega]
        have hmc : m ≤ c2 := by omega
        have hml : m ≤ (rowN ls i).length := by omega
        have htk : (rowN ls i).take m = (rowN ls i).take 40 := by
          rw [← hm', Nat.min_comm, ← List.take_take, List.take_of_length_le (l := rowN ls i) (Nat.le_refl _)]
        have hlm : ((rowN ls i).take m).length = m := by rw [List.length_take]; omega
        have HC := Lib.hid (clone_any _ _ wr (HR.out.cut2 hml) (by rw [List.length_take]; omega))
        have HT := Lib.hid (And.intro htk hlm)
        clear hm' htk hlm
        have h6I : (i : Int) < 6 := by omega
        go_wp2_with first
          | (go_at_call 27; (try simp only [hmin]); refine HC.out.mono ?_; rintro e w1 ⟨v1, rfl, ho1, hb1⟩; rw [HT.out.2] at ho1; obtain ⟨av1, cv1, rfl⟩ := owns_shape2 ho1; have HO1 := Lib.hid (And.intro ho1 hb1); have hzz := hb1.size; have hown1 := owns_later HO.out.1.own hb1; clear ho1 hb1)
          | (at_builtin; refine wpList_append_own _ rfl (.tmp 15) (.tmp 22) 22 rfl w.heap.size 32 i0 _ 1 24 Try.underlying22 hi hz0 hz1 hz2 rfl (by decide) _ _ _ rfl (hown1.alloc _) ⟨w1.heap.size, 0, none⟩ 1 1 [.slice av1 m cv1] rfl rfl (cells_new _ _ _) (by simp [Value.oneCell']) (by unfold maxLen; omega) (by omega) (by simp; omega) ?_; intro v6 w6 hown6 hgrow6 _; obtain ⟨g6, cap6, rfl⟩ := ownsRow_succ hown6)
          | fail
        obtain ⟨ho1, hb1⟩ := HO1.out
        obtain ⟨hown, hps, hb⟩ := HO.out
        have hal := later_alloc w1 (.cells #[.slice av1 m cv1] 32)
        go_roundw
        case rel =>
          refine ⟨i + 1, ps ++ [(.slice av1 m cv1, (rowN ls i).take m)], by omega, by go_num, ⟨?_, fun p hp => ?_⟩, ?_, (later_trans hb (later_trans hb1 hal)).grown hgrow6 (by simp; omega) (fun k e => owns_above hown1 k e)⟩
          · simpa using hown6
          · rcases List.mem_append.1 hp with hp | hp
            · exact ⟨own_grown (hown1.alloc _) hgrow6 (owns_later (hown.rows p hp).1 (later_trans hb1 hal)) (by decide), (hown.rows p hp).2⟩
            · obtain rfl := List.mem_singleton.1 hp
              refine ⟨own_grown (hown1.alloc _) hgrow6 ?_ (by decide), fun x hx => HR.out.2 x (List.mem_of_mem_take hx)⟩
              rw [HT.out.2]
              exact owns_later (owns_down ho1 hsz) hal
          · rw [List.map_append, hps, ownTo_step hlt h6, ← HT.out.1]
            rfl
        case measure => simp [intOf]; omega
      · have h6I : ¬ (i : Int) < 6 := by omega
        go_wp2_with fail
        go_roundw
        case rel => exact ⟨i + 1, ps, by omega, by go_num, HO.out.1, by rw [ownTo_stay (by omega)]; exact HO.out.2.1, HO.out.2.2⟩
        case measure => simp [intOf]; omega
    · obtain rfl : i = ls.length := by omega
      go_wp2_with fail
      go_ret
      exact ⟨_, ps, rfl, hown, hps.trans (ownTo_all ls), hb⟩

/-- The first rows are the same. -/
def SameR (k : Nat) (ls ls' : List (List Int)) : Prop := ∀ r, r < k → rowN ls r = rowN ls' r
theorem sameR_all {ls ls' : List (List Int)} (h : SameR ls.length ls ls') (hl : ls.length = ls'.length) : ls = ls' := by
  refine List.ext_getElem hl fun r h1 h2 => ?_
  have := h r h1
  simpa [rowN, List.getD, List.getElem?_eq_getElem h1, List.getElem?_eq_getElem h2] using this

set_option maxRecDepth 100000 in
set_option maxHeartbeats 2000000 in
theorem equalFunc_any (u v : Value) (ls ls' : List (List Int)) (w : World) (hx : SlR w u ls) (hy : SlR w v ls') :
    Calls Try.prog 32 #[u, v, .func (.func 18) #[] #[]] w fun e w' => e = .returned (.bool (decide (ls = ls'))) ∧ ∃ n, w' = w.drewN n := by
  obtain ⟨a, c, rfl, h1, h2, h3, h4⟩ := hx.open
  obtain ⟨a', c', rfl, g1, g2, g3, g4⟩ := hy.open
  have HX := Lib.hid h4
  have HY := Lib.hid g4
  have hm : ls.length ≤ 9223372036854775807 := by omega
  have hm' : ls'.length ≤ 9223372036854775807 := by omega
  clear hx hy h1 h2 h3 h4 g1 g2 g3 g4
  go_enter Try.func32, Try.ntmps32
  by_cases hl : ls.length = ls'.length
  · have HL := Lib.hid hl
    rw [← hl]
    clear hl hm'
    go_wp2_with fail
    go_loopw [17] (fun k wr => ∃ i : Nat, i ≤ ls.length ∧ k = .int .i64 i ∧ SameR i ls ls' ∧ ∃ n, wr = w.drewN n) (fun k _ => ls.length - (intOf k).toNat)
    case atStart => exact ⟨0, Nat.zero_le _, rfl, fun r h => by omega, 0, rfl⟩
    case round =>
      obtain ⟨i, hi', rfl, hs, n, rfl⟩ := hrel
      by_cases hlt : i < ls.length
      · obtain ⟨b1, o1, rfl, hb1w, hc1⟩ := HX.out (by omega)
        obtain ⟨rv, c1, hrv⟩ := hc1 i hlt
        have hlt' : i < ls'.length := by have := HL.out; omega
        obtain ⟨b2, o2, rfl, hb2w, hc2⟩ := HY.out (by omega)
        obtain ⟨rv', c2, hrv'⟩ := hc2 i hlt'
        obtain ⟨q, hq⟩ : ∃ q, decide (rowN ls i = rowN ls' i) = q := ⟨_, rfl⟩
        have HE := Lib.hid (equal_any rv rv' _ _ (w.drewN n) (hrv.later (later_drewN w n)) (hrv'.later (later_drewN w n)))
        rw [hq] at HE
        have HQ := Lib.hid hq
        have HS := Lib.hid hs
        have c1' : (w.drewN n).cell? ⟨b1, o1 + i, none⟩ = some rv := c1
        have c2' : (w.drewN n).cell? ⟨b2, o2 + i, none⟩ = some rv' := c2
        clear hc1 hc2 hrv hrv' hq hs
        cases q with
        | true =>
          go_wp2_with (refine HE.out.mono ?_; rintro e w1 ⟨rfl, n1, rfl⟩)
          go_roundw
          case rel =>
            have hsn : SameR (i + 1) ls ls' := fun r hr => by
              by_cases e : r = i
              · subst e; exact of_decide_eq_true HQ.out
              · exact HS.out r (by omega)
            exact ⟨i + 1, by omega, by go_num, hsn, _, rfl⟩
          case measure => simp [intOf]; omega
        | false =>
          have hne : decide (ls = ls') = false := by
            rw [decide_eq_false_iff_not]
            rintro rfl
            exact of_decide_eq_false HQ.out rfl
          go_wp2_with (refine HE.out.mono ?_; rintro e w1 ⟨rfl, n1, rfl⟩)
          go_ret
          exact ⟨ret_bool hne.symm, _, rfl⟩
      · obtain rfl : i = ls.length := by omega
        go_wp2_with fail
        go_ret
        exact ⟨ret_bool (decide_eq_true (sameR_all hs HL.out)).symm, _, rfl⟩
  · have hne : decide (ls = ls') = false := by rw [decide_eq_false_iff_not]; rintro rfl; exact hl rfl
    have hl' : ((ls.length : Int) == ls'.length) = false := by rw [beq_eq_false_iff_ne]; omega
    rw [hne]
    clear hne
    go_wp2_with fail
    go_ret
    exact ⟨rfl, 0, rfl⟩
theorem same_any (u v : Value) (ls ls' : List (List Int)) (w : World) (hx : SlR w u ls) (hy : SlR w v ls') :
    Calls Try.prog 15 #[u, v] w fun e w' => e = .returned (.bool (decide (ls = ls'))) ∧ ∃ n, w' = w.drewN n := by
  have H := Lib.hid (equalFunc_any u v ls ls' w hx hy)
  obtain ⟨a, c, rfl, -⟩ := hx.open
  obtain ⟨a', c', rfl, -⟩ := hy.open
  clear hx hy
  go_enter Try.func15, Try.ntmps15
  go_wp2_with (refine H.out.mono ?_; rintro e w1 ⟨rfl, n1, rfl⟩)
  go_ret
  exact ⟨rfl, _, rfl⟩

def smallR : List (List Int) := [[1, 3, 4, 7], [3, 4, 5, 7, 9], [0, 3, 7]]
set_option maxRecDepth 100000 in
theorem small_any (w : World) :
    Calls Try.prog 26 #[] w fun e w' => ∃ v, e = .returned v ∧ SlR w' v smallR ∧ Below w.heap.size w w' := by
  go_enter Try.func26, Try.ntmps26
  go_wp2
  go_ret
  have k1 : ∀ (W : World) (b : Nat) (xs : List Int), W.heap[b]? = some (.cells (xs.map (Value.int .u64)).toArray 40 (0, 0)) → (∀ x ∈ xs, (Lit.int .u64 x).wf = true) → xs ≠ [] → xs.length ≤ 9223372036854775807 → SlI .u64 W (.slice (some ⟨b, 0, none⟩) xs.length xs.length) xs := by
    intro W b xs hb hwf hne hl
    refine ⟨⟨some ⟨b, 0, none⟩, xs.length, by rw [List.length_map], by simp, by unfold maxLen; omega, fun e => (by cases e), fun _ => ⟨b, 0, rfl, lt_of_block hb, fun i u hu => ?_⟩⟩, hwf⟩
    rw [Nat.zero_add, box_cell hb]
    simpa using hu
  obtain ⟨W, hW⟩ : ∃ W, W = ((((w.alloc (.cells #[.int .u64 1, .int .u64 3, .int .u64 4, .int .u64 7] 40)).alloc (.cells #[.int .u64 3, .int .u64 4, .int .u64 5, .int .u64 7, .int .u64 9] 40)).alloc (.cells #[.int .u64 0, .int .u64 3, .int .u64 7] 40)).alloc (.cells #[.slice (some ⟨w.heap.size, 0, none⟩) 4 4, .slice (some ⟨w.heap.size + 1, 0, none⟩) 5 5, .slice (some ⟨w.heap.size + 1 + 1, 0, none⟩) 3 3] 32)) := ⟨_, rfl⟩
  have b1 : W.heap[w.heap.size]? = some (.cells #[.int .u64 1, .int .u64 3, .int .u64 4, .int .u64 7] 40 (0, 0)) := by
    rw [hW]; exact box_alloc (box_alloc (box_alloc (box_new w _ _) _) _) _
  have b2 : W.heap[w.heap.size + 1]? = some (.cells #[.int .u64 3, .int .u64 4, .int .u64 5, .int .u64 7, .int .u64 9] 40 (0, 0)) := by
    rw [hW]
    have := box_new (w.alloc (.cells #[.int .u64 1, .int .u64 3, .int .u64 4, .int .u64 7] 40)) #[.int .u64 3, .int .u64 4, .int .u64 5, .int .u64 7, .int .u64 9] 40
    rw [World.size_alloc] at this
    exact box_alloc (box_alloc this _) _
  have b3 : W.heap[w.heap.size + 1 + 1]? = some (.cells #[.int .u64 0, .int .u64 3, .int .u64 7] 40 (0, 0)) := by
    rw [hW]
    have := box_new ((w.alloc (.cells #[.int .u64 1, .int .u64 3, .int .u64 4, .int .u64 7] 40)).alloc (.cells #[.int .u64 3, .int .u64 4, .int .u64 5, .int .u64 7, .int .u64 9] 40)) #[.int .u64 0, .int .u64 3, .int .u64 7] 40
    rw [World.size_alloc, World.size_alloc] at this
    exact box_alloc this _
  have b4 : W.heap[w.heap.size + 1 + 1 + 1]? = some (.cells #[.slice (some ⟨w.heap.size, 0, none⟩) 4 4, .slice (some ⟨w.heap.size + 1, 0, none⟩) 5 5, .slice (some ⟨w.heap.size + 1 + 1, 0, none⟩) 3 3] 32 (0, 0)) := by
    rw [hW]
    have := box_new (((w.alloc (.cells #[.int .u64 1, .int .u64 3, .int .u64 4, .int .u64 7] 40)).alloc (.cells #[.int .u64 3, .int .u64 4, .int .u64 5, .int .u64 7, .int .u64 9] 40)).alloc (.cells #[.int .u64 0, .int .u64 3, .int .u64 7] 40)) #[.slice (some ⟨w.heap.size, 0, none⟩) 4 4, .slice (some ⟨w.heap.size + 1, 0, none⟩) 5 5, .slice (some ⟨w.heap.size + 1 + 1, 0, none⟩) 3 3] 32
    rw [World.size_alloc, World.size_alloc, World.size_alloc] at this
    exact this
  rw [← hW]
  refine ⟨.slice (some ⟨w.heap.size + 1 + 1 + 1, 0, none⟩) 3 3, rfl, ⟨fun r => if r = 0 then .slice (some ⟨w.heap.size, 0, none⟩) 4 4 else if r = 1 then .slice (some ⟨w.heap.size + 1, 0, none⟩) 5 5 else .slice (some ⟨w.heap.size + 1 + 1, 0, none⟩) 3 3, ?_, ?_⟩, ?_⟩
  · refine ⟨some ⟨w.heap.size + 1 + 1 + 1, 0, none⟩, 3, rfl, by simp [smallR], by decide, fun e => (by cases e), fun _ => ⟨w.heap.size + 1 + 1 + 1, 0, rfl, lt_of_block b4, fun i u hu => ?_⟩⟩
    rw [Nat.zero_add, box_cell b4]
    have hu' : ([.slice (some ⟨w.heap.size, 0, none⟩) 4 4, .slice (some ⟨w.heap.size + 1, 0, none⟩) 5 5, .slice (some ⟨w.heap.size + 1 + 1, 0, none⟩) 3 3] : List Value)[i]? = some u := hu
    simpa using hu'
  · intro r hr
    have hr' : r < 3 := hr
    have : r = 0 ∨ r = 1 ∨ r = 2 := by omega
    rcases this with rfl | rfl | rfl
    · exact k1 W _ [1, 3, 4, 7] b1 (by decide) (by decide) (by decide)
    · exact k1 W _ [3, 4, 5, 7, 9] b2 (by decide) (by decide) (by decide)
    · exact k1 W _ [0, 3, 7] b3 (by decide) (by decide) (by decide)
  · rw [hW]
    exact later_trans (later_alloc w _) (later_trans (later_alloc _ _) (later_trans (later_alloc _ _) (later_alloc _ _)))
end Go.Proofs.Ytenhpfhadbafbaa
