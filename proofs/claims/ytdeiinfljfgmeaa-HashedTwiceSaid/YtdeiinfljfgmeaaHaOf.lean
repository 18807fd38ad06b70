/-
  hashed.of: the relation of rows, walked.
-/
import Derived.Test.YtdeiinfljfgmeaaHaSort
import Derived.Test.YtdeiinfljfgmeaaHaComp
namespace Go.Proofs.Ytdeiinfljfgmeaa
open Go.RowKit
set_option linter.unusedVariables false
set_option linter.unusedSimpArgs false

theorem onceP_len (ps : List (Value × List Int)) : ∀ i, (onceP ps i).length ≤ i
  | 0 => Nat.le_refl _
  | i + 1 => by
    have ih := onceP_len ps i
    unfold onceP
    split
    · simp; omega
    · omega
/-- Rows in order, each once: they rise, and are the same ones. -/
theorem once_rise {n : Nat} {ps : List (Value × List Int)} (hw : Wd n (ps.map Prod.snd)) (hs : SortedR (ps.map Prod.snd)) : ∀ i, i ≤ ps.length → RiseR ((onceP ps i).map Prod.snd) ∧ ∀ x, x ∈ (onceP ps i).map Prod.snd ↔ x ∈ (ps.map Prod.snd).take i
  | 0, _ => ⟨List.Pairwise.nil, fun x => by simp [onceP]⟩
  | i + 1, hi => by
    obtain ⟨h1, h2⟩ := once_rise hw hs i (by omega)
    have hil : i < ps.length := by omega
    have hlen : (ps.map Prod.snd).length = ps.length := List.length_map _
    have hwr : ∀ j, j < ps.length → (rowN (ps.map Prod.snd) j).length = n := fun j hj => hw _ (rowN_mem (by rw [hlen]; exact hj))
    have hrow : ∀ j, j < ps.length → rowN (ps.map Prod.snd) j = (pN ps j).2 := fun j hj => by rw [rowN_at (by rw [hlen]; exact hj), List.getElem_map, pN_at hj]
    have htk : (ps.map Prod.snd).take (i + 1) = (ps.map Prod.snd).take i ++ [(pN ps i).2] := by
      rw [List.take_succ_eq_append_getElem (by rw [hlen]; exact hil), List.getElem_map, pN_at hil]
    by_cases hc : i = 0 ∨ (pN ps (i - 1)).2 ≠ (pN ps i).2
    · rw [onceP_yes hc, List.map_append, htk]
      refine ⟨List.pairwise_append.2 ⟨h1, List.pairwise_singleton _ _, fun a ha b hb => ?_⟩, fun x => by rw [List.mem_append, List.mem_append, h2]; rfl⟩
      obtain rfl := List.mem_singleton.1 hb
      obtain ⟨j, hj, e⟩ := List.getElem_of_mem ((h2 a).1 ha)
      rw [List.length_take, hlen] at hj
      have ea : rowN (ps.map Prod.snd) j = a := by rw [rowN_at (by rw [hlen]; omega), ← e, List.getElem_take]
      have hji := hs j i (by omega) (by rw [hlen]; exact hil)
      rw [ea, hrow i hil] at hji
      have hla : a.length = n := by rw [← ea]; exact hwr j (by omega)
      have hlb : ((pN ps i).2).length = n := by rw [← hrow i hil]; exact hwr i hil
      rcases lexC_cases a (pN ps i).2 with q | q | q
      · exact q
      · exfalso
        have hab := lexC_eq (by rw [hla, hlb]) q
        rcases hc with hc | hc
        · omega
        · refine hc (lexC_eq (by rw [← hrow (i - 1) (by omega), hwr _ (by omega), hlb]) ?_)
          have g1 := hs (i - 1) i (by omega) (by rw [hlen]; exact hil)
          rw [hrow (i - 1) (by omega), hrow i hil] at g1
          rcases lexC_cases (pN ps (i - 1)).2 (pN ps i).2 with r | r | r
          · exfalso
            by_cases e2 : j = i - 1
            · subst e2
              rw [hrow (i - 1) (by omega)] at ea
              rw [ea, hab, lexC_self] at r
              omega
            · have g2 := hs j (i - 1) (by omega) (by rw [hlen]; omega)
              rw [ea, hrow (i - 1) (by omega), hab] at g2
              exact g2 r
          · exact r
          · exact absurd (by rw [lexC_neg, r]) g1
      · exact absurd (by rw [lexC_neg, q]) hji
    · have hc' : (pN ps (i - 1)).2 = (pN ps i).2 ∧ 0 < i := by
        constructor
        · exact Classical.byContradiction fun h => hc (.inr h)
        · exact Nat.pos_of_ne_zero fun h => hc (.inl h)
      rw [onceP_no hc'.1 hc'.2, htk]
      refine ⟨h1, fun x => ?_⟩
      rw [h2, List.mem_append, List.mem_singleton]
      constructor
      · exact fun h => .inl h
      · rintro (h | h)
        · exact h
        · subst h
          rw [← hc'.1, ← hrow (i - 1) (by omega)]
          have hlt : i - 1 < ((ps.map Prod.snd).take i).length := by rw [List.length_take, hlen]; omega
          have := List.getElem_mem hlt
          rw [List.getElem_take] at this
          rw [rowN_at (by rw [hlen]; omega)]
          exact this
theorem once_ofL {n : Nat} {ps : List (Value × List Int)} (hw : Wd n (ps.map Prod.snd)) (hs : SortedR (ps.map Prod.snd)) : (onceP ps ps.length).map Prod.snd = ofL (ps.map Prod.snd) := by
  obtain ⟨h1, h2⟩ := once_rise hw hs ps.length (Nat.le_refl _)
  refine ofL_is hw h1 fun x => ?_
  rw [h2, List.take_of_length_le (by rw [List.length_map]; omega)]
set_option maxHeartbeats 1000000 in
theorem ofEq_any {x n : Nat} {va vb : Value} {a b : List Int} {W : World} (hx : W.heap[x]? = some (.cells #[.func (.func 56) #[.agg #[.int .i64 (n : Int)]] #[]] 81 (0, 0))) (ha : SlI .u64 W va a) (hb : SlI .u64 W vb b) (hal : a.length = n) (hbl : b.length = n) :
    Calls Try.prog 63 #[va, vb, .pointer (some ⟨x, 0, none⟩)] W fun e w' => e = .returned (.bool (decide (a = b))) ∧ Below W.heap.size W w' := by
  have hE : Enters 56 := enters_of Try.func56 (by kernel_rfl) rfl
  unfold Enters at hE
  have hC := compare_any n va vb a b W ha hb hal hbl
  have hq : (lexC a b == 0) = decide (a = b) := by
    by_cases e : a = b
    · rw [decide_eq_true e, e, lexC_self]; rfl
    · rw [decide_eq_false e]
      exact beq_eq_false_iff_ne.2 fun h => e (lexC_eq (by rw [hal, hbl]) h)
  rw [← hq]
  obtain ⟨lx, hlx⟩ : ∃ lx, lexC a b = lx := ⟨_, rfl⟩
  rw [hlx] at hC ⊢
  have c0 : W.cell? ⟨x, 0, none⟩ = some (.func (.func 56) #[.agg #[.int .i64 (n : Int)]] #[]) := by simpa using box_cell (i := 0) hx
  have HC := Lib.hid hC
  obtain ⟨aa, ca, rfl, -⟩ := ha.open
  obtain ⟨ab, cb, rfl, -⟩ := hb.open
  clear ha hb hC hq hlx hx hal hbl
  go_enter Try.func63, Try.ntmps63
  go_wp2_with fail
  refine HC.out.mono ?_
  rintro e w' ⟨rfl, q, rfl⟩
  go_wp2_with fail
  go_ret
  exact ⟨rfl, later_trans (later_alloc W (.cells #[.int .i64 (n : Int)] 83)) (later_drewN _ q)⟩
/-- A relation of the call's own. -/
structure OwnRl (base : Nat) (W : World) (vv rv : Value) (R : Rl) : Prop where
  vars : W.ownsRow base 3 1 vv R.vars.length (R.vars.map (.int .i64))
  wf : ∀ x ∈ R.vars, (Lit.int .i64 x).wf = true
  rows : ∃ ps, OwnRK .u64 38 26 base W rv ps ∧ ps.map Prod.snd = R.rows
theorem OwnRl.rlR {base : Nat} {W : World} {vv rv : Value} {R : Rl} (h : OwnRl base W vv rv R) : RlR W vv rv R := by
  obtain ⟨ps, h1, h2⟩ := h.rows
  exact ⟨SlI.of_owns h.vars h.wf, h2 ▸ h1.slR⟩
theorem OwnRl.later {base : Nat} {W W' : World} {vv rv : Value} {R : Rl} (h : OwnRl base W vv rv R) (hb : Below W.heap.size W W') : OwnRl base W' vv rv R := by
  obtain ⟨ps, h1, h2⟩ := h.rows
  exact ⟨owns_later h.vars hb, h.wf, ps, h1.later hb, h2⟩
/-- What stands while the rows are laid. -/
structure OfW (wA : World) (vv : Value) (L : List (List Int)) (W : World) : Prop where
  bel : Below wA.heap.size wA W
  out : ∃ v ps, RB W wA.heap.size vv v ∧ OwnRK .u64 38 26 (wA.heap.size + 1) W v ps ∧ ps.map Prod.snd = L
theorem OfW.next {wA wr wC w6 : World} {vv : Value} {L : List (List Int)} {av avc : Option Addr} {cv q cvc g6 cap6 : Nat} {ps : List (Value × List Int)} {xs : List Int} (h : OfW wA vv L wr)
    (hX : RB wr wA.heap.size vv (.slice av ps.length cv)) (hown : OwnRK .u64 38 26 (wA.heap.size + 1) wr (.slice av ps.length cv) ps) (hps : ps.map Prod.snd = L) (bC : Below wr.heap.size wr wC) (hoC : wC.ownsRow wr.heap.size 38 1 (.slice avc q cvc) q (xs.map (.int .u64))) (hq : xs.length = q) (hwf : ∀ x ∈ xs, (Lit.int .u64 x).wf = true)
    (hown6 : w6.ownsRow (wA.heap.size + 1) 26 1 (.slice (some ⟨g6, 0, none⟩) (ps.length + 1) cap6) (ps.length + 1) (ps.map Prod.fst ++ [.slice avc q cvc])) (hgrow6 : (wC.alloc (.cells #[.slice avc q cvc] 26)).grownBy w6 (Value.slice av ps.length cv).ownBlock) :
    OfW wA vv (L ++ [xs]) (w6.setCell ⟨wA.heap.size, 1, none⟩ (.slice (some ⟨g6, 0, none⟩) (ps.length + 1) cap6)) := by
  have hA := later_trans bC (later_alloc wC (.cells #[.slice avc q cvc] 26))
  have hownA := owns_later hown.own hA
  have hX6 := box_grown hownA hgrow6 (kept hA hX) (by decide)
  have hXw := lt_of_block hX
  have hszA := hA.size
  refine ⟨below_set ((h.bel.trans (hA.mono h.bel.size)).grown hgrow6 (by omega) (fun k e => Nat.le_trans (Nat.le_succ _) (owns_above hownA k e))) (Nat.le_refl _), .slice (some ⟨g6, 0, none⟩) (ps.length + 1) cap6, ps ++ [(.slice avc q cvc, xs)], ?_, ⟨?_, fun p hp => ?_⟩, by rw [List.map_append, hps]; rfl⟩
  · have h := box_set (i := 1) hX6 (.slice (some ⟨g6, 0, none⟩) (ps.length + 1) cap6)
    simpa [RB] using h
  · have := own_set hown6 hX6 (by decide) (i := 1) (.slice (some ⟨g6, 0, none⟩) (ps.length + 1) cap6)
    simpa using this
  · rcases List.mem_append.1 hp with hp | hp
    · exact ⟨own_set (own_grown hownA hgrow6 (owns_later (hown.rows p hp).1 hA) (by decide)) hX6 (by decide) _, (hown.rows p hp).2⟩
    · obtain rfl := List.mem_singleton.1 hp
      refine ⟨?_, hwf⟩
      show World.ownsRow _ _ _ _ (.slice avc q cvc) xs.length _
      rw [hq]
      exact own_set (own_grown hownA hgrow6 (owns_later (owns_down hoC (by omega)) (later_alloc _ _)) (by decide)) hX6 (by decide) _
end Go.Proofs.Ytdeiinfljfgmeaa
