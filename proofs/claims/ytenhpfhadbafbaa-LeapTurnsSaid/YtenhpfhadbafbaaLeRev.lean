/-
  slices.Reverse of rows of the call's own, and slices.IsSorted, walked.
-/
import Derived.Test.YtenhpfhadbafbaaLeMine
namespace Go.Proofs.Ytenhpfhadbafbaa
open Go.RowKit
set_option linter.unusedVariables false

theorem OwnR.swap {base : Nat} {W : World} {g cap : Nat} {ps : List (Value × List Int)} (h : OwnR base W (.slice (some ⟨g, 0, none⟩) ps.length cap) ps) {i j : Nat} (hi : i < ps.length) (hj : j < ps.length) : OwnR base ((W.setCell ⟨g, i, none⟩ ps[j].1).setCell ⟨g, j, none⟩ ps[i].1) (.slice (some ⟨g, 0, none⟩) ps.length cap) ((ps.set i ps[j]).set j ps[i]) := by
  have h1 := owns_set (j := i) h.own ps[j].1
  have h2 := owns_set (j := j) h1 ps[i].1
  refine ⟨?_, fun p hp => ?_⟩
  · simp only [List.length_set, List.map_set]
    exact h2
  · have hp' := (List.set_set_perm hi hj).mem_iff.1 hp
    have := h.rows p hp'
    exact ⟨own_set_other h1 (own_set_other h.own this.1 (by decide) _) (by decide) _, this.2⟩
theorem grown_none' (w : World) (o : Option Nat) : w.grownBy w o := ⟨rfl, rfl, rfl, Nat.le_refl _, fun _ _ _ => rfl⟩
theorem grown_set {w w' : World} {g n cap : Nat} (h : w.grownBy w' (Value.slice (some ⟨g, 0, none⟩) n cap).ownBlock) (i : Nat) (u : Value) : w.grownBy (w'.setCell ⟨g, i, none⟩ u) (Value.slice (some ⟨g, 0, none⟩) n cap).ownBlock :=
  ⟨h.os, h.tape, h.output, Nat.le_trans h.size (by simp), fun b hb hne => (heap_setCell_other _ ⟨g, i, none⟩ b _ (fun e => hne (by rw [e]; rfl))).trans (h.block b hb hne)⟩
theorem OwnR.at_ {base : Nat} {W : World} {g cap : Nat} {ps : List (Value × List Int)} (h : OwnR base W (.slice (some ⟨g, 0, none⟩) ps.length cap) ps) {i : Nat} (hi : i < ps.length) : W.cell? ⟨g, i, none⟩ = some ps[i].1 ∧ W.frozen? ⟨g, i, none⟩ = false :=
  owns_cell (j := i) (u := ps[i].1) h.own (by simp [List.getElem?_eq_getElem hi])

set_option maxRecDepth 100000 in
set_option maxHeartbeats 2000000 in
theorem reverse_any {base : Nat} {w : World} {v : Value} {ps : List (Value × List Int)} (h : OwnR base w v ps) (hl : ps.length ≤ 1000) (hB : base ≤ w.heap.size) :
    Calls Try.prog 19 #[v] w fun e w' => e = .returned (.tuple #[]) ∧ ∃ qs, qs.Perm ps ∧ OwnR base w' v qs ∧ w.grownBy w' v.ownBlock := by
  obtain ⟨a, c, rfl⟩ := owns_shape2 h.own
  have H := Lib.hid h
  have hag : 0 < ps.length → ∃ g, a = some ⟨g, 0, none⟩ ∧ base ≤ g := fun h0 => by
    obtain ⟨k, hk⟩ : ∃ k, ps.length = k + 1 := ⟨ps.length - 1, by omega⟩
    have ho := h.own
    rw [hk] at ho
    obtain ⟨g, c', e⟩ := ownsRow_succ ho
    cases e
    exact ⟨g, rfl, (ho.lt g rfl).1⟩
  clear h
  go_enter Try.func19, Try.ntmps19
  go_wp2
  go_loopw [2, 3] (fun vi vj wr => ∃ (i j : Int) (qs : List (Value × List Int)), vi = .int .i64 i ∧ vj = .int .i64 j ∧ 0 ≤ i ∧ i ≤ 1000 ∧ -1000 ≤ j ∧ j + i = (ps.length : Int) - 1 ∧ qs.Perm ps ∧ OwnR base wr (.slice a ps.length c) qs ∧ w.grownBy wr (Value.slice a ps.length c).ownBlock) (fun _ vj _ => (intOf vj + 1001).toNat)
  case atStart => exact ⟨0, (ps.length : Int) - 1, ps, rfl, by go_num, by omega, by omega, by omega, by omega, List.Perm.refl _, H.out, grown_none' w _⟩
  case round =>
    obtain ⟨i, j, qs, rfl, rfl, hi0, hi1, hj0, hij, hp, hO, hb⟩ := hrel
    have hql := hp.length_eq
    by_cases hlt : i < j
    · obtain ⟨g, rfl, hg⟩ := hag (by omega)
      obtain ⟨m, rfl⟩ : ∃ m : Nat, i = m := ⟨i.toNat, by omega⟩
      obtain ⟨n, rfl⟩ : ∃ n : Nat, j = n := ⟨j.toNat, by omega⟩
      rw [← hql] at hO
      obtain ⟨x1, f1⟩ := hO.at_ (show m < qs.length by omega)
      obtain ⟨x2, f2⟩ := hO.at_ (show n < qs.length by omega)
      have hsw : ∃ rs : List (Value × List Int), rs.Perm ps ∧ rs.length = ps.length ∧ OwnR base ((wr.setCell ⟨g, m, none⟩ qs[n].1).setCell ⟨g, n, none⟩ qs[m].1) (.slice (some ⟨g, 0, none⟩) qs.length c) rs :=
        ⟨(qs.set m qs[n]).set n qs[m], (List.set_set_perm (show m < qs.length by omega) (show n < qs.length by omega)).trans hp, by simp [hql], hO.swap (by omega) (by omega)⟩
      obtain ⟨y1, y2, hu1⟩ := owns_shape2 (hO.rows qs[m] (List.getElem_mem _)).1
      obtain ⟨z1, z2, hu2⟩ := owns_shape2 (hO.rows qs[n] (List.getElem_mem _)).1
      obtain ⟨n1, hn1⟩ : ∃ n1, qs[m].2.length = n1 := ⟨_, rfl⟩
      obtain ⟨n2, hn2⟩ : ∃ n2, qs[n].2.length = n2 := ⟨_, rfl⟩
      rw [hn1] at hu1
      rw [hn2] at hu2
      rw [hu1] at x1 hsw
      rw [hu2] at x2 hsw
      obtain ⟨rs, hrs, hrl, hsw⟩ := hsw
      rw [hql] at hsw
      have HS := Lib.hid (And.intro hsw (And.intro hrs hb))
      have hmn : (m : Nat) ≠ n := by omega
      have l1 : (m : Int) < ps.length := by omega
      have l2 : (n : Int) < ps.length := by omega
      clear hO hsw hb hu1 hu2 hp hrs hrl hn1 hn2
      go_wp2
      go_region
      all_goals go_wp2
      all_goals
        have hbs := grown_set (grown_set HS.out.2.2 m (.slice z1 n2 z2)) n (.slice y1 n1 y2)
        exact ⟨⟨(m : Int) + 1, (n : Int) - 1, rs, rfl, rfl, by omega, by omega, by omega, by omega, HS.out.2.1, HS.out.1.later (later_drew _), ⟨hbs.os, hbs.tape, hbs.output, hbs.size, hbs.block⟩⟩, by simp [intOf]; omega⟩
    · go_wp2
      go_end0
      exact ⟨rfl, qs, hp, hO, hb⟩

theorem isNaNR_any (x : Int) (w : World) : Calls Try.prog 51 #[.int .u64 x] w fun e w' => e = .returned (.bool false) ∧ w' = w := by
  have h : (x != x) = false := by simp
  go_enter Try.func51, Try.ntmps51
  go_wp2
  go_ret
  exact ⟨rfl, rfl⟩
set_option maxHeartbeats 1000000 in
theorem lessR_any (x y : Int) (h : (x < y) = False) (w : World) : Calls Try.prog 40 #[.int .u64 x, .int .u64 y] w fun e w' => e = .returned (.bool false) ∧ w' = w := by
  go_enter Try.func40, Try.ntmps40
  go_wp2_with (go_at_call 51; refine (isNaNR_any _ _).mono ?_; rintro e w' ⟨rfl, rfl⟩)
  go_ret
  exact ⟨rfl, rfl⟩
set_option maxRecDepth 100000 in
set_option maxHeartbeats 2000000 in
/-- slices.IsSorted of a row that rises. -/
theorem isSorted_any (v : Value) (xs : List Int) (w : World) (h : SlI .u64 w v xs) (hr : risesB xs = true) :
    Calls Try.prog 21 #[v] w fun e w' => e = .returned (.bool true) ∧ Below w.heap.size w w' := by
  obtain ⟨a, c, rfl, h1, h2, h3, h4⟩ := h.open
  have HX := Lib.hid h4
  have HR := Lib.hid hr
  have hm : xs.length ≤ 9223372036854775807 := by omega
  clear h h1 h2 h3 h4 hr
  go_enter Try.func21, Try.ntmps21
  go_wp2
  go_loopw [3] (fun vi wr => ∃ i : Int, vi = .int .i64 i ∧ -1 ≤ i ∧ i < xs.length ∧ Below w.heap.size w wr) (fun vi _ => (intOf vi + 1).toNat)
  case atStart => exact ⟨(xs.length : Int) - 1, by go_num, by omega, by omega, later_refl w⟩
  case round =>
    obtain ⟨i, rfl, hi0, hi1, hw⟩ := hrel
    by_cases hlt : 0 < i
    · obtain ⟨k, rfl⟩ : ∃ k : Nat, i = (k : Int) := ⟨i.toNat, by omega⟩
      obtain ⟨b, o, rfl, hb, hc⟩ := HX.out (by omega)
      obtain ⟨G, hG⟩ : ∃ G : Nat → Int, ∀ t, (ht : t < xs.length) → G t = xs[t] := ⟨fun t => xs.getD t 0, fun t ht => getD_at ht⟩
      have hcw : ∀ t, t < xs.length → wr.cell? ⟨b, o + t, none⟩ = some (.int .u64 (G t)) := fun t ht => by
        rw [hG t ht]; exact ((bcell hw).1 b (o + t) hb).trans (hc t ht)
      have hkl : k < xs.length := by omega
      obtain ⟨k', hk'⟩ : ∃ k', k - 1 = k' := ⟨_, rfl⟩
      have hwr : IntKind.i64.wrap ((k : Int) - 1) = (k' : Int) := by rw [wrap_i64 (by omega) (by omega)]; omega
      have hkl' : k' < xs.length := by omega
      have HW := Lib.hid hw
      have hlf : (G k < G (k - 1)) = False := eq_false (by
        have := rises_lt HR.out (show k - 1 < k by omega) (show k < xs.length by omega)
        rw [hG k (by omega), hG (k - 1) (by omega)]
        omega)
      rw [hk'] at hlf
      have c1 := hcw k hkl
      have c2 := hcw k' hkl'
      have HK := Lib.hid hk'
      clear hc hG hw hcw hk'
      go_wp2
      go_quiet (first | (go_at_call 40; refine Calls.quiet_of_same (lessR_any _ _ hlf _)))
      go_wp2
      go_roundw
      case rel => exact ⟨(k' : Int), by first | rfl | go_num, by omega, by omega, later_trans HW.out (later_drewN _ _)⟩
      case measure => have := HK.out; simp [intOf]; omega
    · go_wp2
      go_ret
      exact ⟨rfl, hw⟩
end Go.Proofs.Ytenhpfhadbafbaa
