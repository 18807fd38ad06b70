/-
  slices.SortStableFunc of a short row of rows by length: some order of the same rows.
-/
import Derived.Test.YtenhpfhadbafbaaRows
import Derived.WalkKit
import Derived.WalkSpells
import Derived.WalkLawsBesides
import Derived.Deep.QuietTactic
import Derived.BigQuiet
import Derived.Outline
import Derived.WalkMore
import Derived.Test.YtenhpfhadbafbaaLeRows
namespace Go.Proofs.Ytenhpfhadbafbaa
open Go.RowKit
set_option linter.unusedVariables false

def cmpL (x y : Int) : Int := if x < y then -1 else if y < x then 1 else 0
theorem cmpL_neg {x y : Int} (h : x < y) : decide (cmpL x y < 0) = true := by unfold cmpL; rw [if_pos h]; rfl
theorem cmpL_not {x y : Int} (h : ¬ x < y) : decide (cmpL x y < 0) = false := by unfold cmpL; rw [if_neg h]; split <;> rfl
theorem isNaNI_any (x : Int) (w : World) : Calls Try.prog 48 #[.int .i64 x] w fun e w' => e = .returned (.bool false) ∧ w' = w := by
  have h : (x != x) = false := by simp
  go_enter Try.func48, Try.ntmps48
  go_wp2
  go_ret
  exact ⟨rfl, rfl⟩
theorem cmpL_any (x y : Int) (w : World) : Calls Try.prog 36 #[.int .i64 x, .int .i64 y] w fun e w' => e = .returned (.int .i64 (cmpL x y)) ∧ w' = w := by
  go_enter Try.func36, Try.ntmps36
  go_wp2_with (go_at_call 48; refine (isNaNI_any _ _).mono ?_; rintro e w' ⟨rfl, rfl⟩)
  · go_ret
    have h : x < y := by assumption
    exact ⟨by simp only [cmpL, if_pos h]; rfl, rfl⟩
  · go_ret
    have h : ¬ x < y := by omega
    have h' : y < x := by assumption
    exact ⟨by simp only [cmpL, if_neg h, if_pos h']; rfl, rfl⟩
  · go_ret
    have h : ¬ x < y := by omega
    have h' : ¬ y < x := by omega
    exact ⟨by simp only [cmpL, if_neg h, if_neg h']; rfl, rfl⟩
theorem meet1_any (a a' : Option Addr) (n n' c c' : Nat) (w : World) : Calls Try.prog 35 #[.slice a n c, .slice a' n' c'] w fun e w' => e = .returned (.int .i64 (cmpL n n')) ∧ w' = w := by
  go_enter Try.func35, Try.ntmps35
  go_wp2_with (go_at_call 36; refine (cmpL_any _ _ _).mono ?_; rintro e w' ⟨rfl, rfl⟩)
  go_ret
  exact ⟨rfl, rfl⟩

theorem swap_perm {α : Type} : ∀ (l : List α) (j : Nat) (h : j + 1 < l.length), ((l.set (j + 1) l[j]).set j l[j + 1]).Perm l
  | a :: b :: t, 0, _ => by simpa using List.Perm.swap a b t
  | a :: t, j + 1, h => by
    simp only [List.set_cons_succ, List.getElem_cons_succ]
    exact List.Perm.cons a (swap_perm t j (by simpa using h))

/-- A row of rows of the call's own. -/
structure RowsAt (w0 W : World) (g cap : Nat) (ps : List (Value × List Int)) : Prop where
  own : W.ownsRow w0.heap.size 32 1 (.slice (some ⟨g, 0, none⟩) ps.length cap) ps.length (ps.map Prod.fst)
  vals : ∀ p ∈ ps, SlI .u64 w0 p.1 p.2
  bel : Below w0.heap.size w0 W
section
variable {w0 W W' : World} {g cap : Nat} {ps : List (Value × List Int)}
theorem RowsAt.at_ (h : RowsAt w0 W g cap ps) {i : Nat} (hi : i < ps.length) : ∃ a c, ps[i].1 = .slice a ps[i].2.length c ∧ W.cell? ⟨g, i, none⟩ = some (.slice a ps[i].2.length c) ∧ W.frozen? ⟨g, i, none⟩ = false ∧ ps[i].2.length ≤ 9223372036854775807 := by
  obtain ⟨a, c, e, h1, h2, _⟩ := (h.vals ps[i] (List.getElem_mem hi)).open
  obtain ⟨k1, k2⟩ := owns_cell (j := i) (u := ps[i].1) h.own (by simp [List.getElem?_eq_getElem hi])
  exact ⟨a, c, e, by rw [k1, e], k2, by omega⟩
theorem RowsAt.later (h : RowsAt w0 W g cap ps) (hb : Below W.heap.size W W') : RowsAt w0 W' g cap ps := ⟨owns_later h.own hb, h.vals, later_trans h.bel hb⟩
theorem RowsAt.gw (h : RowsAt w0 W g cap ps) : w0.heap.size ≤ g := (h.own.lt g rfl).1
theorem RowsAt.swap (h : RowsAt w0 W g cap ps) {j : Nat} (hj : j + 1 < ps.length) : RowsAt w0 ((W.setCell ⟨g, j + 1, none⟩ ps[j].1).setCell ⟨g, j, none⟩ ps[j + 1].1) g cap ((ps.set (j + 1) ps[j]).set j ps[j + 1]) := by
  refine ⟨?_, fun p hp => h.vals p ((swap_perm ps j hj).mem_iff.1 hp), (h.bel.setCell (p := ⟨g, j + 1, none⟩) h.gw _).setCell (p := ⟨g, j, none⟩) h.gw _⟩
  have h1 := owns_set (j := j + 1) h.own ps[j].1
  have h2 := owns_set (j := j) h1 ps[j + 1].1
  simp only [List.length_set, List.map_set]
  exact h2
end

set_option maxRecDepth 100000 in
set_option maxHeartbeats 2000000 in
theorem insC_any {w0 w : World} {g cap : Nat} {ps : List (Value × List Int)} (h : RowsAt w0 w g cap ps) (hl : ps.length ≤ 1000) :
    Calls Try.prog 58 #[.slice (some ⟨g, 0, none⟩) ps.length cap, .int .i64 0, .int .i64 ps.length, .func (.func 35) #[] #[]] w fun e w' =>
      e = .returned (.tuple #[]) ∧ ∃ qs, qs.Perm ps ∧ RowsAt w0 w' g cap qs := by
  have H := Lib.hid h
  clear h
  go_enter Try.func58, Try.ntmps58
  go_wp2
  go_loopw [8] (fun vi wr => ∃ (i : Nat) (qs : List (Value × List Int)), vi = .int .i64 i ∧ 0 < i ∧ i ≤ ps.length + 1 ∧ qs.Perm ps ∧ RowsAt w0 wr g cap qs) (fun vi _ => ps.length + 1 - (intOf vi).toNat)
  case atStart => exact ⟨1, ps, rfl, by omega, by omega, List.Perm.refl _, H.out⟩
  case round =>
    obtain ⟨i, qs, rfl, hi0, hi, hp, hR⟩ := hrel
    have HP := Lib.hid hp
    have HR := Lib.hid hR
    clear hp hR
    by_cases hlt : i < ps.length
    · go_wp2
      go_loopw [9] (fun vj wr2 => ∃ (j : Nat) (qs : List (Value × List Int)), vj = .int .i64 j ∧ j ≤ i ∧ qs.Perm ps ∧ RowsAt w0 wr2 g cap qs) (fun vj _ => (intOf vj).toNat)
      case atStart => exact ⟨i, qs, rfl, Nat.le_refl _, HP.out, HR.out⟩
      case round =>
        obtain ⟨j, qs2, rfl, hj, hp2, hR2⟩ := hrel
        have hql := hp2.length_eq
        by_cases hj0 : j = 0
        · subst hj0
          have HP2 := Lib.hid hp2
          have HR2 := Lib.hid hR2
          clear hp2 hR2
          go_wp2
          go_quiet (fail)
          go_wp2
          go_roundw
          case rel => exact ⟨i + 1, qs2, by go_num, by omega, by omega, HP2.out, HR2.out.later (later_drewN _ _)⟩
          case measure => simp [intOf]; omega
        · obtain ⟨k, rfl⟩ : ∃ k, j = k + 1 := ⟨j - 1, by omega⟩
          have e1 : ((k + 1 : Nat) : Int) - 1 = k := by omega
          obtain ⟨a1, c1, e1', x1, f1, l1⟩ := hR2.at_ (show k < qs2.length by omega)
          obtain ⟨a2, c2, e2', x2, f2, l2⟩ := hR2.at_ (show k + 1 < qs2.length by omega)
          have HP2 := Lib.hid hp2
          have HR2 := Lib.hid hR2
          have HS := Lib.hid (And.intro e1' e2')
          clear hp2 hR2 e1' e2'
          obtain ⟨n1, hn1⟩ : ∃ n1, qs2[k].2.length = n1 := ⟨_, rfl⟩
          obtain ⟨n2, hn2⟩ : ∃ n2, qs2[k + 1].2.length = n2 := ⟨_, rfl⟩
          rw [hn1] at x1 l1
          rw [hn2] at x2 l2
          have HN := Lib.hid (And.intro hn1 hn2)
          clear hn1 hn2
          have hkI : (k : Int) + 1 < ps.length := by omega
          by_cases hc : (n2 : Int) < n1
          · have hd := cmpL_neg hc
            go_wp2
            go_quiet (first | (go_at_call 35; refine Calls.quiet_of_same (meet1_any _ _ _ _ _ _ _)))
            go_wp2
            go_region
            all_goals go_wp2
            have hsw := (HR2.out.later (later_drewN wr (nq + 1))).swap (j := k) (by omega)
            rw [HS.out.1, HS.out.2, HN.out.1, HN.out.2] at hsw
            exact ⟨⟨k, _, rfl, by omega, (swap_perm _ _ _).trans HP2.out, hsw⟩, by simp [intOf]⟩
          · have hd := cmpL_not hc
            go_wp2
            go_quiet (first | (go_at_call 35; refine Calls.quiet_of_same (meet1_any _ _ _ _ _ _ _)))
            go_wp2
            go_roundw
            case rel => exact ⟨i + 1, qs2, by go_num, by omega, by omega, HP2.out, HR2.out.later (later_drewN _ _)⟩
            case measure => simp [intOf]; omega
    · go_wp2
      go_end0
      exact ⟨rfl, qs, HP.out, HR.out⟩

set_option maxRecDepth 100000 in
set_option maxHeartbeats 2000000 in
theorem stableC_any {w0 w : World} {g cap : Nat} {ps : List (Value × List Int)} (h : RowsAt w0 w g cap ps) (hl : ps.length ≤ 19) :
    Calls Try.prog 54 #[.slice (some ⟨g, 0, none⟩) ps.length cap, .int .i64 ps.length, .func (.func 35) #[] #[]] w fun e w' =>
      e = .returned (.tuple #[]) ∧ ∃ qs, qs.Perm ps ∧ RowsAt w0 w' g cap qs := by
  have H := Lib.hid h
  clear h
  go_enter Try.func54, Try.ntmps54
  go_wp2
  go_loopw [7, 8] (fun va vb wr => va = .int .i64 0 ∧ vb = .int .i64 20 ∧ wr = w) (fun _ _ _ => 0)
  case atStart => exact ⟨rfl, rfl, rfl⟩
  case round =>
    obtain ⟨rfl, rfl, rfl⟩ := hrel
    go_wp2_with first
      | (go_at_call 58; refine (insC_any H.out (by omega)).mono ?_; rintro e w1 ⟨rfl, qs, hp, hR⟩; have HE := Lib.hid (And.intro hp hR); clear hp hR)
      | fail
    go_loopw [6] (fun va wr2 => va = .int .i64 20 ∧ wr2 = w1) (fun _ _ => 0)
    case atStart => exact ⟨rfl, rfl⟩
    case round =>
      obtain ⟨rfl, rfl⟩ := hrel
      go_wp2
      go_end0
      exact ⟨rfl, qs, HE.out.1, HE.out.2⟩
theorem sortStable_any {w0 w : World} {g cap : Nat} {ps : List (Value × List Int)} (h : RowsAt w0 w g cap ps) (hl : ps.length ≤ 19) :
    Calls Try.prog 46 #[.slice (some ⟨g, 0, none⟩) ps.length cap, .func (.func 35) #[] #[]] w fun e w' =>
      e = .returned (.tuple #[]) ∧ ∃ qs, qs.Perm ps ∧ RowsAt w0 w' g cap qs := by
  have H := Lib.hid (stableC_any h hl)
  clear h
  go_enter Try.func46, Try.ntmps46
  go_wp2_with first
    | (go_at_call 54; refine H.out.mono ?_; rintro e w1 ⟨rfl, qs, hp, hR⟩)
    | fail
  go_end0
  exact ⟨rfl, qs, hp, hR⟩
end Go.Proofs.Ytenhpfhadbafbaa
