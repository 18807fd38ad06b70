/-
  Some pairs taken out of a row of the call's own: Cut's function, slices.IndexFunc, slices.DeleteFunc, walked.
-/
import Derived.Test.YtdfnfdgkhflonaaRows
import Derived.WalkKit
import Derived.WalkSpells
import Derived.WalkLawsBesides
import Derived.Deep.QuietTactic
import Derived.BigQuiet
import Derived.Outline
import Derived.WalkMore
import Derived.Deep.RegionHeld3
import Derived.Test.YtdfnfdgkhflonaaBase
import Derived.Test.YtdfnfdgkhflonaaBase2
import Derived.Test.YtdfnfdgkhflonaaTLib
import Derived.Test.YtdfnfdgkhflonaaTRunC
import Derived.Test.YtdfnfdgkhflonaaTOwn2
import Derived.Test.YtdfnfdgkhflonaaTOfP
namespace Go.Proofs.Ytdfnfdgkhflonaa
open Go.RowKit
set_option linter.unusedVariables false

/-- Is a pair taken out? -/
def cutB (f t : Int) (p : Pr) : Bool := decide (p.a < f) || decide (t ≤ p.a)

set_option maxHeartbeats 1000000 in
theorem cut1_any (f t : Int) (p : Pr) (P Q : Nat) (W : World) (hP : W.heap[P]? = some (.cells #[.int .u64 f] 38 (0, 0))) (hQ : W.heap[Q]? = some (.cells #[.int .u64 t] 38 (0, 0))) :
    Calls Try.prog 90 #[.agg #[.int .u64 p.a, .int .u64 p.b], .pointer (some ⟨P, 0, none⟩), .pointer (some ⟨Q, 0, none⟩)] W fun e w' => e = .returned (.bool (cutB f t p)) ∧ Below W.heap.size W w' := by
  have p0 := box_cell (i := 0) hP
  have q0 := box_cell (i := 0) hQ
  simp at p0 q0
  have hPl := lt_of_block hP
  have hQl := lt_of_block hQ
  go_enter Try.func90, Try.ntmps90
  by_cases h1 : p.a < f
  · have h1d : decide (p.a < f) = true := decide_eq_true h1
    have hv : cutB f t p = true := by simp [cutB, h1]
    rw [hv]
    clear h1 hv
    go_wp2
    go_ret
    exact ⟨rfl, by first | exact later_alloc W _ | exact later_trans (later_alloc W _) (later_drewN _ _)⟩
  · have h1d : decide (p.a < f) = false := decide_eq_false h1
    by_cases h2 : t ≤ p.a
    · have h2d : decide (t ≤ p.a) = true := decide_eq_true h2
      have hv : cutB f t p = true := by simp [cutB, h2]
      rw [hv]
      clear h1 h2 hv
      go_wp2
      go_ret
      exact ⟨rfl, by first | exact later_alloc W _ | exact later_trans (later_alloc W _) (later_drewN _ _)⟩
    · have h2d : decide (t ≤ p.a) = false := decide_eq_false h2
      have hv : cutB f t p = false := by simp [cutB, h1d, h2d]
      rw [hv]
      clear h1 h2 hv
      go_wp2
      go_ret
      exact ⟨rfl, by first | exact later_alloc W _ | exact later_trans (later_alloc W _) (later_drewN _ _)⟩

set_option maxRecDepth 100000 in
set_option maxHeartbeats 1000000 in
theorem indexF_any (v : Value) (l : List Pr) (f t : Int) (P Q : Nat) (w : World) (h : SlP w v l) (hP : w.heap[P]? = some (.cells #[.int .u64 f] 38 (0, 0))) (hQ : w.heap[Q]? = some (.cells #[.int .u64 t] 38 (0, 0))) :
    Calls Try.prog 97 #[v, .func (.func 90) #[] #[.pointer (some ⟨P, 0, none⟩), .pointer (some ⟨Q, 0, none⟩)]] w fun e w' =>
      ((e = .returned (.int .i64 (-1)) ∧ ∀ j, (hj : j < l.length) → cutB f t l[j] = false) ∨ (∃ i : Nat, ∃ hi : i < l.length, e = .returned (.int .i64 i) ∧ cutB f t l[i] = true ∧ ∀ j, (hj : j < i) → cutB f t l[j] = false)) ∧ Below w.heap.size w w' := by
  obtain ⟨a, c, rfl, h1, h2, h3, h4⟩ := h.open
  have HX := Lib.hid h4
  have hm : l.length ≤ 9223372036854775807 := by omega
  clear h h1 h2 h3 h4
  go_enter Try.func97, Try.ntmps97
  go_wp2
  go_loopw [8] (fun k wr => ∃ i : Nat, i ≤ l.length ∧ k = .int .i64 i ∧ (∀ j, j < i → (hj : j < l.length) → cutB f t l[j] = false) ∧ Below w.heap.size w wr) (fun k _ => l.length - (intOf k).toNat)
  case atStart => exact ⟨0, Nat.zero_le _, rfl, fun j hj => by omega, later_refl w⟩
  case round =>
    obtain ⟨i, hi, rfl, hno, hb⟩ := hrel
    by_cases hlt : i < l.length
    · obtain ⟨bb, o, rfl, hbw, hcs⟩ := HX.out (by omega)
      obtain ⟨ha, hb2⟩ := hcs i hlt
      have ha := ((bcell hb).1 bb (o + i * 2) hbw).trans ha
      have hb2 := ((bcell hb).1 bb (o + i * 2 + 1) hbw).trans hb2
      obtain ⟨p, hp⟩ : ∃ p, l[i] = p := ⟨_, rfl⟩
      have HP := Lib.hid hp
      rw [hp] at ha hb2
      have HC := Lib.hid (cut1_any f t p P Q wr ((hb.block _ (lt_of_block hP)).trans hP) ((hb.block _ (lt_of_block hQ)).trans hQ))
      have HNO := Lib.hid hno
      clear hcs hp hno
      cases hcut : cutB f t p with
      | true =>
        rw [hcut] at HC
        have HCU := Lib.hid hcut
        clear hcut
        go_wp2_with (go_at_call 90; refine HC.out.mono ?_; rintro e w2 ⟨rfl, hb3⟩)
        go_ret
        exact ⟨Or.inr ⟨i, hlt, rfl, by rw [HP.out]; exact HCU.out, fun j hj => HNO.out j hj (by omega)⟩, later_trans hb hb3⟩
      | false =>
        rw [hcut] at HC
        have HCU := Lib.hid hcut
        clear hcut
        go_wp2_with (go_at_call 90; refine HC.out.mono ?_; rintro e w2 ⟨rfl, hb3⟩)
        go_roundw
        case rel => exact ⟨i + 1, by omega, by go_num, fun j hj hj' => by
          by_cases e : j = i
          · subst e; rw [HP.out]; exact HCU.out
          · exact HNO.out j (by omega) hj', later_trans hb hb3⟩
        case measure => simp [intOf]; omega
    · go_wp2
      go_ret
      exact ⟨Or.inl ⟨rfl, fun j hj => hno j (by omega) hj⟩, hb⟩
end Go.Proofs.Ytdfnfdgkhflonaa
