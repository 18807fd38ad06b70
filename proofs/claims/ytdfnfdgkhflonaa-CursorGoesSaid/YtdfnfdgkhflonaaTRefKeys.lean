/-
  The document's Keys at paths of none and of two and more numbers, walked.
-/
import Derived.Test.YtdfnfdgkhflonaaRows
import Derived.WalkKit
import Derived.WalkSpells
import Derived.WalkLawsBesides
import Derived.Deep.QuietTactic
import Derived.BigQuiet
import Derived.Outline
import Derived.Test.YtdfnfdgkhflonaaBase
import Derived.Test.YtdfnfdgkhflonaaBase2
import Derived.Test.YtdfnfdgkhflonaaLib
import Derived.Test.YtdfnfdgkhflonaaTOwn2
namespace Go.Proofs.Ytdfnfdgkhflonaa
open Go.RowKit
set_option linter.unusedVariables false

set_option maxRecDepth 100000 in
set_option maxHeartbeats 2000000 in
theorem refkeys0_any (vb vl : Value) (ap : Option Addr) (cp : Nat) (B : List Br) (w : World) (hB : SlB w vb B) (hl : B.length ≤ 1048576) :
    Calls Try.prog 43 #[.agg #[vb, vl], .slice ap 0 cp] w fun e w' => ∃ v', e = .returned v' ∧ w'.ownsRow w.heap.size 38 1 v' (B.map Br.k).length ((B.map Br.k).map (.int .u64)) ∧ Below w.heap.size w w' := by
  obtain ⟨i0, hi, hz0, hz1, hz2⟩ := info_parts info_u64
  obtain ⟨a, c, rfl, h1, h2, h3, h4⟩ := hB.open
  have HX := Lib.hid h4
  clear h1 h2 h3 h4 hB
  go_enter Try.func43, Try.ntmps43
  go_wp2
  obtain ⟨w1, hw1⟩ : ∃ w1, w.alloc (.cells #[.slice a B.length c, vl] 25) = w1 := ⟨_, rfl⟩
  have hb1 : Below w.heap.size w w1 := by rw [← hw1]; exact later_alloc w _
  have hs1 : w.heap.size < w1.heap.size := by rw [← hw1]; simp
  rw [hw1]
  clear hw1
  go_loopw [5, 11] (fun out k wr => ∃ i : Nat, i ≤ B.length ∧ k = .int .i64 i ∧ wr.ownsRow w1.heap.size 38 1 out i (((B.take i).map Br.k).map (.int .u64)) ∧ Below w1.heap.size w1 wr) (fun _ k _ => B.length - (intOf k).toNat)
  case atStart => exact ⟨0, Nat.zero_le _, rfl, World.ownsRow_nil _ _ _ _, later_refl w1⟩
  case round =>
    obtain ⟨i, hi', rfl, hown, hb⟩ := hrel
    obtain ⟨ao, co, rfl⟩ := owns_shape2 hown
    have hbw := later_trans hb1 hb
    by_cases hlt : i < B.length
    · obtain ⟨bb, o, rfl, hbb, hcs⟩ := HX.out (by omega)
      obtain ⟨hk, hf, ht⟩ := hcs i hlt
      have hk := ((bcell hbw).1 bb (o + i * 3) hbb).trans hk
      have hf := ((bcell hbw).1 bb (o + i * 3 + 1) hbb).trans hf
      have ht := ((bcell hbw).1 bb (o + i * 3 + 2) hbb).trans ht
      have hst : B.take (i + 1) = B.take i ++ [B[i]] := List.take_succ_eq_append_getElem hlt
      obtain ⟨p, hp⟩ : ∃ p, B[i] = p := ⟨_, rfl⟩
      rw [hp] at hk hf ht hst
      have HST := Lib.hid hst
      have hsz := hb.size
      have hX := box_new wr #[.int .u64 p.k, .int .i64 p.f, .int .i64 p.t] 40
      clear hcs hst hp
      go_wp2_with (at_builtin; refine wpList_append_own _ rfl (.tmp 18) (.tmp 21) 23 rfl w1.heap.size 38 i0 _ 1 8 Try.underlying23 hi hz0 hz1 hz2 rfl (by decide) _ _ _ rfl ((hown.alloc _).alloc _) ⟨wr.heap.size + 1, 0, none⟩ 1 1 [.int .u64 p.k] rfl rfl (by have := cells_new (wr.alloc (.cells #[.int .u64 p.k, .int .i64 p.f, .int .i64 p.t] 40)) [.int .u64 p.k] 38; simpa using this) (by simp [Value.oneCell']) (by unfold maxLen; omega) (by omega) (by simp; omega) ?_; intro v6 w6 hown6 hgrow6 _; obtain ⟨g6, cap6, rfl⟩ := ownsRow_succ hown6)
      go_quiet (fail)
      go_wp2
      go_roundw
      case rel =>
        refine ⟨i + 1, by omega, by go_num, ?_, later_trans ((later_trans hb (later_trans (later_alloc wr _) (later_alloc _ _))).grown hgrow6 (by simp; omega) (owns_above hown)) (later_drewN _ _)⟩
        rw [HST.out]
        exact owns_drewN (by simpa using hown6) _
      case measure => simp [intOf]; omega
    · obtain rfl : i = B.length := by omega
      have e : B.take B.length = B := List.take_of_length_le (Nat.le_refl _)
      rw [e] at hown
      go_wp2
      go_ret
      exact ⟨_, rfl, by rw [List.length_map]; exact owns_down hown (by omega), hbw⟩

set_option maxRecDepth 100000 in
set_option maxHeartbeats 2000000 in
theorem refkeysN_any (vb vl : Value) (ap : Option Addr) (np cp : Nat) (B : List Br) (w : World) (hB : SlB w vb B) (h2 : 2 ≤ np) (hnp : np ≤ 9223372036854775807) :
    Calls Try.prog 43 #[.agg #[vb, vl], .slice ap np cp] w fun e w' => e = .returned (.slice none 0 0) ∧ Below w.heap.size w w' := by
  obtain ⟨a, c, rfl, h1, h2', h3, h4⟩ := hB.open
  have HX := Lib.hid h4
  have hm : B.length ≤ 9223372036854775807 := by omega
  have n0 : ((np : Int) == 0) = false := beq_eq_false_iff_ne.2 (by omega)
  have n1 : ((np : Int) == 1) = false := beq_eq_false_iff_ne.2 (by omega)
  clear h1 h2' h3 h4 hB h2
  go_enter Try.func43, Try.ntmps43
  go_wp2
  obtain ⟨w1, hw1⟩ : ∃ w1, w.alloc (.cells #[.slice a B.length c, vl] 25) = w1 := ⟨_, rfl⟩
  have hb1 : Below w.heap.size w w1 := by rw [← hw1]; exact later_alloc w _
  rw [hw1]
  clear hw1
  go_loopw [5, 11] (fun out k wr => ∃ i : Nat, i ≤ B.length ∧ k = .int .i64 i ∧ out = .slice none 0 0 ∧ Below w1.heap.size w1 wr) (fun _ k _ => B.length - (intOf k).toNat)
  case atStart => exact ⟨0, Nat.zero_le _, rfl, rfl, later_refl w1⟩
  case round =>
    obtain ⟨i, hi', rfl, rfl, hb⟩ := hrel
    have hbw := later_trans hb1 hb
    by_cases hlt : i < B.length
    · obtain ⟨bb, o, rfl, hbb, hcs⟩ := HX.out (by omega)
      obtain ⟨hk, hf, ht⟩ := hcs i hlt
      have hk := ((bcell hbw).1 bb (o + i * 3) hbb).trans hk
      have hf := ((bcell hbw).1 bb (o + i * 3 + 1) hbb).trans hf
      have ht := ((bcell hbw).1 bb (o + i * 3 + 2) hbb).trans ht
      clear hcs
      go_wp2
      go_quiet (fail)
      go_wp2
      go_roundw
      case rel => exact ⟨i + 1, by omega, by go_num, rfl, later_trans hb (later_trans (later_alloc wr _) (later_drewN _ _))⟩
      case measure => simp [intOf]; omega
    · go_wp2
      go_ret
      exact ⟨rfl, hbw⟩
end Go.Proofs.Ytdfnfdgkhflonaa
