/-
  What things come to: trie.gathered at pairs, walked.
-/
import Derived.Test.YtdfnfdgkhflonaaRows
import Derived.WalkKit
import Derived.WalkSpells
import Derived.WalkLawsBesides
import Derived.Deep.QuietTactic
import Derived.BigQuiet
import Derived.Outline
import Derived.Test.YtdfnfdgkhflonaaBase
import Derived.Test.YtdfnfdgkhflonaaBase2
import Derived.Test.YtdfnfdgkhflonaaLib
import Derived.Test.YtdfnfdgkhflonaaTLib
import Derived.Test.YtdfnfdgkhflonaaTOwn2
namespace Go.Proofs.Ytdfnfdgkhflonaa
open Go.RowKit
set_option linter.unusedVariables false

theorem of1_any (x y : Int) (w : World) : Calls Try.prog 82 #[.agg #[.int .u64 x, .int .u64 y]] w fun e w' => e = .returned (.int .u64 y) ∧ Below w.heap.size w w' := by
  go_enter Try.func82, Try.ntmps82
  go_wp2
  go_ret
  exact ⟨rfl, later_alloc w _⟩

set_option maxRecDepth 100000 in
set_option maxHeartbeats 1000000 in
theorem gathP_any (v : Value) (l : List Pr) (w : World) (h : SlP w v l) (hl : l.length ≤ 1099511627776) :
    Calls Try.prog 81 #[v, .func (.func 82) #[] #[]] w fun e w' => ∃ v', e = .returned v' ∧ w'.ownsRow w.heap.size 38 1 v' (l.map Pr.b).length ((l.map Pr.b).map (.int .u64)) ∧ Below w.heap.size w w' := by
  obtain ⟨i0, hi, hz0, hz1, hz2⟩ := info_parts info_u64
  obtain ⟨a, c, rfl, h1, h2, h3, h4⟩ := h.open
  have HX := Lib.hid h4
  clear h h1 h2 h3 h4
  go_enter Try.func81, Try.ntmps81
  go_wp2_with fail
  go_loopw [5, 10] (fun out k wr => ∃ i : Nat, i ≤ l.length ∧ k = .int .i64 i ∧ wr.ownsRow w.heap.size 38 1 out i (((l.take i).map Pr.b).map (.int .u64)) ∧ Below w.heap.size w wr) (fun _ k _ => l.length - (intOf k).toNat)
  case atStart => exact ⟨0, Nat.zero_le _, rfl, World.ownsRow_nil _ _ _ _, later_refl w⟩
  case round =>
    obtain ⟨i, hi', rfl, hown, hb⟩ := hrel
    obtain ⟨ao, co, rfl⟩ := owns_shape2 hown
    by_cases hlt : i < l.length
    · obtain ⟨bb, o, rfl, hbw, hcs⟩ := HX.out (by omega)
      obtain ⟨ha, hb2⟩ := hcs i hlt
      have ha := ((bcell hb).1 bb (o + i * 2) hbw).trans ha
      have hb2 := ((bcell hb).1 bb (o + i * 2 + 1) hbw).trans hb2
      have hst : l.take (i + 1) = l.take i ++ [l[i]] := List.take_succ_eq_append_getElem hlt
      obtain ⟨p, hp⟩ : ∃ p, l[i] = p := ⟨_, rfl⟩
      rw [hp] at ha hb2 hst
      have HST := Lib.hid hst
      have hsz := hb.size
      clear hcs hst hp
      go_wp2_with fail
      refine (of1_any _ _ _).mono ?_
      rintro e w2 ⟨rfl, hb2⟩
      have hb3 : Below w.heap.size w w2 := later_trans hb (later_trans (later_alloc wr _) hb2)
      have hown2 := owns_later (hown.alloc (.cells #[.int .u64 p.a, .int .u64 p.b] 59)) hb2
      have hsz2 := hb3.size
      go_wp2_with (at_builtin; refine wpList_append_own _ rfl (.tmp 14) (.tmp 18) 23 rfl w.heap.size 38 i0 _ 1 8 Try.underlying23 hi hz0 hz1 hz2 rfl (by decide) _ _ _ rfl (hown2.alloc _) ⟨w2.heap.size, 0, none⟩ 1 1 [.int .u64 p.b] rfl rfl (cells_new _ _ _) (by simp [Value.oneCell']) (by unfold maxLen; omega) (by omega) (by simp; omega) ?_; intro v6 w6 hown6 hgrow6 _; obtain ⟨g6, cap6, rfl⟩ := ownsRow_succ hown6)
      go_roundw
      case rel =>
        refine ⟨i + 1, by omega, by go_num, ?_, (later_trans hb3 (later_alloc _ _)).grown hgrow6 (by simp; omega) (owns_above hown2)⟩
        rw [HST.out]
        simpa using hown6
      case measure => simp [intOf]; omega
    · obtain rfl : i = l.length := by omega
      have e : l.take l.length = l := List.take_of_length_le (Nat.le_refl _)
      rw [e] at hown
      go_wp2_with fail
      go_ret
      exact ⟨_, rfl, by rw [List.length_map]; exact hown, hb⟩
end Go.Proofs.Ytdfnfdgkhflonaa
