/-
  The document's Cut, walked.
-/
import Derived.Test.YtdfnfdgkhflonaaTWith
import Derived.Test.YtdfnfdgkhflonaaTCut
namespace Go.Proofs.Ytdfnfdgkhflonaa
open Go.RowKit
set_option linter.unusedVariables false

set_option maxRecDepth 100000 in
set_option maxHeartbeats 2000000 in
theorem refcut_any (v : Value) (l : List Pr) (f t : Int) (w : World) (h : SlP w v l) (hl : l.length ≤ 1048576) :
    Calls Try.prog 50 #[v, .int .u64 f, .int .u64 t] w fun e w' => ∃ v', e = .returned v' ∧ SlP w' v' (l.filter (fun p => !cutB f t p)) ∧ Below w.heap.size w w' := by
  obtain ⟨i0, hi, hz0, hz1, hz2⟩ := info_parts info_pair
  have HWF := Lib.hid h.2
  obtain ⟨a, c, rfl, h1, h2, h3, h4⟩ := h.open
  have HX := Lib.hid h4
  clear h h1 h2 h3 h4
  go_enter Try.func50, Try.ntmps50
  go_wp2
  go_loopw [7, 12] (fun out k wr => ∃ i : Nat, i ≤ l.length ∧ k = .int .i64 i ∧ wr.ownsRow w.heap.size 59 2 out ((l.take i).filter (fun p => !cutB f t p)).length (((l.take i).filter (fun p => !cutB f t p)).flatMap Pr.cells) ∧ Below w.heap.size w wr) (fun _ k _ => l.length - (intOf k).toNat)
  case atStart => exact ⟨0, Nat.zero_le _, rfl, by simpa using World.ownsRow_nil _ _ _ _, later_refl w⟩
  case round =>
    obtain ⟨i, hi', rfl, hown, hb⟩ := hrel
    obtain ⟨ao, co, rfl⟩ := owns_shape2 hown
    by_cases hlt : i < l.length
    · obtain ⟨bb, o, rfl, hbb, hcs⟩ := HX.out (by omega)
      obtain ⟨ha, hb2⟩ := hcs i hlt
      have ha := ((bcell hb).1 bb (o + i * 2) hbb).trans ha
      have hb2 := ((bcell hb).1 bb (o + i * 2 + 1) hbb).trans hb2
      obtain ⟨x, hx⟩ : ∃ x, l[i] = x := ⟨_, rfl⟩
      have hfs := filter_step (f := fun p => !cutB f t p) hlt
      rw [hx] at ha hb2 hfs
      have hsz := hb.size
      have hacc : ((l.take i).filter (fun p => !cutB f t p)).length ≤ 1048576 := by
        have e2 := List.length_filter_le (fun p => !cutB f t p) (l.take i)
        simp at e2 ⊢
        omega
      obtain ⟨acc, hac⟩ : ∃ acc, (l.take i).filter (fun p => !cutB f t p) = acc := ⟨_, rfl⟩
      have HAC := Lib.hid hac
      rw [hac] at hown hacc
      rw [hac]
      clear hcs hx hac
      by_cases h1 : x.a < f
      · have h1d : decide (f ≤ x.a) = false := decide_eq_false (by omega)
        have hq : cutB f t x = true := by simp [cutB, h1]
        rw [hq] at hfs
        simp only [Bool.not_true, Bool.false_eq_true, if_false, List.append_nil] at hfs
        have HFS := Lib.hid hfs
        clear hfs hq h1
        go_wp2
        go_roundw
        case rel =>
          refine ⟨i + 1, by omega, by go_num, ?_, later_trans hb (later_alloc wr _)⟩
          rw [HFS.out, HAC.out]
          exact hown.alloc _
        case measure => simp [intOf]; omega
      · have h1d : decide (f ≤ x.a) = true := decide_eq_true (by omega)
        by_cases h2 : x.a < t
        · have h2d : decide (x.a < t) = true := decide_eq_true h2
          have hq : cutB f t x = false := by simp [cutB]; omega
          rw [hq] at hfs
          simp only [Bool.not_false, if_true] at hfs
          have HFS := Lib.hid hfs
          clear hfs hq h1 h2
          go_wp2_with (at_builtin; refine wpList_append_own _ rfl (.tmp 26) (.tmp 28) 57 rfl w.heap.size 59 i0 _ 2 16 Try.underlying57 hi hz0 hz1 hz2 rfl (by decide) _ _ _ rfl ((hown.alloc _).alloc _) ⟨wr.heap.size + 1, 0, none⟩ 1 1 [.int .u64 x.a, .int .u64 x.b] rfl rfl (by have := cells_new (wr.alloc (.cells #[.int .u64 x.a, .int .u64 x.b] 59)) [.int .u64 x.a, .int .u64 x.b] 59; simpa using this) (by simp [Value.oneCell']) (by unfold maxLen; omega) (by omega) (by simp; omega) ?_; intro v6 w6 hown6 hgrow6 _; obtain ⟨g6, cap6, rfl⟩ := ownsRow_succ hown6)
          go_roundw
          case rel =>
            refine ⟨i + 1, by omega, by go_num, ?_, (later_trans hb (later_trans (later_alloc wr _) (later_alloc _ _))).grown hgrow6 (by simp; omega) (owns_above hown)⟩
            rw [HFS.out, HAC.out, List.length_append, List.flatMap_append]
            simpa [Pr.cells] using hown6
          case measure => simp [intOf]; omega
        · have h2d : decide (x.a < t) = false := decide_eq_false h2
          have hq : cutB f t x = true := by simp [cutB]; omega
          rw [hq] at hfs
          simp only [Bool.not_true, Bool.false_eq_true, if_false, List.append_nil] at hfs
          have HFS := Lib.hid hfs
          clear hfs hq h1 h2
          go_wp2
          go_roundw
          case rel =>
            refine ⟨i + 1, by omega, by go_num, ?_, later_trans hb (later_alloc wr _)⟩
            rw [HFS.out, HAC.out]
            exact hown.alloc _
          case measure => simp [intOf]; omega
    · obtain rfl : i = l.length := by omega
      have e : l.take l.length = l := List.take_of_length_le (Nat.le_refl _)
      rw [e] at hown ⊢
      go_wp2
      go_ret
      exact ⟨_, rfl, ⟨SlT.of_owns hown, fun p hp => HWF.out p (List.mem_filter.1 hp).1⟩, hb⟩
end Go.Proofs.Ytdfnfdgkhflonaa
