/-
  trie.Size, and trie.Keys at the paths of no number and of too many, walked; the law's own same.
-/
import Derived.Test.YtdfnfdgkhflonaaTKeys
import Derived.Test.YtdfnfdgkhflonaaTEq
namespace Go.Proofs.Ytdfnfdgkhflonaa
open Go.RowKit
set_option linter.unusedVariables false

theorem top1_any (x y z : Int) (w : World) : Calls Try.prog 135 #[.agg #[.int .u64 x, .int .i64 y, .int .i64 z]] w fun e w' => e = .returned (.int .u64 x) ∧ Below w.heap.size w w' := by
  go_enter Try.func135, Try.ntmps135
  go_wp2
  go_ret
  exact ⟨rfl, later_alloc w _⟩

set_option maxRecDepth 100000 in
set_option maxHeartbeats 1000000 in
theorem gathB_any (v : Value) (l : List Br) (w : World) (h : SlB w v l) (hl : l.length ≤ 1099511627776) :
    Calls Try.prog 134 #[v, .func (.func 135) #[] #[]] w fun e w' => ∃ v', e = .returned v' ∧ w'.ownsRow w.heap.size 38 1 v' (l.map Br.k).length ((l.map Br.k).map (.int .u64)) ∧ Below w.heap.size w w' := by
  obtain ⟨i0, hi, hz0, hz1, hz2⟩ := info_parts info_u64
  obtain ⟨a, c, rfl, h1, h2, h3, h4⟩ := h.open
  have HX := Lib.hid h4
  clear h h1 h2 h3 h4
  go_enter Try.func134, Try.ntmps134
  go_wp2_with fail
  go_loopw [5, 10] (fun out k wr => ∃ i : Nat, i ≤ l.length ∧ k = .int .i64 i ∧ wr.ownsRow w.heap.size 38 1 out i (((l.take i).map Br.k).map (.int .u64)) ∧ Below w.heap.size w wr) (fun _ k _ => l.length - (intOf k).toNat)
  case atStart => exact ⟨0, Nat.zero_le _, rfl, World.ownsRow_nil _ _ _ _, later_refl w⟩
  case round =>
    obtain ⟨i, hi', rfl, hown, hb⟩ := hrel
    obtain ⟨ao, co, rfl⟩ := owns_shape2 hown
    by_cases hlt : i < l.length
    · obtain ⟨bb, o, rfl, hbw, hcs⟩ := HX.out (by omega)
      obtain ⟨ha, hb2, hb9⟩ := hcs i hlt
      have ha := ((bcell hb).1 bb (o + i * 3) hbw).trans ha
      have hb2 := ((bcell hb).1 bb (o + i * 3 + 1) hbw).trans hb2
      have hb9 := ((bcell hb).1 bb (o + i * 3 + 2) hbw).trans hb9
      have hst : l.take (i + 1) = l.take i ++ [l[i]] := List.take_succ_eq_append_getElem hlt
      obtain ⟨p, hp⟩ : ∃ p, l[i] = p := ⟨_, rfl⟩
      rw [hp] at ha hb2 hb9 hst
      have HST := Lib.hid hst
      have hsz := hb.size
      clear hcs hst hp
      go_wp2_with fail
      refine (top1_any _ _ _ _).mono ?_
      rintro e w2 ⟨rfl, hb2⟩
      have hb3 : Below w.heap.size w w2 := later_trans hb (later_trans (later_alloc wr _) hb2)
      have hown2 := owns_later (hown.alloc (.cells #[.int .u64 p.k, .int .i64 p.f, .int .i64 p.t] 40)) hb2
      have hsz2 := hb3.size
      go_wp2_with (at_builtin; refine wpList_append_own _ rfl (.tmp 14) (.tmp 18) 23 rfl w.heap.size 38 i0 _ 1 8 Try.underlying23 hi hz0 hz1 hz2 rfl (by decide) _ _ _ rfl (hown2.alloc _) ⟨w2.heap.size, 0, none⟩ 1 1 [.int .u64 p.k] rfl rfl (cells_new _ _ _) (by simp [Value.oneCell']) (by unfold maxLen; omega) (by omega) (by simp; omega) ?_; intro v6 w6 hown6 hgrow6 _; obtain ⟨g6, cap6, rfl⟩ := ownsRow_succ hown6)
      go_roundw
      case rel =>
        refine ⟨i + 1, by omega, by go_num, ?_, (later_trans hb3 (later_alloc _ _)).grown hgrow6 (by simp; omega) (owns_above hown2)⟩
        rw [HST.out]
        simpa using hown6
      case measure => simp [intOf]; omega
    · obtain rfl : i = l.length := by omega
      have e : l.take l.length = l := List.take_of_length_le (Nat.le_refl _)
      rw [e] at hown
      go_wp2_with fail
      go_ret
      exact ⟨_, rfl, by rw [List.length_map]; exact hown, hb⟩

theorem nothing_any (x y z : Value) (w : World) : Calls Try.prog 113 #[.agg #[x, y, z]] w fun e w' => e = .returned (.slice none 0 0) ∧ Below w.heap.size w w' := by
  go_enter Try.func113, Try.ntmps113
  go_wp2
  go_ret
  exact ⟨rfl, later_alloc w _⟩

set_option maxRecDepth 100000 in
theorem top_any (vb vl pv : Value) (B : List Br) (w : World) (hB : SlB w vb B) (hl : B.length ≤ 1099511627776) :
    Calls Try.prog 112 #[.agg #[vb, vl, pv]] w fun e w' => ∃ v', e = .returned v' ∧ w'.ownsRow w.heap.size 38 1 v' (B.map Br.k).length ((B.map Br.k).map (.int .u64)) ∧ Below w.heap.size w w' := by
  obtain ⟨a, c, rfl, -⟩ := hB.open
  have hg := Lib.hid (gathB_any _ B (w.alloc (.cells #[.slice a B.length c, vl, pv] 120)) (hB.later (later_alloc w _)) hl)
  clear hB
  go_enter Try.func112, Try.ntmps112
  go_wp2_with (go_at_call 134; refine hg.out.mono ?_; rintro e w2 ⟨v2, rfl, ho, hb⟩)
  go_ret
  exact ⟨_, rfl, owns_down ho (by simp), later_trans (later_alloc w _) hb⟩

open Classical in
set_option maxRecDepth 100000 in
theorem size_any (vb vl : Value) (B : List Br) (L : List Int) (w : World) (hB : SlB w vb B) (hL : SlI .u64 w vl L) :
    Calls Try.prog 46 #[.agg #[vb, vl]] w fun e w' => e = .returned (.tuple #[.int .i64 (if TrieOk B L then (B.length : Int) else 0), .int .i64 (if TrieOk B L then (L.length : Int) else 0)]) ∧ Below w.heap.size w w' := by
  obtain ⟨a, c, rfl, -⟩ := hB.open
  obtain ⟨a', c', rfl, -⟩ := hL.open
  obtain ⟨W, hW⟩ : ∃ W, w.alloc (.cells #[.slice a B.length c, .slice a' L.length c'] 25) = W := ⟨_, rfl⟩
  obtain ⟨K, hKe⟩ : ∃ K, w.heap.size = K := ⟨_, rfl⟩
  have hbW : Below w.heap.size w W := by rw [← hW]; exact later_alloc w _
  have hKb : W.heap[K]? = some (.cells #[.slice a B.length c, .slice a' L.length c'] 25 (0, 0)) := by rw [← hW, ← hKe]; exact box_new w _ _
  have k0 := box_cell (i := 0) hKb
  have k1 := box_cell (i := 1) hKb
  simp at k0 k1
  have hC := check_any _ _ B L W (hB.later hbW) (hL.later hbW)
  clear hB hL
  by_cases hok : TrieOk B L
  · rw [if_pos hok] at hC
    rw [if_pos hok, if_pos hok]
    have HC := Lib.hid hC
    clear hC hok
    go_enter Try.func46, Try.ntmps46
    go_wp2_with (go_at_call 31; refine HC.out.mono ?_; rintro e w1 ⟨rfl, hb1⟩; have hK1 := (hb1.block _ (lt_of_block hKb)).trans hKb; have x0 := box_cell (i := 0) hK1; have x1 := box_cell (i := 1) hK1; simp at x0 x1)
    go_quiet (fail)
    go_wp2
    go_ret2
    exact ⟨rfl, by subst hKe; exact later_trans (later_trans hbW hb1) (later_drewN _ _)⟩
  · rw [if_neg hok] at hC
    rw [if_neg hok, if_neg hok]
    have HC := Lib.hid hC
    clear hC hok
    go_enter Try.func46, Try.ntmps46
    go_wp2_with (go_at_call 31; refine HC.out.mono ?_; rintro e w1 ⟨rfl, hb1⟩)
    go_ret2
    exact ⟨rfl, by subst hKe; exact later_trans hbW hb1⟩
end Go.Proofs.Ytdfnfdgkhflonaa
