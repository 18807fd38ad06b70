/-
  The document's With, Of, Union and Cut of pairs, walked.
-/
import Derived.Test.YtdfnfdgkhflonaaRows
import Derived.WalkKit
import Derived.WalkSpells
import Derived.WalkLawsBesides
import Derived.Deep.QuietTactic
import Derived.BigQuiet
import Derived.Outline
import Derived.Test.YtdfnfdgkhflonaaBase
import Derived.Test.YtdfnfdgkhflonaaBase2
import Derived.Test.YtdfnfdgkhflonaaTLib
import Derived.Test.YtdfnfdgkhflonaaTPlain
import Derived.Test.YtdfnfdgkhflonaaTRunC
import Derived.Test.YtdfnfdgkhflonaaTOwn2
import Derived.Test.YtdfnfdgkhflonaaTOfP
import Derived.Test.YtdfnfdgkhflonaaTDel
namespace Go.Proofs.Ytdfnfdgkhflonaa
open Go.RowKit
set_option linter.unusedVariables false

/-- A row in order with a pair more. -/
def withL (l : List Pr) (p : Pr) : List Pr := l.filter (fun x => ahdB x p) ++ [p] ++ l.filter (fun x => ahdB p x)
theorem withL_len (l : List Pr) (p : Pr) : (withL l p).length ≤ 2 * l.length + 1 := by
  have h1 := List.length_filter_le (fun x => ahdB x p) l
  have h2 := List.length_filter_le (fun x => ahdB p x) l
  simp [withL]; omega

set_option maxRecDepth 100000 in
set_option maxHeartbeats 2000000 in
theorem with_any (v : Value) (l : List Pr) (p : Pr) (w : World) (h : SlP w v l) (hl : l.length ≤ 1048576) :
    Calls Try.prog 92 #[v, .agg #[.int .u64 p.a, .int .u64 p.b]] w fun e w' => ∃ v', e = .returned v' ∧ w'.ownsRow w.heap.size 59 2 v' (withL l p).length ((withL l p).flatMap Pr.cells) ∧ Below w.heap.size w w' := by
  obtain ⟨i0, hi, hz0, hz1, hz2⟩ := info_parts info_pair
  obtain ⟨a, c, rfl, h1, h2, h3, h4⟩ := h.open
  have HX := Lib.hid h4
  clear h h1 h2 h3 h4
  obtain ⟨w1, hw1⟩ : ∃ w1, w.alloc (.cells #[.int .u64 p.a, .int .u64 p.b] 59) = w1 := ⟨_, rfl⟩
  obtain ⟨K, hKe⟩ : ∃ K, w.heap.size = K := ⟨_, rfl⟩
  have hb1 : Below w.heap.size w w1 := by rw [← hw1]; exact later_alloc w _
  have hs1 : w.heap.size < w1.heap.size := by rw [← hw1]; simp
  have hK1 : w1.heap[K]? = some (.cells #[.int .u64 p.a, .int .u64 p.b] 59 (0, 0)) := by rw [← hw1, ← hKe]; exact box_new w _ _
  go_enter Try.func92, Try.ntmps92
  go_wp2
  go_loopw [5, 12] (fun out k wr => ∃ i : Nat, i ≤ l.length ∧ k = .int .i64 i ∧ wr.ownsRow w1.heap.size 59 2 out ((l.take i).filter (fun x => ahdB x p)).length (((l.take i).filter (fun x => ahdB x p)).flatMap Pr.cells) ∧ Below w1.heap.size w1 wr) (fun _ k _ => l.length - (intOf k).toNat)
  case atStart => exact ⟨0, Nat.zero_le _, rfl, by simpa using World.ownsRow_nil _ _ _ _, later_refl w1⟩
  case round =>
    obtain ⟨i, hi', rfl, hown, hb⟩ := hrel
    obtain ⟨ao, co, rfl⟩ := owns_shape2 hown
    have hbw := later_trans hb1 hb
    have hKr := (hb.block _ (lt_of_block hK1)).trans hK1
    have q0 := box_cell (i := 0) hKr
    have q1 := box_cell (i := 1) hKr
    simp at q0 q1
    have hKl := lt_of_block hKr
    by_cases hlt : i < l.length
    · obtain ⟨bb, o, rfl, hbb, hcs⟩ := HX.out (by omega)
      obtain ⟨ha, hb2⟩ := hcs i hlt
      have ha := ((bcell hbw).1 bb (o + i * 2) hbb).trans ha
      have hb2 := ((bcell hbw).1 bb (o + i * 2 + 1) hbb).trans hb2
      obtain ⟨x, hx⟩ : ∃ x, l[i] = x := ⟨_, rfl⟩
      have hfs := filter_step (f := (fun x => ahdB x p)) hlt
      rw [hx] at ha hb2 hfs
      have hsz := hb.size
      have hacc : ((l.take i).filter (fun x => ahdB x p)).length ≤ 3 * 1048576 + 1 := by
        have e1 := List.length_filter_le (fun x => ahdB x p) l
        have e2 := List.length_filter_le (fun x => ahdB x p) (l.take i)
        simp at e2 ⊢
        omega
      obtain ⟨acc, hac⟩ : ∃ acc, ((l.take i).filter (fun x => ahdB x p)) = acc := ⟨_, rfl⟩
      have HAC := Lib.hid hac
      rw [hac] at hown hacc
      rw [hac]
      have HA := Lib.hid (ahd_any x p (wr.alloc (.cells #[.int .u64 x.a, .int .u64 x.b] 59)))
      clear hcs hx hac
      cases hq : ahdB x p with
      | true =>
        rw [hq] at HA hfs
        simp only [if_true] at hfs
        have HFS := Lib.hid hfs
        clear hfs hq
        go_wp2_with (first
          | (go_at_call 83; refine HA.out.mono ?_; rintro e w2 ⟨rfl, hb3⟩; have hbx := (hb3.block _ (lt_of_block (box_new wr #[.int .u64 x.a, .int .u64 x.b] 59))).trans (box_new wr _ _); have x0 := box_cell (i := 0) hbx; have x1 := box_cell (i := 1) hbx; simp at x0 x1; have hbl := lt_of_block hbx; have hb4 := later_trans (later_alloc wr (.cells #[.int .u64 x.a, .int .u64 x.b] 59)) hb3; have hown2 := owns_later hown hb4; have hs4 := hb4.size)
          | (at_builtin; refine wpList_append_own _ rfl (.tmp 19) (.tmp 21) 57 rfl w1.heap.size 59 i0 _ 2 16 Try.underlying57 hi hz0 hz1 hz2 rfl (by decide) _ _ _ rfl (hown2.alloc _) ⟨w2.heap.size, 0, none⟩ 1 1 [.int .u64 x.a, .int .u64 x.b] rfl rfl (cells_new _ _ _) (by simp [Value.oneCell']) (by unfold maxLen; omega) (by omega) (by simp; omega) ?_; intro v6 w6 hown6 hgrow6 _; obtain ⟨g6, cap6, rfl⟩ := ownsRow_succ hown6))
        go_roundw
        case rel =>
          refine ⟨i + 1, by omega, by go_num, ?_, ((later_trans hb (later_trans hb4 (later_alloc w2 _)))).grown hgrow6 (by simp; omega) (owns_above hown2)⟩
          rw [HFS.out, HAC.out, List.length_append, List.flatMap_append]
          simpa [Pr.cells] using hown6
        case measure => simp [intOf]; omega
      | false =>
        rw [hq] at HA hfs
        simp only [Bool.false_eq_true, if_false, List.append_nil] at hfs
        have HFS := Lib.hid hfs
        clear hfs hq
        go_wp2_with (go_at_call 83; refine HA.out.mono ?_; rintro e w2 ⟨rfl, hb3⟩; have hb4 := later_trans (later_alloc wr (.cells #[.int .u64 x.a, .int .u64 x.b] 59)) hb3)
        go_roundw
        case rel =>
          refine ⟨i + 1, by omega, by go_num, ?_, later_trans hb hb4⟩
          rw [HFS.out, HAC.out]
          exact owns_later hown hb4
        case measure => simp [intOf]; omega
    · obtain rfl : i = l.length := by omega
      have e : l.take l.length = l := List.take_of_length_le (Nat.le_refl _)
      rw [e] at hown ⊢
      have hln := List.length_filter_le (fun x => ahdB x p) l
      have hsz := hb.size
      go_wp2_with (at_builtin; refine wpList_append_own _ rfl (.tmp 24) (.tmp 26) 57 rfl w1.heap.size 59 i0 _ 2 16 Try.underlying57 hi hz0 hz1 hz2 rfl (by decide) _ _ _ rfl (hown.alloc _) ⟨wr.heap.size, 0, none⟩ 1 1 [.int .u64 p.a, .int .u64 p.b] rfl rfl (cells_new _ _ _) (by simp [Value.oneCell']) (by unfold maxLen; omega) (by omega) (by simp; omega) ?_; intro vM wM hownM hgrowM _; obtain ⟨gM, capM, rfl⟩ := ownsRow_succ hownM)
      have hbM := (later_trans hb (later_alloc wr _)).grown hgrowM (by simp; omega) (owns_above hown)
      rw [show (l.filter (fun x => ahdB x p)).flatMap Pr.cells ++ [Value.int .u64 p.a, .int .u64 p.b] = (l.filter (fun x => ahdB x p) ++ [p]).flatMap Pr.cells from by simp [Pr.cells], show (l.filter (fun x => ahdB x p)).length + 1 = (l.filter (fun x => ahdB x p) ++ [p]).length from by simp] at hownM
      clear hown hgrowM hb q0 q1 hKr hKl hbw hsz
      go_loopw [5, 30] (fun out k wr => ∃ i : Nat, i ≤ l.length ∧ k = .int .i64 i ∧ wr.ownsRow w1.heap.size 59 2 out (l.filter (fun x => ahdB x p) ++ [p] ++ (l.take i).filter (fun x => ahdB p x)).length ((l.filter (fun x => ahdB x p) ++ [p] ++ (l.take i).filter (fun x => ahdB p x)).flatMap Pr.cells) ∧ Below w1.heap.size w1 wr) (fun _ k _ => l.length - (intOf k).toNat)
      case atStart => exact ⟨0, Nat.zero_le _, rfl, by simpa using hownM, hbM⟩
      case round =>
        obtain ⟨i, hi', rfl, hown, hb⟩ := hrel
        obtain ⟨ao, co, rfl⟩ := owns_shape2 hown
        have hbw := later_trans hb1 hb
        have hKr := (hb.block _ (lt_of_block hK1)).trans hK1
        have q0 := box_cell (i := 0) hKr
        have q1 := box_cell (i := 1) hKr
        simp at q0 q1
        have hKl := lt_of_block hKr
        by_cases hlt : i < l.length
        · obtain ⟨bb, o, rfl, hbb, hcs⟩ := HX.out (by omega)
          obtain ⟨ha, hb2⟩ := hcs i hlt
          have ha := ((bcell hbw).1 bb (o + i * 2) hbb).trans ha
          have hb2 := ((bcell hbw).1 bb (o + i * 2 + 1) hbb).trans hb2
          obtain ⟨x, hx⟩ : ∃ x, l[i] = x := ⟨_, rfl⟩
          have hfs := filter_step (f := (fun x => ahdB p x)) hlt
          rw [hx] at ha hb2 hfs
          have hsz := hb.size
          have hacc : (l.filter (fun x => ahdB x p) ++ [p] ++ (l.take i).filter (fun x => ahdB p x)).length ≤ 3 * 1048576 + 1 := by
            have e1 := List.length_filter_le (fun x => ahdB x p) l
            have e2 := List.length_filter_le (fun x => ahdB p x) (l.take i)
            simp at e2 ⊢
            omega
          obtain ⟨acc, hac⟩ : ∃ acc, (l.filter (fun x => ahdB x p) ++ [p] ++ (l.take i).filter (fun x => ahdB p x)) = acc := ⟨_, rfl⟩
          have HAC := Lib.hid hac
          rw [hac] at hown hacc
          rw [hac]
          have HA := Lib.hid (ahd_any p x (wr.alloc (.cells #[.int .u64 x.a, .int .u64 x.b] 59)))
          clear hcs hx hac
          cases hq : ahdB p x with
          | true =>
            rw [hq] at HA hfs
            simp only [if_true] at hfs
            have HFS := Lib.hid hfs
            clear hfs hq
            go_wp2_with (first
              | (go_at_call 83; refine HA.out.mono ?_; rintro e w2 ⟨rfl, hb3⟩; have hbx := (hb3.block _ (lt_of_block (box_new wr #[.int .u64 x.a, .int .u64 x.b] 59))).trans (box_new wr _ _); have x0 := box_cell (i := 0) hbx; have x1 := box_cell (i := 1) hbx; simp at x0 x1; have hbl := lt_of_block hbx; have hb4 := later_trans (later_alloc wr (.cells #[.int .u64 x.a, .int .u64 x.b] 59)) hb3; have hown2 := owns_later hown hb4; have hs4 := hb4.size)
              | (at_builtin; refine wpList_append_own _ rfl (.tmp 37) (.tmp 39) 57 rfl w1.heap.size 59 i0 _ 2 16 Try.underlying57 hi hz0 hz1 hz2 rfl (by decide) _ _ _ rfl (hown2.alloc _) ⟨w2.heap.size, 0, none⟩ 1 1 [.int .u64 x.a, .int .u64 x.b] rfl rfl (cells_new _ _ _) (by simp [Value.oneCell']) (by unfold maxLen; omega) (by omega) (by simp; omega) ?_; intro v6 w6 hown6 hgrow6 _; obtain ⟨g6, cap6, rfl⟩ := ownsRow_succ hown6))
            go_roundw
            case rel =>
              refine ⟨i + 1, by omega, by go_num, ?_, ((later_trans hb (later_trans hb4 (later_alloc w2 _)))).grown hgrow6 (by simp; omega) (owns_above hown2)⟩
              rw [HFS.out, ← List.append_assoc, HAC.out, List.length_append, List.flatMap_append]
              simpa [Pr.cells] using hown6
            case measure => simp [intOf]; omega
          | false =>
            rw [hq] at HA hfs
            simp only [Bool.false_eq_true, if_false, List.append_nil] at hfs
            have HFS := Lib.hid hfs
            clear hfs hq
            go_wp2_with (go_at_call 83; refine HA.out.mono ?_; rintro e w2 ⟨rfl, hb3⟩; have hb4 := later_trans (later_alloc wr (.cells #[.int .u64 x.a, .int .u64 x.b] 59)) hb3)
            go_roundw
            case rel =>
              refine ⟨i + 1, by omega, by go_num, ?_, later_trans hb hb4⟩
              rw [HFS.out, HAC.out]
              exact owns_later hown hb4
            case measure => simp [intOf]; omega
        · obtain rfl : i = l.length := by omega
          have e : l.take l.length = l := List.take_of_length_le (Nat.le_refl _)
          rw [e] at hown ⊢
          go_wp2
          go_ret
          subst hKe
          exact ⟨_, rfl, owns_down hown (Nat.le_of_lt hs1), hbw⟩

theorem wf_with {l : List Pr} {p : Pr} (h : ∀ q ∈ l, q.wf) (hp : p.wf) : ∀ q ∈ withL l p, q.wf := by
  intro q hq
  unfold withL at hq
  rcases List.mem_append.1 hq with h1 | h1
  · rcases List.mem_append.1 h1 with h2 | h2
    · exact h q ((List.mem_filter.1 h2).1)
    · obtain rfl := List.mem_singleton.1 h2; exact hp
  · exact h q ((List.mem_filter.1 h1).1)
theorem filt_two {l : List Pr} {f g : Pr → Bool} (h : ∀ x, f x = true → g x = false) : (l.filter f).length + (l.filter g).length ≤ l.length := by
  induction l with
  | nil => simp
  | cons x l ih =>
    have := h x
    cases hf : f x <;> cases hg : g x <;> simp [hf, hg] <;> simp_all <;> omega
theorem withL_len2 (l : List Pr) (p : Pr) : (withL l p).length ≤ l.length + 1 := by
  have := filt_two (l := l) (f := fun x => ahdB x p) (g := fun x => ahdB p x) (fun x h => by
    have h1 := (ahdB_iff x p).1 h
    cases h2 : ahdB p x with
    | false => rfl
    | true => have h3 := (ahdB_iff p x).1 h2; unfold Ahd at h1 h3; omega)
  simp [withL]; omega
theorem fold_len (b : List Pr) : ∀ (a : List Pr), (b.foldl withL a).length ≤ a.length + b.length := by
  induction b with
  | nil => intro a; simp
  | cons p b ih =>
    intro a
    have h1 := ih (withL a p)
    have h2 := withL_len2 a p
    simp; omega
theorem fold_wf {b : List Pr} (hb : ∀ q ∈ b, q.wf) : ∀ {a : List Pr}, (∀ q ∈ a, q.wf) → ∀ q ∈ b.foldl withL a, q.wf := by
  induction b with
  | nil => intro a h; exact h
  | cons p b ih =>
    intro a h
    exact ih (fun q hq => hb q (List.mem_cons_of_mem _ hq)) (wf_with h (hb p (List.mem_cons_self ..)))
theorem fold_take {b : List Pr} {i : Nat} (h : i < b.length) (a : List Pr) : (b.take (i + 1)).foldl withL a = withL ((b.take i).foldl withL a) b[i] := by
  rw [List.take_succ_eq_append_getElem h, List.foldl_append]
  rfl

set_option maxRecDepth 100000 in
set_option maxHeartbeats 2000000 in
theorem refof3_any (v : Value) (l : List Pr) (w : World) (h : SlP w v l) (hl : l.length ≤ 1048576) :
    Calls Try.prog 91 #[v] w fun e w' => ∃ v', e = .returned v' ∧ SlP w' v' (l.foldl withL []) ∧ Below w.heap.size w w' := by
  have HWF := Lib.hid h.2
  obtain ⟨a, c, rfl, h1, h2, h3, h4⟩ := h.open
  have HX := Lib.hid h4
  clear h h1 h2 h3 h4
  go_enter Try.func91, Try.ntmps91
  go_wp2
  go_loopw [3, 8] (fun out k wr => ∃ i : Nat, i ≤ l.length ∧ k = .int .i64 i ∧ SlP wr out ((l.take i).foldl withL []) ∧ Below w.heap.size w wr) (fun _ k _ => l.length - (intOf k).toNat)
  case atStart => exact ⟨0, Nat.zero_le _, rfl, by simpa using SlP.nil w, later_refl w⟩
  case round =>
    obtain ⟨i, hi', rfl, hown, hb⟩ := hrel
    by_cases hlt : i < l.length
    · obtain ⟨bb, o, rfl, hbb, hcs⟩ := HX.out (by omega)
      obtain ⟨ha, hb2⟩ := hcs i hlt
      have ha := ((bcell hb).1 bb (o + i * 2) hbb).trans ha
      have hb2 := ((bcell hb).1 bb (o + i * 2 + 1) hbb).trans hb2
      obtain ⟨x, hx⟩ : ∃ x, l[i] = x := ⟨_, rfl⟩
      have hft := fold_take hlt ([])
      rw [hx] at ha hb2 hft
      have hxw : x.wf := by rw [← hx]; exact HWF.out _ (List.getElem_mem hlt)
      have HFT := Lib.hid hft
      have HLEN := Lib.hid (show ((l.take i).foldl withL []).length ≤ 1048576 from by have := fold_len (l.take i) ([]); simp only [List.length_take] at this; simp at this; omega)
      have HWA := Lib.hid (wf_with hown.2 hxw)
      obtain ⟨av, cv, rfl, -⟩ := hown.open
      have HW := Lib.hid (with_any _ _ x (wr.alloc (.cells #[.int .u64 x.a, .int .u64 x.b] 59)) (hown.later (later_alloc wr _)) HLEN.out)
      clear hcs hx hft hown
      go_wp2_with (go_at_call 92; refine HW.out.mono ?_; rintro e w2 ⟨v2, rfl, ho2, hb3⟩)
      go_roundw
      case rel =>
        refine ⟨i + 1, by omega, by go_num, ?_, later_trans hb (later_trans (later_alloc wr _) hb3)⟩
        rw [HFT.out]
        exact ⟨SlT.of_owns ho2, HWA.out⟩
      case measure => simp [intOf]; omega
    · obtain rfl : i = l.length := by omega
      have e : l.take l.length = l := List.take_of_length_le (Nat.le_refl _)
      rw [e] at hown
      go_wp2
      go_ret
      exact ⟨_, rfl, hown, hb⟩

set_option maxRecDepth 100000 in
set_option maxHeartbeats 2000000 in
theorem refunion_any (u v : Value) (m l : List Pr) (w : World) (hk : SlP w u m) (h : SlP w v l) (hl : m.length + l.length ≤ 1048576) :
    Calls Try.prog 49 #[u, v] w fun e w' => ∃ v', e = .returned v' ∧ SlP w' v' (l.foldl withL (m.foldl withL [])) ∧ Below w.heap.size w w' := by
  have HWF := Lib.hid h.2
  have HO := Lib.hid (refof3_any u m w hk (by omega))
  have HKL := Lib.hid (fold_len m [])
  obtain ⟨au, cu, rfl, -⟩ := hk.open
  obtain ⟨a, c, rfl, h1, h2, h3, h4⟩ := h.open
  have HX := Lib.hid h4
  clear hk h h1 h2 h3 h4
  go_enter Try.func49, Try.ntmps49
  go_wp2_with fail
  refine HO.out.mono ?_
  rintro e w0 ⟨v0, rfl, h0, hb0⟩
  go_wp2
  go_loopw [5, 12] (fun out k wr => ∃ i : Nat, i ≤ l.length ∧ k = .int .i64 i ∧ SlP wr out ((l.take i).foldl withL (m.foldl withL [])) ∧ Below w.heap.size w wr) (fun _ k _ => l.length - (intOf k).toNat)
  case atStart => exact ⟨0, Nat.zero_le _, rfl, by simpa using h0, hb0⟩
  case round =>
    obtain ⟨i, hi', rfl, hown, hb⟩ := hrel
    by_cases hlt : i < l.length
    · obtain ⟨bb, o, rfl, hbb, hcs⟩ := HX.out (by omega)
      obtain ⟨ha, hb2⟩ := hcs i hlt
      have ha := ((bcell hb).1 bb (o + i * 2) hbb).trans ha
      have hb2 := ((bcell hb).1 bb (o + i * 2 + 1) hbb).trans hb2
      obtain ⟨x, hx⟩ : ∃ x, l[i] = x := ⟨_, rfl⟩
      have hft := fold_take hlt (m.foldl withL [])
      rw [hx] at ha hb2 hft
      have hxw : x.wf := by rw [← hx]; exact HWF.out _ (List.getElem_mem hlt)
      have HFT := Lib.hid hft
      have HLEN := Lib.hid (show ((l.take i).foldl withL (m.foldl withL [])).length ≤ 1048576 from by have := fold_len (l.take i) (m.foldl withL []); simp only [List.length_take] at this; have h9 := HKL.out; simp only [List.length_nil] at h9; omega)
      have HWA := Lib.hid (wf_with hown.2 hxw)
      obtain ⟨av, cv, rfl, -⟩ := hown.open
      have HW := Lib.hid (with_any _ _ x (wr.alloc (.cells #[.int .u64 x.a, .int .u64 x.b] 59)) (hown.later (later_alloc wr _)) HLEN.out)
      clear hcs hx hft hown
      go_wp2_with (go_at_call 92; refine HW.out.mono ?_; rintro e w2 ⟨v2, rfl, ho2, hb3⟩)
      go_roundw
      case rel =>
        refine ⟨i + 1, by omega, by go_num, ?_, later_trans hb (later_trans (later_alloc wr _) hb3)⟩
        rw [HFT.out]
        exact ⟨SlT.of_owns ho2, HWA.out⟩
      case measure => simp [intOf]; omega
    · obtain rfl : i = l.length := by omega
      have e : l.take l.length = l := List.take_of_length_le (Nat.le_refl _)
      rw [e] at hown
      go_wp2
      go_ret
      exact ⟨_, rfl, hown, hb⟩
end Go.Proofs.Ytdfnfdgkhflonaa
