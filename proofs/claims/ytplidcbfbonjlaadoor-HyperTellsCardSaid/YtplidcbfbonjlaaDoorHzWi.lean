/-
  colanderref20.With, walked.
-/
import Derived.Test.YtplidcbfbonjlaaDoorHzPf
namespace Go.Proofs.YtplidcbfbonjlaaDoor
open Go.RowKit Go.Shelf Go.Lib
set_option linter.unusedVariables false
set_option linter.unusedSimpArgs false

def withI (l : List Int) (n : Int) : List Int := l.filter (fun x => decide (x < n)) ++ [n] ++ l.filter (fun x => decide (n < x))
theorem withI_mem {l : List Int} {n x : Int} : x ∈ withI l n ↔ x ∈ l ∨ x = n := by
  unfold withI
  simp only [List.mem_append, List.mem_filter, decide_eq_true_eq, List.mem_singleton]
  constructor
  · rintro ((⟨h, -⟩ | h) | ⟨h, -⟩)
    · exact .inl h
    · exact .inr h
    · exact .inl h
  · rintro (h | h)
    · rcases Int.lt_trichotomy x n with q | q | q
      · exact .inl (.inl ⟨h, q⟩)
      · exact .inl (.inr q)
      · exact .inr ⟨h, q⟩
    · exact .inl (.inr h)
theorem withI_pw {l : List Int} (n : Int) (h : l.Pairwise (· < ·)) : (withI l n).Pairwise (· < ·) := by
  unfold withI
  rw [List.pairwise_append, List.pairwise_append]
  refine ⟨⟨h.filter _, List.pairwise_singleton _ _, fun a ha b hb => ?_⟩, h.filter _, fun a ha b hb => ?_⟩
  · obtain rfl := List.mem_singleton.1 hb
    exact of_decide_eq_true (List.mem_filter.1 ha).2
  · have h2 := of_decide_eq_true (List.mem_filter.1 hb).2
    rcases List.mem_append.1 ha with q | q
    · have h1 := of_decide_eq_true (List.mem_filter.1 q).2
      omega
    · obtain rfl := List.mem_singleton.1 q
      exact h2
theorem foldI_pw : ∀ (e : List Int) {a : List Int}, a.Pairwise (· < ·) → (e.foldl withI a).Pairwise (· < ·)
  | [], _, h => h
  | x :: e, _, h => foldI_pw e (withI_pw x h)
theorem foldI_mem : ∀ (e : List Int) {a : List Int} {x : Int}, x ∈ e.foldl withI a ↔ x ∈ a ∨ x ∈ e
  | [], a, x => by simp
  | y :: e, a, x => by
    rw [List.foldl_cons, foldI_mem e, withI_mem, List.mem_cons]
    constructor
    · rintro ((h | h) | h)
      · exact .inl h
      · exact .inr (.inl h)
      · exact .inr (.inr h)
    · rintro (h | h | h)
      · exact .inl (.inl h)
      · exact .inl (.inr h)
      · exact .inr h
theorem eachL_pw (s : Nat) : (eachL s).Pairwise (· < ·) := by
  unfold eachL
  rw [List.pairwise_map]
  exact (List.pairwise_lt_range.filter _).imp fun h => by omega
/-- Put in order by With it is the set's row. -/
theorem fold_each {e : List Int} (h : ∀ x ∈ e, 0 ≤ x ∧ x < (64 : Nat)) : e.foldl withI [] = eachL (setL e) := by
  refine lt_unique (foldI_pw e List.Pairwise.nil) (eachL_pw _) fun x => ?_
  rw [foldI_mem, eachL_mem (setL_lt h), setL_bit (fun y hy => (h y hy).1), decide_eq_true_iff]
  constructor
  · rintro (q | q)
    · cases q
    · exact ⟨(h x q).1, by rw [Int.toNat_of_nonneg (h x q).1]; exact q⟩
  · rintro ⟨h1, h2⟩
    rw [Int.toNat_of_nonneg h1] at h2
    exact .inr h2
-- WALKED (printed by mkhzwi.py)
theorem filterI_step {l : List Int} {f : Int → Bool} {j : Nat} (h : j < l.length) : (l.take (j + 1)).filter f = (l.take j).filter f ++ (if f l[j] then [l[j]] else []) := by
  rw [List.take_succ_eq_append_getElem h, List.filter_append]
  cases hf : f l[j] <;> simp [hf]
set_option maxRecDepth 100000 in
set_option maxHeartbeats 2000000 in
theorem With_any (v : Value) (l : List Int) (n : Int) (w : World) (h : SlI .i64 w v l) (hl : l.length ≤ 1048576) :
    Calls Tryd.prog 46 #[v, .int .i64 n] w fun e w' => ∃ v', e = .returned v' ∧ w'.ownsRow w.heap.size 3 1 v' (withI l n).length ((withI l n).map (.int .i64)) ∧ Below w.heap.size w w' := by
  obtain ⟨j0, hj, jz0, jz1, jz2⟩ := info_parts info_int
  obtain ⟨a, c, rfl, h1, h2, h3, h4⟩ := h.open
  have HX := Lib.hid h4
  clear h h1 h2 h3 h4
  go_enter Tryd.func46, Tryd.ntmps46
  go_wp2
  go_loopw [5, 12] (fun out k wr => ∃ i : Nat, i ≤ l.length ∧ k = .int .i64 i ∧ wr.ownsRow w.heap.size 3 1 out ((l.take i).filter (fun x => decide (x < n))).length (((l.take i).filter (fun x => decide (x < n))).map (.int .i64)) ∧ Below w.heap.size w wr) (fun _ k _ => l.length - (intOf k).toNat)
  case atStart => exact ⟨0, Nat.zero_le _, rfl, by simpa using World.ownsRow_nil _ _ _ _, later_refl w⟩
  case round =>
    obtain ⟨i, hi', rfl, hown, hb⟩ := hrel
    obtain ⟨ao, co, rfl⟩ := owns_shape2 hown
    have hsz := hb.size
    by_cases hlt : i < l.length
    · obtain ⟨bb, o, rfl, hbb, hcs⟩ := HX.out (by omega)
      have ha := (cell_next hb (hcs i hlt))
      obtain ⟨x, hx⟩ : ∃ x, l[i] = x := ⟨_, rfl⟩
      have hfs := filterI_step (f := (fun x => decide (x < n))) hlt
      rw [hx] at ha hfs
      have hacc : ((l.take i).filter (fun x => decide (x < n))).length ≤ 3 * 1048576 + 1 := by
        have e1 := List.length_filter_le (fun x => decide (x < n)) l
        have e2 := List.length_filter_le (fun x => decide (x < n)) (l.take i)
        simp at e2 ⊢
        omega
      obtain ⟨acc, hac⟩ : ∃ acc, ((l.take i).filter (fun x => decide (x < n))) = acc := ⟨_, rfl⟩
      have HAC := Lib.hid hac
      rw [hac] at hown hacc
      rw [hac]
      clear hcs hx hac
      by_cases hq : x < n
      · rw [if_pos (decide_eq_true hq)] at hfs
        have HFS := Lib.hid hfs
        clear hfs
        have hOA := hown.alloc (.cells #[.int .i64 x] 3)
        go_wp2_with (at_builtin; refine wpList_append_own _ rfl (.tmp 19) (.tmp 21) 27 rfl w.heap.size 3 j0 _ 1 8 Tryd.underlying27 hj jz0 jz1 jz2 rfl (by decide) _ _ _ rfl hOA ⟨wr.heap.size, 0, none⟩ 1 1 [.int .i64 x] rfl rfl (cells_new _ _ _) (by simp [Value.oneCell']) (by unfold maxLen; omega) (by omega) (by simp; omega) ?_; intro v6 w6 hown6 hgrow6 _; obtain ⟨g6, cap6, rfl⟩ := ownsRow_succ hown6)
        have HB : Hid (Below w.heap.size w w6) := Lib.hid ((later_trans hb (later_alloc wr _)).grown hgrow6 (by simp; omega) (fun k e => owns_above hOA k e))
        have HO : Hid (w6.ownsRow w.heap.size 3 1 (.slice (some ⟨g6, 0, none⟩) (acc.length + 1) cap6) (acc.length + 1) ((acc ++ [x]).map (.int .i64))) := Lib.hid (by rw [List.map_append]; exact hown6)
        clear hown6 hgrow6 hOA hown hb
        go_roundw
        case rel =>
          refine ⟨i + 1, by omega, by go_num, ?_, HB.out⟩
          have e : ((l.take (i + 1)).filter (fun x => decide (x < n))) = acc ++ [x] := by rw [HFS.out, ← HAC.out]
          rw [e, List.length_append]
          exact HO.out
        case measure => simp [intOf]; omega
      · rw [if_neg (by simpa using hq), List.append_nil] at hfs
        have HFS := Lib.hid hfs
        have HB := Lib.hid (And.intro hown hb)
        clear hfs hown hb
        go_wp2_with fail
        go_roundw
        case rel =>
          refine ⟨i + 1, by omega, by go_num, ?_, HB.out.2⟩
          rw [HFS.out, HAC.out]
          exact HB.out.1
        case measure => simp [intOf]; omega
    · obtain rfl : i = l.length := by omega
      have e : l.take l.length = l := List.take_of_length_le (Nat.le_refl _)
      rw [e] at hown ⊢
      have hln := List.length_filter_le (fun x => decide (x < n)) l
      have hOA := hown.alloc (.cells #[.int .i64 n] 3)
      go_wp2_with (at_builtin; refine wpList_append_own _ rfl (.tmp 24) (.tmp 26) 27 rfl w.heap.size 3 j0 _ 1 8 Tryd.underlying27 hj jz0 jz1 jz2 rfl (by decide) _ _ _ rfl hOA ⟨wr.heap.size, 0, none⟩ 1 1 [.int .i64 n] rfl rfl (cells_new _ _ _) (by simp [Value.oneCell']) (by unfold maxLen; omega) (by omega) (by simp; omega) ?_; intro v6 w6 hown6 hgrow6 _; obtain ⟨g6, cap6, rfl⟩ := ownsRow_succ hown6)
      have HB1 : Hid (Below w.heap.size w w6) := Lib.hid ((later_trans hb (later_alloc wr _)).grown hgrow6 (by simp; omega) (fun k e => owns_above hOA k e))
      have HO1 : Hid (w6.ownsRow w.heap.size 3 1 (.slice (some ⟨g6, 0, none⟩) ((l.filter (fun x => decide (x < n))).length + 1) cap6) (l.filter (fun x => decide (x < n)) ++ [n]).length ((l.filter (fun x => decide (x < n)) ++ [n]).map (.int .i64))) := Lib.hid (by rw [List.map_append, List.length_append]; exact hown6)
      clear hown6 hgrow6 hOA hown hb hsz
      go_loopw [5, 30] (fun out k wr => ∃ i : Nat, i ≤ l.length ∧ k = .int .i64 i ∧ wr.ownsRow w.heap.size 3 1 out (l.filter (fun x => decide (x < n)) ++ [n] ++ (l.take i).filter (fun x => decide (n < x))).length ((l.filter (fun x => decide (x < n)) ++ [n] ++ (l.take i).filter (fun x => decide (n < x))).map (.int .i64)) ∧ Below w.heap.size w wr) (fun _ k _ => l.length - (intOf k).toNat)
      case atStart => exact ⟨0, Nat.zero_le _, rfl, by simpa using HO1.out, HB1.out⟩
      case round =>
        obtain ⟨i, hi', rfl, hown, hb⟩ := hrel
        obtain ⟨ao, co, rfl⟩ := owns_shape2 hown
        have hsz := hb.size
        by_cases hlt : i < l.length
        · obtain ⟨bb, o, rfl, hbb, hcs⟩ := HX.out (by omega)
          have ha := (cell_next hb (hcs i hlt))
          obtain ⟨x, hx⟩ : ∃ x, l[i] = x := ⟨_, rfl⟩
          have hfs := filterI_step (f := (fun x => decide (n < x))) hlt
          rw [hx] at ha hfs
          have hacc : (l.filter (fun x => decide (x < n)) ++ [n] ++ (l.take i).filter (fun x => decide (n < x))).length ≤ 3 * 1048576 + 1 := by
            have e1 := List.length_filter_le (fun x => decide (x < n)) l
            have e2 := List.length_filter_le (fun x => decide (n < x)) (l.take i)
            simp at e2 ⊢
            omega
          obtain ⟨acc, hac⟩ : ∃ acc, (l.filter (fun x => decide (x < n)) ++ [n] ++ (l.take i).filter (fun x => decide (n < x))) = acc := ⟨_, rfl⟩
          have HAC := Lib.hid hac
          rw [hac] at hown hacc
          rw [hac]
          clear hcs hx hac
          by_cases hq : n < x
          · rw [if_pos (decide_eq_true hq)] at hfs
            have HFS := Lib.hid hfs
            clear hfs
            have hOA := hown.alloc (.cells #[.int .i64 x] 3)
            go_wp2_with (at_builtin; refine wpList_append_own _ rfl (.tmp 37) (.tmp 39) 27 rfl w.heap.size 3 j0 _ 1 8 Tryd.underlying27 hj jz0 jz1 jz2 rfl (by decide) _ _ _ rfl hOA ⟨wr.heap.size, 0, none⟩ 1 1 [.int .i64 x] rfl rfl (cells_new _ _ _) (by simp [Value.oneCell']) (by unfold maxLen; omega) (by omega) (by simp; omega) ?_; intro v6 w6 hown6 hgrow6 _; obtain ⟨g6, cap6, rfl⟩ := ownsRow_succ hown6)
            have HB : Hid (Below w.heap.size w w6) := Lib.hid ((later_trans hb (later_alloc wr _)).grown hgrow6 (by simp; omega) (fun k e => owns_above hOA k e))
            have HO : Hid (w6.ownsRow w.heap.size 3 1 (.slice (some ⟨g6, 0, none⟩) (acc.length + 1) cap6) (acc.length + 1) ((acc ++ [x]).map (.int .i64))) := Lib.hid (by rw [List.map_append]; exact hown6)
            clear hown6 hgrow6 hOA hown hb
            go_roundw
            case rel =>
              refine ⟨i + 1, by omega, by go_num, ?_, HB.out⟩
              have e : (l.filter (fun x => decide (x < n)) ++ [n] ++ (l.take (i + 1)).filter (fun x => decide (n < x))) = acc ++ [x] := by rw [HFS.out, ← HAC.out]; simp only [List.append_assoc]
              rw [e, List.length_append]
              exact HO.out
            case measure => simp [intOf]; omega
          · rw [if_neg (by simpa using hq), List.append_nil] at hfs
            have HFS := Lib.hid hfs
            have HB := Lib.hid (And.intro hown hb)
            clear hfs hown hb
            go_wp2_with fail
            go_roundw
            case rel =>
              refine ⟨i + 1, by omega, by go_num, ?_, HB.out.2⟩
              rw [HFS.out, HAC.out]
              exact HB.out.1
            case measure => simp [intOf]; omega
        · obtain rfl : i = l.length := by omega
          have e : l.take l.length = l := List.take_of_length_le (Nat.le_refl _)
          rw [e] at hown ⊢
          have HE := Lib.hid (And.intro hown hb)
          clear hown hb
          go_wp2_with fail
          go_ret
          exact ⟨_, rfl, HE.out.1, HE.out.2⟩
theorem withI_len (l : List Int) (n : Int) : (withI l n).length ≤ l.length + 1 := by
  unfold withI
  rw [List.length_append, List.length_append, List.length_singleton]
  have : (l.filter (fun x => decide (x < n))).length + (l.filter (fun x => decide (n < x))).length ≤ l.length := by
    induction l with
    | nil => simp
    | cons x l ih =>
      rcases Int.lt_trichotomy x n with q | q | q
      · have q' : ¬ n < x := by omega
        simp [q, q']; omega
      · have q1 : ¬ n < x := by omega
        have q2 : ¬ x < n := by omega
        simp [q1, q2]; omega
      · have q' : ¬ x < n := by omega
        simp [q, q']; omega
  omega
theorem foldI_len : ∀ (e a : List Int), (e.foldl withI a).length ≤ a.length + e.length
  | [], a => by simp
  | x :: e, a => by
    have h1 := foldI_len e (withI a x)
    have h2 := withI_len a x
    rw [List.foldl_cons, List.length_cons]
    omega
theorem foldI_take {e : List Int} {i : Nat} (h : i < e.length) : (e.take (i + 1)).foldl withI [] = withI ((e.take i).foldl withI []) e[i] := by
  rw [List.take_succ_eq_append_getElem h, List.foldl_append]
  rfl
def foldL (ls : List (List Int)) : List (List Int) := ls.map fun e => e.foldl withI []
set_option maxRecDepth 100000 in
set_option maxHeartbeats 4000000 in
theorem Rows20_any (v : Value) (ls : List (List Int)) (w : World) (h : SlRK .i64 w v ls) (hl : ls.length ≤ 100) (he : ∀ e ∈ ls, e.length ≤ 100) :
    Calls Tryd.prog 19 #[v] w fun e w' => ∃ v' ps, e = .returned v' ∧ OwnRK .i64 3 27 w.heap.size w' v' ps ∧ ps.map Prod.snd = foldL ls ∧ Below w.heap.size w w' := by
  obtain ⟨i0, hi, hz0, hz1, hz2⟩ := info_parts info_rowI
  have H := Lib.hid (And.intro h he)
  obtain ⟨ae, ce, rfl, k1, k2, -⟩ := h.open
  clear h he k1 k2
  go_enter Tryd.func19, Tryd.ntmps19
  go_wp2_with fail
  go_loopw [3, 11] (fun s k wr => ∃ (i : Nat) (ps : List (Value × List Int)), i ≤ ls.length ∧ k = .int .i64 i ∧ OwnRK .i64 3 27 w.heap.size wr s ps ∧ ps.map Prod.snd = foldL (ls.take i) ∧ Below w.heap.size w wr) (fun _ k _ => ls.length - (intOf k).toNat)
  case atStart => exact ⟨0, [], Nat.zero_le _, rfl, ⟨World.ownsRow_nil _ _ _ _, fun p hp => by cases hp⟩, rfl, Below.refl _ _⟩
  case round =>
    obtain ⟨i, ps, hi', rfl, hown, hps, hb⟩ := hrel
    obtain ⟨av, cv, rfl⟩ := owns_shape2 hown.own
    have hpl : ps.length = i := by
      have := congrArg List.length hps
      unfold foldL at this
      rw [List.length_map, List.length_map, List.length_take] at this
      omega
    by_cases hlt : i < ls.length
    · obtain ⟨_, _, e1, _, _, _, f4⟩ := (H.out.1.later hb).open
      obtain ⟨b, o, e2, hbw, fc⟩ := f4 (by omega)
      injection e1 with e1a e1b e1c
      subst e1a e1c
      subst e2
      obtain ⟨rv, cr, hrv⟩ := fc i (by omega)
      obtain ⟨a2, c2, rfl, s1, s2, s3, s4⟩ := hrv.open
      have hel : (rowN ls i).length ≤ 100 := by rw [rowN_at hlt]; exact H.out.2 _ (List.getElem_mem hlt)
      have HR := Lib.hid (And.intro hrv (And.intro s4 (And.intro hown (And.intro hps hb))))
      have hbs := hb.size
      have hps100 : ps.length ≤ 100 := by omega
      clear hown hps hb fc f4 hrv s1 s2 s3 s4 e1b hpl
      obtain ⟨q, hq⟩ : ∃ q, (rowN ls i).length = q := ⟨_, rfl⟩
      have HQ := Lib.hid hq
      rw [hq] at hel cr
      clear hq
      go_wp2_with fail
      go_loopw [6, 17] (fun out k wr2 => ∃ j : Nat, j ≤ q ∧ k = .int .i64 j ∧ wr2.ownsRow w.heap.size 3 1 out (((rowN ls i).take j).foldl withI []).length ((((rowN ls i).take j).foldl withI []).map (.int .i64)) ∧ Below wr.heap.size wr wr2) (fun _ k _ => q - (intOf k).toNat)
      case atStart => exact ⟨0, Nat.zero_le _, rfl, by simpa using World.ownsRow_nil _ _ _ _, Below.refl _ _⟩
      case round =>
        obtain ⟨j, hj', rfl, hown, hb⟩ := hrel
        obtain ⟨ao, co, rfl⟩ := owns_shape2 hown
        have hsz := hb.size
        by_cases hjt : j < q
        · have hjq : j < (rowN ls i).length := by rw [HQ.out]; exact hjt
          obtain ⟨bb, oo, rfl, hbb, hcs⟩ := HR.out.2.1 (by omega)
          have ha := cell_next hb (hcs j hjq)
          have hwf := HR.out.1.2 _ (List.getElem_mem hjq)
          obtain ⟨x, hx⟩ : ∃ x, (rowN ls i)[j] = x := ⟨_, rfl⟩
          have hft := foldI_take hjq
          rw [hx] at ha hft hwf
          have hacc : (((rowN ls i).take j).foldl withI []).length ≤ 100 := by
            have := foldI_len ((rowN ls i).take j) []
            rw [List.length_take, List.length_nil] at this
            omega
          have hwfa : ∀ y ∈ ((rowN ls i).take j).foldl withI [], (Lit.int .i64 y).wf = true := fun y hy => by
            rcases (foldI_mem _).1 hy with q | q
            · cases q
            · exact HR.out.1.2 y (List.mem_of_mem_take q)
          obtain ⟨acc, hac⟩ : ∃ acc, ((rowN ls i).take j).foldl withI [] = acc := ⟨_, rfl⟩
          rw [hac] at hown hacc hft hwfa
          rw [hac]
          have hW := With_any _ acc x _ (SlI.of_owns hown hwfa) (by omega)
          have HW := Lib.hid (And.intro hW (And.intro hft (And.intro hb hsz)))
          clear hcs hx hac hft hown hb hwfa hW
          go_wp2_with fail
          refine HW.out.1.mono ?_
          rintro e w2 ⟨v2, rfl, ho2, hb2⟩
          obtain ⟨a9, c9, rfl⟩ := owns_shape2 ho2
          have HO2 := Lib.hid (And.intro ho2 hb2)
          clear ho2 hb2
          go_wp2_with fail
          go_roundw
          case rel =>
            refine ⟨j + 1, by omega, by go_num, ?_, later_trans HW.out.2.2.1 HO2.out.2⟩
            rw [HW.out.2.1]
            exact owns_down HO2.out.1 (by have := HW.out.2.2.2; omega)
          case measure => simp [intOf]; omega
        · obtain rfl : j = q := by omega
          rw [← HQ.out, List.take_of_length_le (Nat.le_refl _)] at hown
          rw [← HQ.out, List.take_of_length_le (Nat.le_refl _)]
          have hfl := foldI_len (rowN ls i) []
          have hwf : ∀ y ∈ (rowN ls i).foldl withI [], (Lit.int .i64 y).wf = true := fun y hy => by
            rcases (foldI_mem _).1 hy with q | q
            · cases q
            · exact HR.out.1.2 y q
          obtain ⟨xs, hxs⟩ : ∃ xs, (rowN ls i).foldl withI [] = xs := ⟨_, rfl⟩
          rw [hxs] at hown hwf
          rw [hxs]
          have hO2 := owns_later HR.out.2.2.1.own hb
          have HB := Lib.hid (And.intro hb (And.intro hown (And.intro hwf hxs)))
          clear hb hown hwf hxs hfl
          go_wp2_with (at_builtin; refine wpList_append_own _ rfl (.tmp 25) (.tmp 27) 22 rfl w.heap.size 27 i0 _ 1 24 Tryd.underlying22 hi hz0 hz1 hz2 rfl (by decide) _ _ _ rfl (hO2.alloc _) ⟨wr.heap.size, 0, none⟩ 1 1 [.slice ao xs.length co] rfl rfl (cells_new _ _ _) (by simp [Value.oneCell']) (by unfold maxLen; omega) (by omega) (by simp; omega) ?_; intro v6 w6 hown6 hgrow6 _; obtain ⟨g6, cap6, rfl⟩ := ownsRow_succ hown6)
          have hN := OwnRK.next (by decide) HR.out.2.2.1 HB.out.1 HB.out.2.1 rfl HB.out.2.2.1 hown6 hgrow6
          have hA := later_trans HR.out.2.2.2.2 (later_trans HB.out.1 (later_alloc wr (.cells #[.slice ao xs.length co] 27)))
          have HF := Lib.hid (And.intro hN (hA.grown hgrow6 hA.size (fun k e => owns_above hO2 k e)))
          have HS : Hid ((ps ++ [(Value.slice ao xs.length co, xs)]).map Prod.snd = foldL (ls.take (i + 1))) := Lib.hid (by
            rw [List.map_append, HR.out.2.2.2.1]
            unfold foldL
            rw [List.take_succ_eq_append_getElem hlt, List.map_append, ← rowN_at hlt]
            show _ ++ [xs] = _ ++ [(rowN ls i).foldl withI []]
            rw [HB.out.2.2.2])
          clear hN hA hown6 hgrow6 hO2
          go_roundw
          case rel => first | exact ⟨i + 1, _, by omega, by go_num, HF.out.1, HS.out, HF.out.2⟩ | ((repeat apply Exists.intro); refine ⟨?_, rfl⟩; exact ⟨i + 1, _, by omega, by go_num, HF.out.1, HS.out, HF.out.2⟩)
          case measure => simp [intOf]; omega
    · obtain rfl : i = ls.length := by omega
      have HE := Lib.hid (And.intro hown (And.intro hps hb))
      clear hown hps hb hpl
      go_wp2_with fail
      go_ret
      refine ⟨_, ps, rfl, HE.out.1, ?_, HE.out.2.2⟩
      rw [HE.out.2.1, List.take_of_length_le (Nat.le_refl _)]
end Go.Proofs.YtplidcbfbonjlaaDoor
