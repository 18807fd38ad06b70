/-
  slices.DeleteFunc at pairs, of a row of the call's own, walked.
-/
import Derived.Test.YtdfnfdgkhflonaaTCut
import Derived.Lib.SliceRun
namespace Go.Proofs.Ytdfnfdgkhflonaa
open Go.RowKit
set_option linter.unusedVariables false

theorem owns_setCells {base : Nat} {e : TypeId} {size g n cap : Nat} : ∀ (vs : List Value) (o : Nat) (w : World) (xs : List Value), w.ownsRow base e size (.slice (some ⟨g, 0, none⟩) n cap) n xs →
    ∃ ys, (w.setCells g o vs).ownsRow base e size (.slice (some ⟨g, 0, none⟩) n cap) n ys ∧ ys.take o = xs.take o
  | [], o, w, xs, h => ⟨xs, h, rfl⟩
  | v :: r, o, w, xs, h => by
    obtain ⟨ys, h1, h2⟩ := owns_setCells r (o + 1) (w.setCell ⟨g, o, none⟩ v) (xs.set o v) (owns_set h v)
    refine ⟨ys, h1, ?_⟩
    have h3 := congrArg (List.take o) h2
    rw [List.take_take, List.take_take, Nat.min_eq_left (by omega)] at h3
    rw [h3, List.take_set]
    apply List.set_eq_of_length_le
    simp; omega
theorem below_cells {B g : Nat} (hg : B ≤ g) : ∀ (vs : List Value) (o : Nat) (w : World), Below B w (w.setCells g o vs)
  | [], _, w => Below.refl _ w
  | v :: r, o, w => ((Below.refl _ w).setCell (p := ⟨g, o, none⟩) hg v).trans (below_cells hg r (o + 1) _)
theorem owns_cut {w : World} {base : Nat} {e : TypeId} {size g n cap m : Nat} {xs : List Value} (h : w.ownsRow base e size (.slice (some ⟨g, 0, none⟩) n cap) n xs) (hm : m ≤ n) : w.ownsRow base e size (.slice (some ⟨g, 0, none⟩) m cap) m (xs.take (m * size)) := by
  obtain ⟨hl, h⟩ := h
  have hms := Nat.mul_le_mul_right size hm
  refine ⟨by rw [List.length_take, hl]; omega, ?_⟩
  rcases h with ⟨h, _⟩ | ⟨g', cap', cur, hv, hg, hh, h1, h2, h3, h4⟩
  · cases h
  · cases hv
    refine Or.inr ⟨g, cap, cur, rfl, hg, hh, by omega, h2, h3, ?_⟩
    rw [← h4, List.take_take, Nat.min_eq_left hms]
theorem clear_pairs {w : World} {base g n cap : Nat} {xs : List Value} (h : w.ownsRow base 59 2 (.slice (some ⟨g, 0, none⟩) n cap) n xs) {i : Nat} (hi : i < n) (c : Nat) :
    ∃ zs, ∀ ty : TypeId, (Builtin.clear_ #[57] ty #[.slice (some ⟨g, i * 2, none⟩) (n - i) c]).run Try.prog w = .ok (.tuple #[]) (w.setCells g (i * 2) zs) := by
  have ht := Try.underlying57
  have hv := Try.zeroValue59
  obtain ⟨zs, hzs⟩ : ∃ zs, (Builtin.zeroCells (Value.agg #[.int .u64 0, .int .u64 0]).cells (n - i)).toList = zs := ⟨_, rfl⟩
  have hzl : zs.length = (n - i) * 2 := by rw [← hzs]; simp [Builtin.zeroCells, Value.cells]
  have hz1 : ∀ v ∈ zs, v.oneCell' = true := by
    intro v hv'
    rw [← hzs] at hv'
    simp [Builtin.zeroCells, Value.cells] at hv'
    obtain ⟨k, hk, rfl⟩ := hv'
    have : k % 2 = 0 ∨ k % 2 = 1 := by omega
    rcases this with e | e <;> rw [e] <;> rfl
  have hst := run_storeCells_cells (P := Try.prog) g (i * 2) zs 0 w
    (fun j hj => by
      have hx : i * 2 + j < xs.length := by rw [h.1]; omega
      simp only [Nat.add_zero]
      rw [(owns_cell h (List.getElem?_eq_getElem hx)).1]; rfl)
    (fun j hj => by
      have hx : i * 2 + j < xs.length := by rw [h.1]; omega
      simp only [Nat.add_zero]
      exact (owns_cell h (List.getElem?_eq_getElem hx)).2) hz1
  simp only [Nat.add_zero] at hst
  obtain ⟨m, hm⟩ : ∃ m, n - i = m + 1 := ⟨n - i - 1, by omega⟩
  rw [hm] at hzs ⊢
  exact ⟨zs, fun ty => by simp [Builtin.clear_, run_underlying ht, hv, hzs, hst]⟩

/-- A pair set into a row, cell by cell. -/
theorem flat_set (row : List Pr) (i : Nat) (p : Pr) (hi : i < row.length) : ((row.flatMap Pr.cells).set (i * 2) (.int .u64 p.a)).set (i * 2 + 1) (.int .u64 p.b) = (row.set i p).flatMap Pr.cells := by
  induction row generalizing i with
  | nil => simp at hi
  | cons a r ih =>
    cases i with
    | zero => simp [Pr.cells]
    | succ i =>
      have := ih i (by simpa using hi)
      have e : (i + 1) * 2 = i * 2 + 1 + 1 := by omega
      rw [e]
      simpa [Pr.cells] using this
theorem filter_step {l : List Pr} {f : Pr → Bool} {j : Nat} (h : j < l.length) : (l.take (j + 1)).filter f = (l.take j).filter f ++ (if f l[j] then [l[j]] else []) := by
  rw [List.take_succ_eq_append_getElem h, List.filter_append]
  split <;> simp_all

set_option maxRecDepth 100000 in
set_option maxHeartbeats 2000000 in
theorem del_any (v : Value) (l : List Pr) (f t : Int) (P Q base : Nat) (w : World) (hown : w.ownsRow base 59 2 v l.length (l.flatMap Pr.cells)) (hwf : ∀ p ∈ l, p.wf) (hlen : l.length ≤ 1048576) (hbase : base ≤ w.heap.size)
    (hP : w.heap[P]? = some (.cells #[.int .u64 f] 38 (0, 0))) (hQ : w.heap[Q]? = some (.cells #[.int .u64 t] 38 (0, 0))) :
    Calls Try.prog 89 #[v, .func (.func 90) #[] #[.pointer (some ⟨P, 0, none⟩), .pointer (some ⟨Q, 0, none⟩)]] w fun e w' =>
      ∃ v', e = .returned v' ∧ w'.ownsRow base 59 2 v' (l.filter (fun p => !cutB f t p)).length ((l.filter (fun p => !cutB f t p)).flatMap Pr.cells) ∧ Below base w w' := by
  have hI := Lib.hid (indexF_any v l f t P Q w ⟨SlT.of_owns hown, hwf⟩ hP hQ)
  obtain ⟨a, c, rfl⟩ := owns_shape2 hown
  go_enter Try.func89, Try.ntmps89
  go_wp2_with fail
  refine hI.out.mono ?_
  rintro e w1 ⟨he, hb1⟩
  have hown1 := owns_later hown hb1
  rcases he with ⟨rfl, hno⟩ | ⟨i, hil, rfl, hcut, hno⟩
  · have hf : l.filter (fun p => !cutB f t p) = l := by
      rw [List.filter_eq_self]
      intro p hp
      obtain ⟨j, hj, rfl⟩ := List.getElem_of_mem hp
      simp [hno j hj]
    go_wp2_with fail
    go_ret
    rw [hf]
    exact ⟨_, rfl, hown1, hb1.mono hbase⟩
  · obtain ⟨N, hN⟩ : ∃ N, l.length = N + 1 := ⟨l.length - 1, by omega⟩
    have hlN := Lib.hid hN
    rw [hN] at hown1
    obtain ⟨g, cap, hv⟩ := ownsRow_succ hown1
    obtain ⟨ha, hc⟩ : a = some ⟨g, 0, none⟩ ∧ c = cap := by cases hv; exact ⟨rfl, rfl⟩
    subst ha hc
    rw [← hN] at hown1
    have hib : ((i : Int) == -1) = false := beq_eq_false_iff_ne.2 (by omega)
    have hP1 := (hb1.block _ (lt_of_block hP)).trans hP
    have hQ1 := (hb1.block _ (lt_of_block hQ)).trans hQ
    have hbb := hb1.mono hbase
    have hk0 : (l.take (i + 1)).filter (fun p => !cutB f t p) = l.take i := by
      rw [filter_step hil]
      simp [hcut]
      intro p hp
      obtain ⟨j, hj, rfl⟩ := List.getElem_of_mem hp
      simp at hj ⊢
      exact hno j (by omega)
    have HK0 := Lib.hid hk0
    clear hv hown hcut hno hk0 hN
    go_wp2_with fail
    go_loopw [5, 6] (fun iv jv wr => ∃ (i j : Nat) (row : List Pr), i < j ∧ j ≤ l.length ∧ iv = .int .i64 i ∧ jv = .int .i64 j ∧ row.length = l.length ∧ row.take i = (l.take j).filter (fun p => !cutB f t p) ∧ (∀ k, j ≤ k → (hk : k < l.length) → row[k]? = some l[k]) ∧
      wr.ownsRow base 59 2 (.slice (some ⟨g, 0, none⟩) l.length c) l.length (row.flatMap Pr.cells) ∧ wr.heap[P]? = some (.cells #[.int .u64 f] 38 (0, 0)) ∧ wr.heap[Q]? = some (.cells #[.int .u64 t] 38 (0, 0)) ∧ Below base w wr) (fun _ jv _ => l.length - (intOf jv).toNat)
    case atStart => exact ⟨i, i + 1, l, by omega, by omega, rfl, by go_num, rfl, HK0.out.symm, fun k h1 h2 => List.getElem?_eq_getElem h2, hown1, hP1, hQ1, hbb⟩
    case round =>
      obtain ⟨i, j, row, hij, hjl, rfl, rfl, hrl, hrt, hrd, hownr, hPr, hQr, hbr⟩ := hrel
      by_cases hlt : j < l.length
      · have hrj := hrd j (Nat.le_refl _) hlt
        have hrj' : j < row.length := by omega
        obtain ⟨p, hp⟩ : ∃ p, l[j] = p := ⟨_, rfl⟩
        have hpr : row[j] = p := by rw [List.getElem?_eq_getElem hrj'] at hrj; exact (Option.some.inj hrj).trans hp
        have hca := (owns_cell (j := j * 2) (u := .int .u64 p.a) hownr (by rw [show j * 2 = j * 2 + 0 from rfl, flat_at Pr.len row j 0 hrj' (by omega), hpr]; rfl)).1
        have hcb := (owns_cell (j := j * 2 + 1) (u := .int .u64 p.b) hownr (by rw [flat_at Pr.len row j 1 hrj' (by omega), hpr]; rfl)).1
        have hC := Lib.hid (cut1_any f t p P Q (wr.alloc (.cells #[.int .u64 p.a, .int .u64 p.b] 59)) (box_alloc hPr _) (box_alloc hQr _))
        have hgl := (hownr.lt g rfl).2
        have hfs := filter_step (f := fun p => !cutB f t p) hlt
        rw [hp] at hfs
        have HRT := Lib.hid hrt
        have HRD := Lib.hid hrd
        have hbs := hbr.size
        clear hrt hrd hp hrj
        cases hcut : cutB f t p with
        | true =>
          rw [hcut] at hC hfs
          simp only [Bool.not_true, Bool.false_eq_true, if_false, List.append_nil] at hfs
          have HFS := Lib.hid hfs
          clear hfs hcut hpr
          go_wp2_with (go_at_call 90; refine hC.out.mono ?_; rintro e w2 ⟨rfl, hb2⟩)
          have hb3 := later_trans (later_alloc wr _) hb2
          go_roundw
          case rel => exact ⟨i, j + 1, row, by omega, by omega, rfl, by go_num, hrl, by rw [HFS.out]; exact HRT.out, fun k h1 h2 => HRD.out k (by omega) h2, owns_later hownr hb3, (hb3.block _ (lt_of_block hPr)).trans hPr, (hb3.block _ (lt_of_block hQr)).trans hQr, hbr.trans (hb3.mono (by omega))⟩
          case measure => simp [intOf]; omega
        | false =>
          rw [hcut] at hC hfs
          simp only [Bool.not_false, if_true] at hfs
          have HFS := Lib.hid hfs
          have HPR := Lib.hid hpr
          clear hfs hcut hpr
          go_wp2_with (go_at_call 90; refine hC.out.mono ?_; rintro e w2 ⟨rfl, hb2⟩; have hb3 := later_trans (later_alloc wr _) hb2; have hown2 := owns_later hownr hb3; have hbx := (hb2.block _ (lt_of_block (box_new wr #[.int .u64 p.a, .int .u64 p.b] 59))).trans (box_new wr _ _); have x0 := box_cell (i := 0) hbx; have x1 := box_cell (i := 1) hbx; simp at x0 x1; obtain ⟨e0, he0⟩ : ∃ u, (row.flatMap Pr.cells)[i * 2]? = some u := ⟨_, List.getElem?_eq_getElem (by rw [flat_len Pr.len]; omega)⟩; obtain ⟨e1, he1⟩ : ∃ u, (row.flatMap Pr.cells)[i * 2 + 1]? = some u := ⟨_, List.getElem?_eq_getElem (by rw [flat_len Pr.len]; omega)⟩; obtain ⟨s0, z0⟩ := owns_cell (j := i * 2) hown2 he0; obtain ⟨s1, z1⟩ := owns_cell (j := i * 2 + 1) hown2 he1; clear he0 he1)
          have hown4 := owns_set (j := i * 2 + 1) (owns_set (j := i * 2) hown2 (.int .u64 p.a)) (.int .u64 p.b)
          rw [flat_set row i p (by omega)] at hown4
          have hgP : P ≠ g := by
            intro e; subst e
            exact own_ne hownr hPr (by decide) rfl
          have hgQ : Q ≠ g := by
            intro e; subst e
            exact own_ne hownr hQr (by decide) rfl
          have hgb := owns_above hownr g rfl
          go_roundw
          case rel =>
            refine ⟨i + 1, j + 1, row.set i p, by omega, by omega, by go_num, by go_num, by simp [hrl], ?_, fun k h1 h2 => ?_, hown4, ?_, ?_, ?_⟩
            · rw [HFS.out, ← HRT.out, List.take_succ_eq_append_getElem (by simp; omega), List.take_set]
              congr 1
              · apply List.set_eq_of_length_le; simp; omega
              · simp
            · rw [List.getElem?_set_ne (by omega)]; exact HRD.out k (by omega) h2
            · exact box_other (box_other ((hb3.block _ (lt_of_block hPr)).trans hPr) hgP _) hgP _
            · exact box_other (box_other ((hb3.block _ (lt_of_block hQr)).trans hQr) hgQ _) hgQ _
            · exact ((hbr.trans (hb3.mono (by omega))).setCell (p := ⟨g, i * 2, none⟩) hgb _).setCell (p := ⟨g, i * 2 + 1, none⟩) hgb _
          case measure => simp [intOf]; omega
      · obtain rfl : j = l.length := by omega
        have hfull : l.take l.length = l := List.take_of_length_le (Nat.le_refl _)
        rw [hfull] at hrt
        have hfl : (l.filter (fun p => !cutB f t p)).length = i := by rw [← hrt]; simp; omega
        have hgb := owns_above hownr g rfl
        obtain ⟨zs, hzs⟩ := clear_pairs hownr (i := i) (by omega) (c - i)
        have hsub : (l.length : Int) - (i : Int) = ((l.length - i : Nat) : Int) := by omega
        have hcl : l.length ≤ c := by
          rcases hownr.2 with ⟨h, _⟩ | ⟨g', cap', cur, hv, _, _, h1, h2, _⟩
          · cases h
          · cases hv; exact h1
        have hcm : c ≤ 9223372036854775807 := by
          rcases hownr.2 with ⟨h, _⟩ | ⟨g', cap', cur, hv, _, _, h1, h2, _⟩
          · cases h
          · cases hv; simpa [maxLen] using h2
        have HRT := Lib.hid hrt
        have HFL := Lib.hid hfl
        clear hrt hfl hrd hfull
        go_wp2_with fail
        go_ret
        obtain ⟨ys, hown5, hys⟩ := owns_setCells zs (i * 2) wr (row.flatMap Pr.cells) hownr
        have h6 := owns_cut (m := i) hown5 (by omega)
        rw [hys, ← flat_take Pr.len, HRT.out] at h6
        exact ⟨_, rfl, by rw [HFL.out]; exact h6, hbr.trans (below_cells hgb _ _ _)⟩
end Go.Proofs.Ytdfnfdgkhflonaa
