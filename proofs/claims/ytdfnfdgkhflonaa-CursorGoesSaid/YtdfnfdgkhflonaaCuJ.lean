/-
  The cursor's Path; and what all its questions answer, said plainly.
-/
import Derived.Test.YtdfnfdgkhflonaaCuI
import Derived.Test.YtdfnfdgkhflonaaLib
import Derived.RangeFuncBox
namespace Go.Proofs.Ytdfnfdgkhflonaa
open Go.RowKit
set_option linter.unusedVariables false

/-- The numbers where a cursor stands in its rows. -/
def pathR (xs : List (List Int × Nat)) : List Int := xs.flatMap fun x => (x.1.drop x.2).take 1
theorem pathR_len (xs : List (List Int × Nat)) : (pathR xs).length ≤ xs.length := by
  induction xs with
  | nil => simp [pathR]
  | cons x xs ih => simp [pathR] at *; omega
theorem pathR_yes {xs : List (List Int × Nat)} {i : Nat} (hi : i < xs.length) {l : List Int} {j : Nat} (e : xs[i] = (l, j)) (hj : j < l.length) : pathR (xs.take (i + 1)) = pathR (xs.take i) ++ [l[j]] := by
  rw [List.take_succ_eq_append_getElem hi, e]
  simp [pathR, List.take_one, List.head?_drop, List.getElem?_eq_getElem hj]
theorem pathR_no {xs : List (List Int × Nat)} {i : Nat} (hi : i < xs.length) {l : List Int} {j : Nat} (e : xs[i] = (l, j)) (hj : ¬ j < l.length) : pathR (xs.take (i + 1)) = pathR (xs.take i) := by
  rw [List.take_succ_eq_append_getElem hi, e]
  simp [pathR, List.take_one, List.head?_drop, List.getElem?_eq_none (show l.length ≤ j by omega)]
theorem cells_newAt (w : World) (cs : List Value) (t : TypeId) (B : Nat) (hB : w.heap.size = B) (j : Nat) (u : Value) (h : cs[j]? = some u) : (w.alloc (.cells cs.toArray t)).cell? ((⟨B, 0, none⟩ : Addr).add j) = some u := by
  subst hB; exact cells_new w cs t j u h
/-- The rows, read. -/
def Reads (w : World) (rs : List (Value × Int)) (xs : List (List Int × Nat)) : Prop := rs.length = xs.length ∧ ∀ i, (h : i < rs.length) → (h' : i < xs.length) → rs[i].2 = (xs[i].2 : Int) ∧ SlI .u64 w rs[i].1 xs[i].1
theorem rowCells_at {rs : List (Value × Int)} {i : Nat} (hi : i < rs.length) : (rowCells rs)[i * 2]? = some rs[i].1 ∧ (rowCells rs)[i * 2 + 1]? = some (.int .i64 rs[i].2) := by
  induction rs generalizing i with
  | nil => simp at hi
  | cons r rs ih =>
    cases i with
    | zero => simp [rowCells]
    | succ i =>
      have := ih (i := i) (by simpa using hi)
      rw [show (i + 1) * 2 = i * 2 + 2 by omega]
      simpa [rowCells] using this

set_option maxRecDepth 100000 in
set_option maxHeartbeats 2000000 in
theorem path_at {w : World} {c N : Nat} {rv : Value} {st : Int} {kv bv lv : Value} {rs : List (Value × Int)} {xs : List (List Int × Nat)} (h : CuS w c N rv st kv bv lv rs) (hr : Reads w rs xs) (hn : rs.length ≤ 2) :
    Calls Try.prog 21 #[.pointer (some ⟨c, 0, none⟩)] w fun e w' => ∃ v', e = .returned v' ∧ w'.ownsRow w.heap.size 38 1 v' (pathR xs).length ((pathR xs).map (.int .u64)) ∧ Below w.heap.size w w' := by
  obtain ⟨i0, hi, hz0, hz1, hz2⟩ := info_parts info_u64
  obtain ⟨ra, cap, rfl⟩ := owns_shape2 h.own
  obtain ⟨b0, -, -, -, -, -⟩ := h.cells
  obtain ⟨n, hnn⟩ : ∃ n, rs.length = n := ⟨_, rfl⟩
  have hX : ∀ i, i < n → ∃ (g : Nat) (l : List Int) (j : Nat) (ka : Option Addr) (kc : Nat), ra = some ⟨g, 0, none⟩ ∧ g < w.heap.size ∧ (∃ hx : i < xs.length, xs[i] = (l, j)) ∧ w.cell? ⟨g, i * 2, none⟩ = some (.slice ka l.length kc) ∧ w.cell? ⟨g, i * 2 + 1, none⟩ = some (.int .i64 j) ∧
      (j < l.length → ∃ b o, ka = some ⟨b, o, none⟩ ∧ b < w.heap.size ∧ ∃ hj : j < l.length, w.cell? ⟨b, o + j, none⟩ = some (.int .u64 l[j])) := by
    intro i hin
    have hx : i < xs.length := by have := hr.1; omega
    obtain ⟨r1, r2⟩ := hr.2 i (by omega) hx
    obtain ⟨ka, kc, e1, _, _, e4⟩ := r2.open'
    have ho := h.own
    obtain ⟨g, cap', hv⟩ := Go.Joins.ownsRow_form ho (by omega)
    cases hv
    obtain ⟨q1, q2⟩ := rowCells_at (rs := rs) (i := i) (by omega)
    refine ⟨g, xs[i].1, xs[i].2, ka, kc, rfl, (ho.lt g rfl).2, ⟨hx, rfl⟩, ?_, ?_, fun hj => ?_⟩
    · rw [← e1]; exact (owns_cell ho q1).1
    · rw [← r1]; exact (owns_cell ho q2).1
    · obtain ⟨b, o, e5, hb, hc⟩ := e4 (by omega)
      exact ⟨b, o, e5, hb, hj, hc _ hj⟩
  have hxl : xs.length = n := by have := hr.1; omega
  rw [hnn] at b0 hn
  have HX := Lib.hid hX
  have HN := Lib.hid hxl
  clear h hr hX hnn hxl
  go_enter Try.func21, Try.ntmps21
  go_wp2_with fail
  go_loopw [3, 14] (fun out k wr => ∃ i : Nat, i ≤ n ∧ k = .int .i64 i ∧ wr.ownsRow w.heap.size 38 1 out (pathR (xs.take i)).length ((pathR (xs.take i)).map (.int .u64)) ∧ Below w.heap.size w wr) (fun _ k _ => n - (intOf k).toNat)
  case atStart => exact ⟨0, Nat.zero_le _, rfl, World.ownsRow_nil _ _ _ _, later_refl w⟩
  case round =>
    obtain ⟨i, hi', rfl, hown, hb⟩ := hrel
    have hpl := pathR_len (xs.take i)
    have hpl2 : (xs.take i).length ≤ i := by rw [List.length_take]; omega
    obtain ⟨m, hm⟩ : ∃ m, (pathR (xs.take i)).length = m := ⟨_, rfl⟩
    rw [hm] at hown hpl
    have HM := Lib.hid hm
    clear hm
    obtain ⟨ao, co, rfl⟩ := owns_shape2 hown
    by_cases hlt : i < n
    · obtain ⟨g, l, j, ka, kc, rfl, hg, ⟨hx, hxe⟩, hc0, hc1, hcj⟩ := HX.out i hlt
      have hc0 := ((bcell hb).1 g (i * 2) hg).trans hc0
      have hc1 := ((bcell hb).1 g (i * 2 + 1) hg).trans hc1
      have hsz := hb.size
      by_cases hj : j < l.length
      · obtain ⟨b, o, rfl, hbb, hj', hcx⟩ := hcj hj
        have hcx := ((bcell hb).1 b (o + j) hbb).trans hcx
        have HST := Lib.hid (pathR_yes hx hxe hj)
        obtain ⟨x, hxx⟩ : ∃ x, l[j] = x := ⟨_, rfl⟩
        rw [hxx] at hcx HST
        clear hcj hxx hxe hx
        have hcx2 := fun o' => ((later_alloc wr o').cell (p := ⟨b, o + j, none⟩) (World.block_lt_of_cell? wr _ hcx)).trans hcx
        obtain ⟨len, hlen⟩ : ∃ len, l.length = len := ⟨_, rfl⟩
        rw [hlen] at hj hc0
        clear hlen
        go_wp2_with (at_builtin; refine wpList_append_own _ rfl (.tmp 24) (.tmp 31) 23 rfl w.heap.size 38 i0 _ 1 8 Try.underlying23 hi hz0 hz1 hz2 rfl (by decide) _ _ _ rfl ((hown.alloc _).alloc _) ⟨wr.heap.size + 1, 0, none⟩ 1 1 [.int .u64 x] rfl rfl (cells_newAt _ _ _ _ (by simp)) (by simp [Value.oneCell']) (by unfold maxLen; omega) (by omega) (by simp; omega) ?_; intro v6 w6 hown6 hgrow6 _; obtain ⟨g6, cap6, rfl⟩ := ownsRow_succ hown6)
        go_roundw
        case rel =>
          refine ⟨i + 1, by omega, by go_num, ?_, ((later_trans hb (later_alloc _ _)).alloc (by simp; omega) _).grown hgrow6 (by simp; omega) (owns_above hown)⟩
          rw [HST.out]
          simpa [HM.out] using hown6
        case measure => simp [intOf]; omega
      · have HST := Lib.hid (pathR_no hx hxe hj)
        clear hcj hxe hx
        go_wp2_with fail
        go_roundw
        case rel =>
          refine ⟨i + 1, by omega, by go_num, ?_, later_trans hb (later_alloc _ _)⟩
          rw [HST.out, HM.out]
          exact hown.alloc _
        case measure => simp [intOf]; omega
    · obtain rfl : i = n := by omega
      have e : xs.take i = xs := List.take_of_length_le (by rw [HN.out]; exact Nat.le_refl _)
      have hm := HM.out
      rw [e] at hown hm
      subst hm
      go_wp2_with fail
      go_ret
      exact ⟨_, rfl, hown, hb⟩
end Go.Proofs.Ytdfnfdgkhflonaa
