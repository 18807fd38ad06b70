/-
  slices.IsSorted of a row that rises; hyper.Parts of what may not be.
-/
import Derived.Test.YtplidcbfbonjlaaDoorHzLaw
import Derived.Test.YtplidcbfbonjlaaDoorSiIns
namespace Go.Proofs.YtplidcbfbonjlaaDoor
open Go.RowKit Go.Sort Go.Lib
set_option linter.unusedVariables false
set_option linter.unusedSimpArgs false

theorem drewN_add' (w : World) (a b : Nat) : (w.drewN a).drewN b = w.drewN (a + b) := by
  unfold World.drewN
  simp [Nat.add_assoc]
theorem lessR_any (x y : Int) (h : (x < y) = False) (w : World) : Calls Tryd.prog 53 #[.int .i64 x, .int .i64 y] w fun e w' => e = .returned (.bool false) ∧ w' = w := by
  have := lessS_any x y w
  have e : ltInt x y = false := by
    unfold ltInt
    exact decide_eq_false (fun q => by rw [h] at q; exact q)
  rwa [e] at this
set_option maxRecDepth 100000 in
set_option maxHeartbeats 2000000 in
/-- slices.IsSorted of a row that rises. -/
theorem isSorted_any (v : Value) (xs : List Int) (w : World) (h : SlI .i64 w v xs) (hr : ∀ t, t + 1 < xs.length → xs.getD t 0 ≤ xs.getD (t + 1) 0) :
    Calls Tryd.prog 26 #[v] w fun e w' => e = .returned (.bool true) ∧ ∃ q, w' = w.drewN q := by
  obtain ⟨a, c, rfl, h1, h2, h3, h4⟩ := h.open
  have HX := Lib.hid h4
  have HR := Lib.hid hr
  have hm : xs.length ≤ 9223372036854775807 := by omega
  clear h h1 h2 h3 h4 hr
  go_enter Tryd.func26, Tryd.ntmps26
  go_wp2
  go_loopw [3] (fun vi wr => ∃ i : Int, vi = .int .i64 i ∧ -1 ≤ i ∧ i < xs.length ∧ ∃ q, wr = w.drewN q) (fun vi _ => (intOf vi + 1).toNat)
  case atStart => exact ⟨(xs.length : Int) - 1, by go_num, by omega, by omega, 0, rfl⟩
  case round =>
    obtain ⟨i, rfl, hi0, hi1, q0, hq0⟩ := hrel
    have hw : Below w.heap.size w wr := by rw [hq0]; exact later_drewN _ _
    have HQ := Lib.hid hq0
    clear hq0
    by_cases hlt : 0 < i
    · obtain ⟨k, rfl⟩ : ∃ k : Nat, i = (k : Int) := ⟨i.toNat, by omega⟩
      obtain ⟨b, o, rfl, hb, hc⟩ := HX.out (by omega)
      obtain ⟨G, hG⟩ : ∃ G : Nat → Int, ∀ t, (ht : t < xs.length) → G t = xs[t] := ⟨fun t => xs.getD t 0, fun t ht => getD_at ht⟩
      have hcw : ∀ t, t < xs.length → wr.cell? ⟨b, o + t, none⟩ = some (.int .i64 (G t)) := fun t ht => by
        rw [hG t ht]; exact ((bcell hw).1 b (o + t) hb).trans (hc t ht)
      have hkl : k < xs.length := by omega
      obtain ⟨k', hk'⟩ : ∃ k', k - 1 = k' := ⟨_, rfl⟩
      have hwr : IntKind.i64.wrap ((k : Int) - 1) = (k' : Int) := by rw [wrap_i64 (by omega) (by omega)]; omega
      have hkl' : k' < xs.length := by omega
      have HW := Lib.hid hw
      have hlf : (G k < G (k - 1)) = False := eq_false (by
        have h1 := HR.out (k - 1) (by omega)
        rw [show k - 1 + 1 = k by omega, getD_at (show k - 1 < xs.length by omega), getD_at hkl] at h1
        rw [hG k (by omega), hG (k - 1) (by omega)]
        omega)
      rw [hk'] at hlf
      have c1 := hcw k hkl
      have c2 := hcw k' hkl'
      have HK := Lib.hid hk'
      clear hc hG hw hcw hk'
      go_wp2
      go_quiet (first | (go_at_call 53; refine Calls.quiet_of_same (lessR_any _ _ hlf _)))
      go_wp2
      go_roundw
      case rel => exact ⟨(k' : Int), by first | rfl | go_num, by omega, by omega, q0 + _, by rw [HQ.out]; exact drewN_add' _ _ _⟩
      case measure => have := HK.out; simp [intOf]; omega
    · go_wp2
      go_ret
      exact ⟨rfl, q0, HQ.out⟩
set_option maxRecDepth 100000 in
set_option maxHeartbeats 2000000 in
/-- hyper.Parts where the hypergraph may not be. -/
theorem PartsNo_any (m : Int) (ev : Value) (ls : List (List Int)) (w : World) (h : SlRK .i64 w ev ls) (hno : hypB m ls = false) :
    Calls Tryd.prog 23 #[hypV m ev] w fun e w' => e = .returned (.slice none 0 0) ∧ Below w.heap.size w w' := by
  have hb0 := later_alloc w (.cells #[.int .i64 m, ev] 24)
  have hC := hyperCheck_any m ev ls _ (h.later hb0)
  rw [hno] at hC
  simp only [Bool.false_eq_true, if_false] at hC
  have HC := Lib.hid hC
  have HB0 := Lib.hid hb0
  obtain ⟨ae, ce, rfl, -⟩ := h.open
  clear h hno hb0 hC
  go_enter Tryd.func23, Tryd.ntmps23
  go_wp2_with fail
  refine HC.out.mono ?_
  rintro e w1 ⟨rfl, b1⟩
  have HE := Lib.hid (later_trans HB0.out b1)
  clear b1
  go_wp2_with fail
  go_ret
  exact ⟨rfl, HE.out⟩
end Go.Proofs.YtplidcbfbonjlaaDoor
