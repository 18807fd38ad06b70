/-
  leap.Leap, walked.
-/
import Derived.Test.YtenhpfhadbafbaaLeCom
import Derived.Test.YtenhpfhadbafbaaLeBnd
import Derived.Test.YtenhpfhadbafbaaLib
import Derived.Test.YtenhpfhadbafbaaLeCopy
namespace Go.Proofs.Ytenhpfhadbafbaa
open Go.RowKit
set_option linter.unusedVariables false

theorem info_int : (Try.prog.info? 3).map (fun i => (i.zero, i.size, i.bytes)) = some (some (.int .i64 0), 1, 8) := by kernel_rfl
theorem info1_int : (Try.prog.info? 3).map (·.size) = some 1 := by kernel_rfl
/-- Places that may be. -/
def MayAt (ls : List (List Int)) (ps : List Int) : Prop := ps.length = ls.length ∧ ∀ r, r < ls.length → 0 ≤ ps.getD r 0 ∧ ps.getD r 0 ≤ ((rowN ls r).length : Int)
def natsOf (ps : List Int) : List Nat := ps.map Int.toNat
theorem natsOf_at (ps : List Int) (r : Nat) : atN (natsOf ps) r = (ps.getD r 0).toNat := by
  unfold atN natsOf
  by_cases h : r < ps.length
  · simp [List.getD, List.getElem?_eq_getElem h]
  · simp [List.getD, List.getElem?_eq_none (show ps.length ≤ r by omega)]
theorem natsOf_cells {ls : List (List Int)} {ps : List Int} (h : MayAt ls ps) : ps.map (Value.int .i64) = (natsOf ps).map (fun (n : Nat) => Value.int .i64 (n : Int)) := by
  unfold natsOf
  rw [List.map_map]
  refine List.map_congr_left fun x hx => ?_
  obtain ⟨i, hi, rfl⟩ := List.getElem_of_mem hx
  have := h.2 i (by rw [← h.1]; exact hi)
  rw [getD_at hi] at this
  simp only [Function.comp]
  congr 1
  omega
/-- What Leap comes to. -/
def LeapPost (ls : List (List Int)) (ps : List Int) (w : World) (e : Ending) (w' : World) : Prop :=
  Below w.heap.size w w' ∧ ((okB ls = false ∧ e = .returned (.tuple #[.slice none 0 0, .int .i64 0, .int .i64 330])) ∨
    (okB ls = true ∧ ¬ MayAt ls ps ∧ e = .returned (.tuple #[.slice none 0 0, .int .i64 0, .int .i64 2])) ∨
    (okB ls = true ∧ MayAt ls ps ∧ ∃ (ats : List Nat) (t n : Nat), n ≤ (2 + 2 * lg (1 + maxTo ls ls.length : Int)) * t ∧
      ((LeapZ ls (natsOf ps) ats t ∧ e = .returned (.tuple #[.slice none 0 0, .int .i64 n, .int .i64 4])) ∨
       (∃ key g c, LeapY ls (natsOf ps) ats key t ∧ e = .returned (.tuple #[.slice (some ⟨g, 0, none⟩) ls.length c, .int .i64 n, .int .i64 0]) ∧ w'.ownsRow w.heap.size 3 1 (.slice (some ⟨g, 0, none⟩) ls.length c) ls.length (ats.map (fun (n : Nat) => Value.int .i64 (n : Int)))))))
theorem rowsOk_of {ls : List (List Int)} (hk : okB ls = true) (hS : ∀ r, r < ls.length → (rowN ls r).length ≤ 1000) (hN : ∀ r, r < ls.length → ∀ n ∈ rowN ls r, 0 ≤ n) : RowsOk ls := ⟨(okB_iff.1 hk).1, (okB_iff.1 hk).2.1, (okB_iff.1 hk).2.2, hS, hN⟩

set_option maxRecDepth 100000 in
set_option maxHeartbeats 4000000 in
theorem Leap_any (v u : Value) (ls : List (List Int)) (ps : List Int) (w : World) (h : SlR w v ls) (hu : SlI .i64 w u ps) (hS : ∀ r, r < ls.length → (rowN ls r).length ≤ 1000) (hN : ∀ r, r < ls.length → ∀ n ∈ rowN ls r, 0 ≤ n) :
    Calls Try.prog 11 #[v, u] w (LeapPost ls ps w) := by
  obtain ⟨i0, hi, hz0, hz1, hz2⟩ := info_parts info_int
  obtain ⟨a, c, rfl, h1, h2, h3, h4⟩ := h.open
  obtain ⟨a', c', rfl, k1, k2, k3, k4⟩ := hu.open
  have H := Lib.hid h
  have HX := Lib.hid h4
  have HU := Lib.hid hu
  have HY := Lib.hid k4
  have HS := Lib.hid hS
  have HN := Lib.hid hN
  clear h h1 h2 h3 h4 hu k1 k3 k4 hS hN
  go_enter Try.func11, Try.ntmps11
  by_cases hok : okB ls = true
  · have hk := okB_iff.1 hok
    have hl1 := hk.1
    have hl2 := hk.2.1
    have HR := Lib.hid (rowsOk_of hok HS.out HN.out)
    clear hk
    by_cases hlen : ps.length = ls.length
    · go_wp2_with first
        | (refine (Check_any _ _ _ H.out).mono ?_; rintro e w1 ⟨rfl, n, rfl⟩; rw [if_pos hok])
        | fail
      go_loop [23] (fun k => ∃ i : Nat, i ≤ ps.length ∧ k = .int .i64 i ∧ ∀ r, r < i → 0 ≤ ps.getD r 0 ∧ ps.getD r 0 ≤ ((rowN ls r).length : Int)) (fun k => ps.length - (intOf k).toNat)
      case atStart => exact ⟨0, Nat.zero_le _, rfl, fun r h => by omega⟩
      case round =>
        obtain ⟨i, hi', rfl, hp⟩ := hrel
        by_cases hlt : i < ps.length
        · obtain ⟨b1, o1, rfl, hb1, hc1⟩ := HY.out (by omega)
          obtain ⟨b2, o2, rfl, hb2, hc2⟩ := HX.out (by omega)
          have c1 := hc1 i hlt
          obtain ⟨rv, c2, hrv⟩ := hc2 i (by omega)
          obtain ⟨a3, k3, rfl, s1, s2, s3, s4⟩ := hrv.open
          have hg := getD_at hlt
          obtain ⟨x, hx⟩ : ∃ x, ps[i] = x := ⟨_, rfl⟩
          rw [hx] at c1 hg
          have HP := Lib.hid (And.intro hp hg)
          have hll : (i : Int) < ls.length := by omega
          have hli : i < ls.length := by omega
          clear hc1 hc2 hrv s1 s3 s4 hp hg hx
          by_cases hx0 : x < 0
          · go_wp2
            go_ret3
            exact ⟨later_drewN w n, .inr (.inl ⟨hok, fun hM => by have := (hM.2 i hli).1; rw [HP.out.2] at this; omega, rfl⟩)⟩
          · by_cases hx1 : x > ((rowN ls i).length : Int)
            · go_wp2
              go_ret3
              exact ⟨later_drewN w n, .inr (.inl ⟨hok, fun hM => by have := (hM.2 i hli).2; rw [HP.out.2] at this; omega, rfl⟩)⟩
            · go_wp2
              go_round
              case rel => exact ⟨i + 1, by omega, by go_num, fun r h => by
                by_cases e : r = i
                · subst e; rw [HP.out.2]; omega
                · exact HP.out.1 r (by omega)⟩
              case measure => simp [intOf]; omega
        · have hM : MayAt ls ps := ⟨hlen, fun r hr => hp r (by omega)⟩
          have HM := Lib.hid hM
          have hpl : (ps.map (Value.int .i64)).length = ls.length := by simpa using hlen
          have hone := Lib.hid (ints_oneCell .i64 ps)
          have hb1 := Lib.hid (later_drewN w n)
          have hll : i = ls.length := by omega
          clear hp hM
          go_wp2_with first
            | (at_make; refine wpList_make_full _ rfl (.tmp 42) (.tmp 42) 27 rfl w.heap.size 3 i0 _ 1 Try.underlying27 hi hz0 hz1 .i64 .i64 _ _ ls.length rfl rfl (by omega) (by omega) (by rw [hz2]; omega) (by unfold maxLen; omega) (Nat.le_refl _) ?_; intro w3 hown3 hgrow3; have hb3 : Below w.heap.size w w3 := (hb1.out).grown hgrow3 (Nat.le_refl _) (fun k e => (by cases e)); obtain ⟨cur, hcur, hcz⟩ := owns_blockS hown3; have HC := Lib.hid (And.intro hb3 (And.intro hcur hcz)); have hs3 := hb3.size; have hgl : w.heap.size < w3.heap.size := lt_of_block hcur; clear hown3 hgrow3 hb3 hcur hcz)
            | ((with_reducible show wpList _ _ _ _ _ _); refine wpList_copy_whole rfl (.tmp 49) (.tmp 50) 27 27 rfl 3 1 w.heap.size ls.length ls.length _ (ps.map (.int .i64)) cur 3 Try.underlying27 info1_int rfl rfl (by rw [← hlen]; exact sls_ofI (HU.out.later (later_trans HC.out.1 (later_alloc _ _)))) (box_alloc HC.out.2.1 _) HC.out.2.2 hone.out ?_; intro w5 hw5 hg5; have HW := Lib.hid (And.intro hw5 hg5); clear hw5 hg5)
            | fail
          obtain ⟨X, hX⟩ : ∃ X, w3.heap.size = X := ⟨_, rfl⟩
          obtain ⟨g, hg⟩ : ∃ g, w.heap.size = g := ⟨_, rfl⟩
          have hL : Lp w w5 X g ls.length (.slice a ls.length c) ls (natsOf ps) 0 := by
            have hb4 := later_trans HC.out.1 (later_alloc w3 (.cells #[.slice a ls.length c, .slice (some ⟨w.heap.size, 0, none⟩) ls.length ls.length, .int .i64 0] 59))
            refine ⟨H.out, hb4.grown HW.out.2 (by simp; omega) (fun k e => by cases e; exact Nat.le_refl _), ?_, ?_, by omega⟩
            · subst hX; subst hg
              refine (HW.out.2.block _ (by simp) (fun e => ?_)).trans (box_new w3 _ _)
              first | exact absurd (Option.some.inj e) (Nat.ne_of_gt hgl) | exact absurd (Option.some.inj e) (Nat.ne_of_lt hgl)
            · rw [← natsOf_cells HM.out]
              subst hg
              exact owns_copied HW.out.1 (Nat.le_refl _) (by unfold maxLen; omega) (by omega)
          have HL := Lib.hid hL
          rw [hX]
          have hmx := maxTo_le HS.out (by omega) ls.length (Nat.le_refl _)
          have HG := Lib.hid hg
          clear hL hX hg HW HC hs3 hgl
          refine (common_any HL.out HR.out (m := maxTo ls ls.length) (fun r hr => maxTo_ge ls _ r hr) hmx (fun r hr => ?_) (by omega) (by omega)).mono ?_
          · rw [natsOf_at]
            have := HM.out.2 r hr
            omega
          rintro e w6 ⟨ats, t, n1, q, rfl, hn, hL6, hW6, hyes, hno⟩
          have HQ := Lib.hid (And.intro hn (And.intro hL6 (And.intro hyes hno)))
          obtain ⟨x0, x1, x2, fx⟩ := hL6.cells
          clear hn hL6 hW6 hyes hno
          simp only [Int.zero_add] at x2
          cases q with
          | true =>
            go_wp2
            go_quiet (fail)
            go_wp2
            go_ret3
            obtain ⟨key, hY⟩ := HQ.out.2.2.1 (by first | rfl | trivial)
            have hL6 := fun k => HQ.out.2.1.later (later_drewN w6 k)
            exact ⟨(hL6 _).bel, .inr (.inr ⟨hok, HM.out, ats, t, n1, HQ.out.1, .inr ⟨key, g, ls.length, hY, rfl, (hL6 _).own⟩⟩)⟩
          | false =>
            go_wp2
            go_quiet (fail)
            go_wp2
            go_ret3
            have hL6 := fun k => HQ.out.2.1.later (later_drewN w6 k)
            exact ⟨(hL6 _).bel, .inr (.inr ⟨hok, HM.out, ats, t, n1, HQ.out.1, .inl ⟨HQ.out.2.2.2 (by first | rfl | trivial), rfl⟩⟩)⟩
    · go_wp2_with first
        | (refine (Check_any _ _ _ H.out).mono ?_; rintro e w1 ⟨rfl, n, rfl⟩; rw [if_pos hok])
        | fail
      go_ret3
      exact ⟨later_drewN w n, .inr (.inl ⟨hok, fun hM => hlen hM.1, rfl⟩)⟩
  · go_wp2_with first
      | (refine (Check_any _ _ _ H.out).mono ?_; rintro e w1 ⟨rfl, n, rfl⟩; rw [if_neg hok])
      | fail
    go_ret3
    exact ⟨later_drewN w n, .inl ⟨Bool.eq_false_iff.2 hok, rfl⟩⟩
end Go.Proofs.Ytenhpfhadbafbaa
