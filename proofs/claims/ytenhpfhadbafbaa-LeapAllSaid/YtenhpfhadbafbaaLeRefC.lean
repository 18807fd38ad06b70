/-
  The document's Common, Leap, Bound, Some (colanderref23), walked.
-/
import Derived.Test.YtenhpfhadbafbaaLeRef
import Derived.Test.YtenhpfhadbafbaaLib
namespace Go.Proofs.Ytenhpfhadbafbaa
open Go.RowKit
set_option linter.unusedVariables false

/-- Is a number in the first rows? -/
def inTo (ls : List (List Int)) (n : Int) (j : Nat) : Bool := decide (∀ r, r < j → n ∈ rowN ls r)
theorem inTo_zero (ls : List (List Int)) (n : Int) : inTo ls n 0 = true := decide_eq_true (fun r h => by omega)
theorem inTo_step {ls : List (List Int)} {n : Int} {j : Nat} {b : Bool} (h : inTo ls n j = b) : inTo ls n (j + 1) = (b && decide (n ∈ rowN ls j)) := by
  subst h
  unfold inTo
  rw [Bool.eq_iff_iff]
  simp only [Bool.and_eq_true, decide_eq_true_eq]
  constructor
  · intro h; exact ⟨fun r hr => h r (by omega), h j (by omega)⟩
  · rintro ⟨h1, h2⟩ r hr
    by_cases e : r = j
    · subst e; exact h2
    · exact h1 r (by omega)
/-- All that all rows have. -/
def commonAll (ls : List (List Int)) : List Int := (rowN ls 0).filter (fun n => inTo ls n ls.length)
theorem placeR_mem {xs : List Int} {key r : Int} (h : PlaceR xs key r) : decide (0 ≤ r) = decide (key ∈ xs) := by
  rcases h with ⟨p, h1, rfl, h3⟩ | ⟨rfl, h⟩
  · rw [decide_eq_true (by omega), decide_eq_true]
    rw [← h3, getD_at h1]
    exact List.getElem_mem h1
  · rw [decide_eq_false (by omega), decide_eq_false h]

set_option maxRecDepth 100000 in
set_option maxHeartbeats 2000000 in
theorem refCommon_any (v : Value) (ls : List (List Int)) (w : World) (h : SlR w v ls) (h0 : 0 < ls.length) (hl : (rowN ls 0).length ≤ 1099511627776) :
    Calls Try.prog 24 #[v] w fun e w' => ∃ v', e = .returned v' ∧ w'.ownsRow w.heap.size 40 1 v' (commonAll ls).length ((commonAll ls).map (.int .u64)) ∧ Below w.heap.size w w' := by
  obtain ⟨i0, hi, hz0, hz1, hz2⟩ := info_parts info_u64
  obtain ⟨a, c, rfl, h1, h2, h3, h4⟩ := h.open
  obtain ⟨bb, o, rfl, hbw, hcs⟩ := h4 h0
  obtain ⟨rv, c1, hrv⟩ := hcs 0 h0
  obtain ⟨a1, k1, rfl, s1, s2, s3, s4⟩ := hrv.open
  rw [Nat.add_zero] at c1
  have HC := Lib.hid hcs
  have HX := Lib.hid s4
  have hm : ls.length ≤ 9223372036854775807 := by omega
  have h0I : (0 : Int) < ls.length := by omega
  have hm1 : (rowN ls 0).length ≤ 9223372036854775807 := by omega
  clear h h1 h2 h3 h4 hcs s1 s2 s3 s4 hrv
  go_enter Try.func24, Try.ntmps24
  go_wp2_with fail
  go_loopw [3, 13] (fun out k wr => ∃ i : Nat, i ≤ (rowN ls 0).length ∧ k = .int .i64 i ∧ wr.ownsRow w.heap.size 40 1 out (((rowN ls 0).take i).filter (fun n => inTo ls n ls.length)).length ((((rowN ls 0).take i).filter (fun n => inTo ls n ls.length)).map (.int .u64)) ∧ Below w.heap.size w wr) (fun _ k _ => (rowN ls 0).length - (intOf k).toNat)
  case atStart => exact ⟨0, Nat.zero_le _, rfl, World.ownsRow_nil _ _ _ _, later_refl w⟩
  case round =>
    obtain ⟨i, hi', rfl, hown, hb⟩ := hrel
    obtain ⟨ao, co, rfl⟩ := owns_shape2 hown
    by_cases hlt : i < (rowN ls 0).length
    · obtain ⟨b1, o1, rfl, hb1w, hc1⟩ := HX.out (by omega)
      have hx := hc1 i hlt
      have hx := ((bcell hb).1 b1 (o1 + i) hb1w).trans hx
      have hst : (rowN ls 0).take (i + 1) = (rowN ls 0).take i ++ [(rowN ls 0)[i]] := List.take_succ_eq_append_getElem hlt
      obtain ⟨n, hn⟩ : ∃ n, (rowN ls 0)[i] = n := ⟨_, rfl⟩
      rw [hn] at hx hst
      have HST := Lib.hid hst
      have HO := Lib.hid hown
      have HB := Lib.hid hb
      have hml : (((rowN ls 0).take i).filter (fun n => inTo ls n ls.length)).length ≤ 1099511627776 := Nat.le_trans (List.length_filter_le _ _) (by rw [List.length_take]; omega)
      clear hst hn hown hb hc1
      go_wp2_with fail
      go_loop [6, 19] (fun all k => ∃ j : Nat, j ≤ ls.length ∧ k = .int .i64 j ∧ all = .bool (inTo ls n j)) (fun _ k => ls.length - (intOf k).toNat)
      case atStart => exact ⟨0, Nat.zero_le _, rfl, by rw [inTo_zero]⟩
      case round =>
        obtain ⟨j, hj, rfl, rfl⟩ := hrel
        by_cases hjl : j < ls.length
        · obtain ⟨rv, c2, hrv⟩ := HC.out j hjl
          have c2 := ((bcell HB.out).1 bb (o + j) hbw).trans c2
          obtain ⟨q, hq⟩ : ∃ q, inTo ls n j = q := ⟨_, rfl⟩
          have HS := Lib.hid (hrv.later HB.out)
          have HQ := Lib.hid (inTo_step hq)
          rw [hq]
          clear hrv hq
          cases q with
          | true =>
            go_wp2_with first
              | (refine (place_any _ _ _ _ HS.out).mono ?_
                 rintro e w2 ⟨r, rfl, hr, rfl⟩
                 have HR := Lib.hid (placeR_mem hr)
                 clear hr)
              | fail
            exact ⟨⟨j + 1, by omega, by go_num, by rw [HQ.out, HR.out]; rfl⟩, by simp [intOf]; omega⟩
          | false =>
            go_wp2
            exact ⟨⟨j + 1, by omega, by go_num, by rw [HQ.out]; rfl⟩, by simp [intOf]; omega⟩
        · obtain rfl : j = ls.length := by omega
          obtain ⟨q, hq⟩ : ∃ q, inTo ls n ls.length = q := ⟨_, rfl⟩
          rw [hq]
          have hown := HO.out
          have hb := HB.out
          have hsz := hb.size
          cases q with
          | true =>
            have HF : Hid (((rowN ls 0).take (i + 1)).filter (fun n => inTo ls n ls.length) = ((rowN ls 0).take i).filter (fun n => inTo ls n ls.length) ++ [n]) := Lib.hid (by rw [HST.out, List.filter_append, List.filter_cons, if_pos hq, List.filter_nil])
            clear hq
            go_wp2_with (at_builtin; refine wpList_append_own _ rfl (.tmp 32) (.tmp 34) 32 rfl w.heap.size 40 i0 _ 1 8 Try.underlying32 hi hz0 hz1 hz2 rfl (by decide) _ _ _ rfl (hown.alloc _) ⟨wr.heap.size, 0, none⟩ 1 1 [.int .u64 n] rfl rfl (cells_new _ _ _) (by simp [Value.oneCell']) (by unfold maxLen; omega) (by omega) (by simp; omega) ?_; intro v6 w6 hown6 hgrow6 _; obtain ⟨g6, cap6, rfl⟩ := ownsRow_succ hown6)
            go_roundw
            case rel =>
              refine ⟨i + 1, by omega, by go_num, ?_, (later_trans hb (later_alloc _ _)).grown hgrow6 (by simp; omega) (owns_above hown)⟩
              rw [HF.out]
              simpa using hown6
            case measure => simp [intOf]; omega
          | false =>
            have HF : Hid (((rowN ls 0).take (i + 1)).filter (fun n => inTo ls n ls.length) = ((rowN ls 0).take i).filter (fun n => inTo ls n ls.length)) := Lib.hid (by rw [HST.out, List.filter_append, List.filter_cons, if_neg (by simp [hq]), List.filter_nil, List.append_nil])
            clear hq
            go_wp2
            go_roundw
            case rel =>
              refine ⟨i + 1, by omega, by go_num, ?_, hb⟩
              rw [HF.out]
              exact hown
            case measure => simp [intOf]; omega
    · obtain rfl : i = (rowN ls 0).length := by omega
      have e : (rowN ls 0).take (rowN ls 0).length = rowN ls 0 := List.take_of_length_le (Nat.le_refl _)
      rw [e] at hown ⊢
      go_wp2_with fail
      go_ret
      exact ⟨_, rfl, hown, hb⟩
end Go.Proofs.Ytenhpfhadbafbaa
