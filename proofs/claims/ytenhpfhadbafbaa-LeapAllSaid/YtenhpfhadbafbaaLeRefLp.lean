/-
  The document's Leap, walked; slices.Reverse and slices.IsSorted.
-/
import Derived.Test.YtenhpfhadbafbaaLeMine
import Derived.Test.YtenhpfhadbafbaaLeLib
namespace Go.Proofs.Ytenhpfhadbafbaa
open Go.RowKit
set_option linter.unusedVariables false

/-- The place of a number in a row that rises. -/
def posN (ls : List (List Int)) (n : Int) (r : Nat) : Nat := (rowN ls r).idxOf n
theorem pos_of {ls : List (List Int)} {n : Int} {r p : Nat} (h : risesB (rowN ls r) = true) (hp : p < (rowN ls r).length) (e : (rowN ls r).getD p 0 = n) : posN ls n r = p := by
  rw [getD_at hp] at e
  unfold posN
  have hm : n ∈ rowN ls r := by rw [← e]; exact List.getElem_mem hp
  have hlt := List.idxOf_lt_length_iff.2 hm
  have h2 : (rowN ls r)[(rowN ls r).idxOf n] = n := List.getElem_idxOf hlt
  by_cases h3 : (rowN ls r).idxOf n < p
  · have := rises_lt h h3 hp; omega
  · by_cases h4 : p < (rowN ls r).idxOf n
    · have := rises_lt h h4 hlt; omega
    · omega
/-- Does a number stand in a row, from a place on? -/
def onN (ls : List (List Int)) (a : List Nat) (n : Int) (r : Nat) : Bool := decide (n ∈ (rowN ls r).drop (atN a r))
/-- The places that are told of the first rows. -/
def toldTo (ls : List (List Int)) (a : List Nat) (n : Int) (j : Nat) : List Nat := ((List.range j).filter (fun r => onN ls a n r)).map (fun r => posN ls n r)
theorem toldTo_yes {ls : List (List Int)} {a : List Nat} {n : Int} {j : Nat} (h : onN ls a n j = true) : toldTo ls a n (j + 1) = toldTo ls a n j ++ [posN ls n j] := by
  unfold toldTo
  rw [List.range_succ, List.filter_append, List.filter_cons, if_pos h, List.filter_nil, List.map_append]
  rfl
theorem toldTo_no {ls : List (List Int)} {a : List Nat} {n : Int} {j : Nat} (h : onN ls a n j = false) : toldTo ls a n (j + 1) = toldTo ls a n j := by
  unfold toldTo
  rw [List.range_succ, List.filter_append, List.filter_cons, if_neg (by rw [h]; decide), List.filter_nil, List.append_nil]
theorem toldTo_len (ls : List (List Int)) (a : List Nat) (n : Int) (j : Nat) : (toldTo ls a n j).length ≤ j := by
  unfold toldTo
  rw [List.length_map]
  exact Nat.le_trans (List.length_filter_le _ _) (by simp)
theorem toldTo_all {ls : List (List Int)} {a : List Nat} {n : Int} {j : Nat} : (toldTo ls a n j).length = j ↔ ∀ r, r < j → n ∈ (rowN ls r).drop (atN a r) := by
  unfold toldTo
  rw [List.length_map]
  have := List.length_filter_eq_length_iff (p := fun r => onN ls a n r) (l := List.range j)
  rw [List.length_range] at this
  rw [this]
  simp [onN]
theorem toldTo_full {ls : List (List Int)} {a : List Nat} {n : Int} {j : Nat} (h : ∀ r, r < j → n ∈ (rowN ls r).drop (atN a r)) : toldTo ls a n j = (List.range j).map (fun r => posN ls n r) := by
  unfold toldTo
  rw [(List.filter_eq_self (p := fun r => onN ls a n r)).2 (fun r hr => decide_eq_true (h r (List.mem_range.1 hr)))]
/-- The place that is told, and where the row is begun. -/
theorem place_on {ls : List (List Int)} {a : List Nat} {n : Int} {r : Nat} {k at_ : Int} (h : risesB (rowN ls r) = true) (hn : n ∈ rowN ls r) (hk : PlaceR (rowN ls r) n k) (ha : at_ = (atN a r : Int)) : k = (posN ls n r : Int) ∧ decide (at_ ≤ k) = onN ls a n r := by
  rcases hk with ⟨p, h1, rfl, h3⟩ | ⟨_, h0⟩
  · have hp := pos_of h h1 h3
    refine ⟨by rw [hp], ?_⟩
    unfold onN
    rw [Bool.eq_iff_iff, decide_eq_true_eq, decide_eq_true_eq, mem_drop_at]
    constructor
    · intro e
      exact ⟨p, by omega, h1, h3⟩
    · rintro ⟨p', e1, e2, e3⟩
      have := pos_of h e2 e3
      omega
  · exact absurd hn h0
/-- What the least key is told of. -/
theorem leapY_told {ls : List (List Int)} {a ats : List Nat} {key : Int} {t : Nat} (h : LeapY ls a ats key t) (hR : ∀ r, r < ls.length → risesB (rowN ls r) = true) : (List.range ls.length).map (fun r => posN ls key r) = ats := by
  refine List.ext_getElem (by simp [h.n]) fun r h1 h2 => ?_
  have hr : r < ls.length := by simpa using h1
  have := h.at_ r hr
  simp only [List.getElem_map, List.getElem_range]
  rw [pos_of (hR r hr) this.1 this.2]
  simp [atN, List.getD, List.getElem?_eq_getElem h2]
theorem leapY_on {ls : List (List Int)} {a ats : List Nat} {key : Int} {t : Nat} (h : LeapY ls a ats key t) : ∀ r, r < ls.length → key ∈ (rowN ls r).drop (atN a r) := fun r hr => by
  have := h.at_ r hr
  exact mem_drop_at.2 ⟨atN ats r, h.ge r hr, this.1, this.2⟩

/-- What the document's Leap comes to. -/
def RefLeapPost (ls : List (List Int)) (ps : List Int) (w : World) (e : Ending) (w' : World) : Prop :=
  Below w.heap.size w w' ∧ (((∀ n, ¬ ∀ r, r < ls.length → n ∈ (rowN ls r).drop (atN (natsOf ps) r)) ∧ e = .returned (.slice none 0 0)) ∨
    (∃ key g c, (∀ r, r < ls.length → key ∈ (rowN ls r).drop (atN (natsOf ps) r)) ∧ (∀ n, (∀ r, r < ls.length → n ∈ (rowN ls r).drop (atN (natsOf ps) r)) → key ≤ n) ∧ e = .returned (.slice (some ⟨g, 0, none⟩) ls.length c) ∧ w'.ownsRow w.heap.size 3 1 (.slice (some ⟨g, 0, none⟩) ls.length c) ls.length (((List.range ls.length).map (fun r => posN ls key r)).map (fun (n : Nat) => Value.int .i64 (n : Int)))))

set_option maxRecDepth 100000 in
set_option maxHeartbeats 4000000 in
theorem refLeap_any (v u : Value) (ls : List (List Int)) (ps : List Int) (w : World) (h : SlR w v ls) (hu : SlI .i64 w u ps) (hR : RowsOk ls) (hM : MayAt ls ps) :
    Calls Try.prog 12 #[v, u] w (RefLeapPost ls ps w) := by
  obtain ⟨i0, hi, hz0, hz1, hz2⟩ := info_parts info_int
  obtain ⟨a, c, rfl, h1, h2, h3, h4⟩ := h.open
  obtain ⟨a', c', rfl, k1, k2, k3, k4⟩ := hu.open
  have hs0 := hR.short 0 hR.some
  have hsome := hR.some
  have hfew := hR.few
  obtain ⟨bb, o, rfl, hbw, hcs⟩ := h4 (by omega)
  obtain ⟨ba, oa, rfl, hbaw, hca⟩ := k4 (by rw [hM.1]; omega)
  have hpl := hM.1
  rw [hpl]
  have HU := Lib.hid hca
  have HC := Lib.hid hcs
  have HRM := Lib.hid (And.intro hR hM)
  have hCA := Lib.hid (refCommon_any _ ls w h hR.some (by omega))
  have hcl : (commonAll ls).length ≤ 1000 := Nat.le_trans (List.length_filter_le _ _) hs0
  clear h h1 h2 h3 h4 k1 k2 k3 k4 hcs hca hu hR hM
  go_enter Try.func12, Try.ntmps12
  go_wp2_with (refine hCA.out.mono ?_; rintro e w1 ⟨v1, rfl, ho1, hb1⟩; obtain ⟨av1, cv1, rfl⟩ := owns_shape2 ho1; have HO1 := Lib.hid (And.intro ho1 hb1); have hs1 := hb1.size; clear ho1 hb1)
  have hsl := SlC.of_owns HO1.out.1
  obtain ⟨a9, c9, e9, l1, l2, l3, l4⟩ := hsl
  rw [List.length_map] at e9
  cases e9
  have HL := Lib.hid l4
  clear l1 l2 l3 l4
  go_loopw [14] (fun k wr => ∃ i : Nat, i ≤ (commonAll ls).length ∧ k = .int .i64 i ∧ (∀ n ∈ (commonAll ls).take i, ¬ ∀ r, r < ls.length → n ∈ (rowN ls r).drop (atN (natsOf ps) r)) ∧ Below w1.heap.size w1 wr) (fun k _ => (commonAll ls).length - (intOf k).toNat)
  case atStart => exact ⟨0, Nat.zero_le _, rfl, fun n h => by simp at h, later_refl w1⟩
  case round =>
    obtain ⟨i, hi', rfl, hno, hb⟩ := hrel
    by_cases hlt : i < (commonAll ls).length
    · obtain ⟨b3, o3, rfl, hb3w, hc3⟩ := HL.out (by rw [Ne, List.map_eq_nil_iff]; intro e; rw [e] at hlt; simp at hlt)
      obtain ⟨n, hn⟩ : ∃ n, (commonAll ls)[i] = n := ⟨_, rfl⟩
      have hx := hc3 i (.int .u64 n) (by rw [List.getElem?_map, List.getElem?_eq_getElem hlt, hn]; rfl)
      have hx := ((bcell hb).1 b3 (o3 + i) hb3w).trans hx
      have hst : (commonAll ls).take (i + 1) = (commonAll ls).take i ++ [n] := by rw [List.take_succ_eq_append_getElem hlt, hn]
      have hin : ∀ r, r < ls.length → n ∈ rowN ls r := (commonAll_mem hsome).1 (by rw [← hn]; exact List.getElem_mem hlt)
      have HI := Lib.hid (And.intro hno (And.intro hb (And.intro hst hin)))
      have hlI : (i : Int) < (commonAll ls).length := by omega
      clear hno hb hst hin hn hc3
      go_wp2_with fail
      go_loopw [7, 20] (fun out k wr' => ∃ j : Nat, j ≤ ls.length ∧ k = .int .i64 j ∧ wr'.ownsRow w1.heap.size 3 1 out (toldTo ls (natsOf ps) n j).length ((toldTo ls (natsOf ps) n j).map (fun (n : Nat) => Value.int .i64 (n : Int))) ∧ Below w1.heap.size w1 wr') (fun _ k _ => ls.length - (intOf k).toNat)
      case atStart => exact ⟨0, Nat.zero_le _, rfl, by simpa [toldTo] using World.ownsRow_nil wr w1.heap.size 3 1, HI.out.2.1⟩
      case round =>
        obtain ⟨j, hj, rfl, hown, hb'⟩ := hrel
        obtain ⟨ao, co, rfl⟩ := owns_shape2 hown
        have htl := toldTo_len ls (natsOf ps) n j
        obtain ⟨q, hq⟩ : ∃ q, (toldTo ls (natsOf ps) n j).length = q := ⟨_, rfl⟩
        rw [hq] at htl
        have HQ := Lib.hid hq
        have HO := Lib.hid (And.intro hown hb')
        have hsz' := hb'.size
        rw [hq]
        by_cases hjl : j < ls.length
        · obtain ⟨rv, c2, hrv⟩ := HC.out j hjl
          have hw1 := later_trans HO1.out.2 hb'
          have c2 := ((bcell hw1).1 bb (o + j) hbw).trans c2
          have hrv := hrv.later hw1
          have hjp : j < ps.length := by omega
          have c5 := ((bcell hw1).1 ba (oa + j) hbaw).trans (HU.out j hjp)
          obtain ⟨at_, hat⟩ : ∃ at_, ps[j] = at_ := ⟨_, rfl⟩
          have hat2 : at_ = (atN (natsOf ps) j : Int) := by
            have := HRM.out.2.2 j hjl
            rw [getD_at hjp, hat] at this
            rw [natsOf_at, getD_at hjp, hat]
            omega
          rw [hat] at c5
          have HP := Lib.hid (place_any rv _ n wr hrv)
          have HA := Lib.hid (And.intro hat2 hrv)
          clear hq hown hb' hw1 hrv hat hat2
          obtain ⟨y, hy⟩ : ∃ y, onN ls (natsOf ps) n j = y := ⟨_, rfl⟩
          have hown := HO.out.1
          rw [HQ.out] at hown
          cases y with
          | true =>
            have HY := Lib.hid hy
            clear hy
            go_wp2_with first
              | (refine HP.out.mono ?_; rintro e w5 ⟨r5, rfl, hr5, rfl⟩; obtain ⟨e5, d5⟩ := place_on (HRM.out.1.rise j hjl) (HI.out.2.2.2 j hjl) hr5 HA.out.1; rw [HY.out] at d5; replace d5 := of_decide_eq_true d5; have HE := Lib.hid e5; clear hr5 e5)
              | (at_builtin; refine wpList_append_own _ rfl (.tmp 34) (.tmp 36) 27 rfl w1.heap.size 3 i0 _ 1 8 Try.underlying27 hi hz0 hz1 hz2 rfl (by decide) _ _ _ rfl (hown.alloc _) ⟨wr.heap.size, 0, none⟩ 1 1 [.int .i64 r5] rfl rfl (cells_new _ _ _) (by simp [Value.oneCell']) (by unfold maxLen; omega) (by omega) (by simp; omega) ?_; intro v6 w6 hown6 hgrow6 _; obtain ⟨g6, cap6, rfl⟩ := ownsRow_succ hown6)
              | fail
            go_roundw
            case rel =>
              refine ⟨j + 1, by omega, by go_num, ?_, (later_trans HO.out.2 (later_alloc _ _)).grown hgrow6 (by simp; omega) (owns_above hown)⟩
              rw [toldTo_yes HY.out, List.length_append, HQ.out, List.map_append]
              rw [HE.out] at hown6
              simpa using hown6
            case measure => simp [intOf]; omega
          | false =>
            have HY := Lib.hid hy
            clear hy
            go_wp2_with first
              | (refine HP.out.mono ?_; rintro e w5 ⟨r5, rfl, hr5, rfl⟩; obtain ⟨e5, d5⟩ := place_on (HRM.out.1.rise j hjl) (HI.out.2.2.2 j hjl) hr5 HA.out.1; rw [HY.out] at d5; replace d5 := of_decide_eq_false d5; have HE := Lib.hid e5; clear hr5 e5)
              | fail
            go_roundw
            case rel =>
              refine ⟨j + 1, by omega, by go_num, ?_, HO.out.2⟩
              rw [toldTo_no HY.out, HQ.out]
              exact hown
            case measure => simp [intOf]; omega
        · obtain rfl : j = ls.length := by omega
          by_cases hall : q = ls.length
          · have h01 : ((q : Int) == ls.length) = true := by rw [beq_iff_eq]; omega
            have h02 := toldTo_all.1 (HQ.out.trans hall)
            have HF := Lib.hid (And.intro h02 (toldTo_full h02))
            have HN := Lib.hid hall
            have hown := HO.out.1
            rw [HQ.out, HF.out.2, hall] at hown
            obtain ⟨kl, hkl⟩ : ∃ kl, ls.length = kl + 1 := ⟨ls.length - 1, by omega⟩
            obtain ⟨g9, c9', e9⟩ : ∃ g c', ao = some ⟨g, 0, none⟩ ∧ co = c' := by
              rw [hkl] at hown
              obtain ⟨g, c', e⟩ := ownsRow_succ hown
              cases e
              exact ⟨g, _, rfl, rfl⟩
            obtain ⟨rfl, rfl⟩ := e9
            rw [hall]
            have HW := Lib.hid hown
            clear h02 hown hkl hq hb' hall HQ h01
            go_wp2_with fail
            go_ret
            refine ⟨later_trans HO1.out.2 HO.out.2, .inr ⟨n, g9, co, HF.out.1, fun n' hn' => ?_, rfl, owns_down HW.out HO1.out.2.size⟩⟩
            have hmem : n' ∈ commonAll ls := (commonAll_mem hsome).2 fun r hr => List.mem_of_mem_drop (hn' r hr)
            have hnt : n' ∉ (commonAll ls).take i := fun e => HI.out.1 n' e hn'
            obtain ⟨p, hp, rfl⟩ := List.getElem_of_mem hmem
            have hip : i ≤ p := by
              by_cases e : i ≤ p
              · exact e
              · refine absurd ?_ hnt
                rw [List.mem_iff_getElem]
                exact ⟨p, by rw [List.length_take]; omega, by rw [List.getElem_take]⟩
            have hrise : risesB (commonAll ls) = true := decide_eq_true (commonAll_pw (HRM.out.1.rise 0 hsome))
            have h9 := rises_le hrise hip hp
            have h8 := HI.out.2.2.1
            rw [List.take_succ_eq_append_getElem hlt] at h8
            have h7 := List.append_cancel_left h8
            rw [List.cons.injEq] at h7
            rw [← h7.1]
            exact h9
          · have h01 : ((q : Int) == ls.length) = false := by rw [beq_eq_false_iff_ne]; omega
            have h02 : ¬ ∀ r, r < ls.length → n ∈ (rowN ls r).drop (atN (natsOf ps) r) := fun e => hall (HQ.out.symm.trans (toldTo_all.2 e))
            clear hq hown hb'
            go_wp2_with fail
            go_roundw
            case rel => exact ⟨i + 1, by omega, by go_num, fun n' hn' => by
              rw [HI.out.2.2.1] at hn'
              rcases List.mem_append.1 hn' with hn' | hn'
              · exact HI.out.1 n' hn'
              · rw [List.mem_singleton.1 hn']; exact h02, HO.out.2⟩
            case measure => simp [intOf]; omega
    · obtain rfl : i = (commonAll ls).length := by omega
      go_wp2_with fail
      go_ret
      refine ⟨later_trans HO1.out.2 hb, .inl ⟨fun n hn => ?_, rfl⟩⟩
      refine hno n ?_ hn
      rw [List.take_of_length_le (Nat.le_refl _)]
      exact (commonAll_mem hsome).2 fun r hr => List.mem_of_mem_drop (hn r hr)
end Go.Proofs.Ytenhpfhadbafbaa
