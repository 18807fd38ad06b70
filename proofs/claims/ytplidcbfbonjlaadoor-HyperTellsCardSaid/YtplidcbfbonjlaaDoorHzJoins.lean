/-
  hyper.rooted and Joins, walked.
-/
import Derived.Deep.DeepCutAuto
import Derived.Test.YtplidcbfbonjlaaDoorHzJ
import Derived.Test.YtplidcbfbonjlaaDoorHzParts
namespace Go.Proofs.YtplidcbfbonjlaaDoor
open Go.RowKit Go.Lib Go.Shelf
set_option linter.unusedVariables false
set_option linter.unusedSimpArgs false

/-- The answer says whether something holds. -/
def Tells (e : Ending) (X : Prop) : Prop := ∃ b : Bool, e = .returned (.bool b) ∧ (b = true ↔ X)
theorem Tells.yes {X : Prop} (h : X) : Tells (.returned (.bool true)) X := ⟨true, rfl, fun _ => h, fun _ => rfl⟩
theorem Tells.no {X : Prop} (h : ¬ X) : Tells (.returned (.bool false)) X := ⟨false, rfl, fun e => (by cases e), fun k => absurd k h⟩
theorem Tells.of {X : Prop} {b : Bool} (h : b = true ↔ X) : Tells (.returned (.bool b)) X := ⟨b, rfl, h⟩
/-- Behind k steps from i one stands at a. -/
def Stands (P : List Int) (i : Int) (k : Nat) (a : Int) : Prop := ∀ n, UpTo P n i ↔ k ≤ n ∧ UpTo P (n - k) a
theorem Stands.start (P : List Int) (i : Int) : Stands P i 0 i := fun n => by simp
theorem Stands.next {P : List Int} {i a : Int} {k : Nat} (h : Stands P i k a) (h0 : 0 ≤ a) (hl : a < P.length) : Stands P i (k + 1) (P.getD a.toNat 0) := fun n => by
  rw [h n]
  constructor
  · rintro ⟨h1, h2⟩
    obtain ⟨d, hd⟩ : ∃ d, n - k = d := ⟨_, rfl⟩
    rw [hd] at h2
    cases d with
    | zero => have h2' : a = -1 := h2; omega
    | succ d => exact ⟨by omega, by rw [show n - (k + 1) = d by omega]; exact h2.2.2⟩
  · rintro ⟨h1, h2⟩
    refine ⟨by omega, ?_⟩
    rw [show n - k = n - (k + 1) + 1 by omega]
    exact ⟨h0, hl, h2⟩
theorem Stands.none {P : List Int} {i a : Int} {k : Nat} (h : Stands P i k a) (hk : ∀ n, ¬ UpTo P n a) : ¬ ∃ n, UpTo P n i := fun ⟨n, hn⟩ => hk _ ((h n).1 hn).2
theorem Stands.far {P : List Int} {i a : Int} {k : Nat} (h : Stands P i k a) (hk : P.length < k) : ¬ ∃ n, UpTo P n i := fun ⟨n, hn⟩ => by
  have := ((h n).1 hn).1
  have := hn.bound
  omega
theorem Stands.top {P : List Int} {i : Int} {k : Nat} (h : Stands P i k (-1)) : ∃ n, UpTo P n i := ⟨k, (h k).2 ⟨Nat.le_refl _, by rw [Nat.sub_self]; rfl⟩⟩
theorem upTo_far {P : List Int} {a : Int} (h : (P.length : Int) ≤ a) : ∀ n, ¬ UpTo P n a
  | 0, q => by have q' : a = -1 := q; omega
  | n + 1, q => by have := q.2.1; omega
theorem upTo_low {P : List Int} {a : Int} (h : a < -1) : ∀ n, ¬ UpTo P n a
  | 0, q => by have q' : a = -1 := q; omega
  | n + 1, q => by have := q.1; omega
set_option maxRecDepth 100000 in
set_option maxHeartbeats 4000000 in
theorem rooted_any (v : Value) (P : List Int) (w : World) (h : SlI .i64 w v P) (hl : P.length ≤ 1048576) :
    Calls Tryd.prog 36 #[v] w fun e w' => Tells e (Rooted P) ∧ w' = w := by
  obtain ⟨a, c, rfl, -⟩ := h.open
  have H := Lib.hid h
  clear h
  obtain ⟨n, hn⟩ : ∃ n, P.length = n := ⟨_, rfl⟩
  have HN := Lib.hid hn
  rw [hn] at H hl ⊢
  clear hn
  go_enter Tryd.func36, Tryd.ntmps36
  go_wp2_with fail
  go_step3
  go_wp2_with fail
  go_step3
  go_wp2_with fail
  go_loop [3, 9] (fun c i => ∃ k : Nat, k ≤ n ∧ i = .int .i64 k ∧ c = .bool true ∧ ∀ j : Nat, j < k → ∃ m, UpTo P m (j : Int)) (fun _ i => n - (intOf i).toNat)
  case atStart => exact ⟨0, Nat.zero_le _, rfl, rfl, fun j hj => by omega⟩
  case round =>
    obtain ⟨k, hk, rfl, rfl, hd⟩ := hrel
    have HD := Lib.hid hd
    clear hd
    by_cases hkn : k < n
    · have hkI : (k : Int) < n := by omega
      go_wp2_with fail
      go_loop [3, 5, 6] (fun c a s => ∃ (q : Nat) (x : Int), c = .bool true ∧ s = .int .i64 q ∧ a = .int .i64 x ∧ q ≤ n + 1 ∧ (Lit.int .i64 x).wf = true ∧ Stands P k q x) (fun _ _ s => n + 2 - (intOf s).toNat)
      case atStart => exact ⟨0, k, rfl, rfl, rfl, by omega, WalkArith.wf_i64 (by omega), Stands.start _ _⟩
      case round =>
        obtain ⟨q, x, rfl, rfl, rfl, hq, hwf, hS⟩ := hrel
        have HS := Lib.hid (And.intro hS hwf)
        clear hS hwf
        by_cases h0 : 0 ≤ x
        · by_cases h1 : (n : Int) ≤ x
          · have h2 : x ≥ n := h1
            have HF := Lib.hid (fun hR : Rooted P => HS.out.1.none (upTo_far (by rw [HN.out]; exact h1)) (hR k (by rw [HN.out]; exact hkn)))
            go_wp2_with fail
            go_ret
            exact ⟨Tells.no HF.out, rfl⟩
          · by_cases h2 : n < q
            · have h3 : (n : Int) < q := by omega
              have h4 : ¬ x ≥ n := h1
              have HF := Lib.hid (fun hR : Rooted P => HS.out.1.far (by rw [HN.out]; exact h2) (hR k (by rw [HN.out]; exact hkn)))
              go_wp2_with fail
              go_ret
              exact ⟨Tells.no HF.out, rfl⟩
            · have h3 : ¬ (n : Int) < q := by omega
              obtain ⟨_, _, e1, _, _, _, f4⟩ := H.out.open
              obtain ⟨b, o, e2, _, fc⟩ := f4 (by have := HN.out; omega)
              injection e1 with e1a e1b e1c
              subst e1a e1c
              subst e2
              obtain ⟨y, rfl⟩ : ∃ y : Nat, x = y := ⟨x.toNat, (Int.toNat_of_nonneg h0).symm⟩
              have hyn : y < P.length := by have := HN.out; omega
              have cy := fc y hyn
              have hyw := H.out.2 P[y] (List.getElem_mem hyn)
              have hnx := HS.out.1.next h0 (by omega)
              rw [Int.toNat_natCast, getD_at hyn] at hnx
              obtain ⟨z, hz⟩ : ∃ z, P[y] = z := ⟨_, rfl⟩
              rw [hz] at cy hyw hnx
              have hyc : y < n := by omega
              have HX := Lib.hid (And.intro hyw hnx)
              clear f4 fc e1b hyn hyw hnx hz
              go_wp2_with fail
              go_round
              case rel => exact ⟨q + 1, z, rfl, by go_num, rfl, by omega, HX.out.1, HX.out.2⟩
              case measure => simp [intOf]; omega
        · by_cases h1 : x < -1
          · have HF := Lib.hid (fun hR : Rooted P => HS.out.1.none (upTo_low h1) (hR k (by rw [HN.out]; exact hkn)))
            go_wp2_with fail
            go_ret
            exact ⟨Tells.no HF.out, rfl⟩
          · obtain rfl : x = -1 := by omega
            have HT := Lib.hid HS.out.1.top
            go_wp2_with fail
            go_round
            case rel => exact ⟨k + 1, hkn, by go_num, rfl, fun j hj => by
              by_cases e : j = k
              · subst e; exact HT.out
              · exact HD.out j (by omega)⟩
            case measure => simp [intOf]; omega
    · obtain rfl : k = n := by omega
      go_wp2_with fail
      go_ret
      exact ⟨Tells.yes fun i hi => HD.out i (by rw [HN.out] at hi; exact hi), rfl⟩
theorem setL_getD (ls : List (List Int)) (i : Nat) : (ls.map setL).getD i 0 = setL (rowN ls i) := by
  by_cases h : i < ls.length
  · simp [List.getD_eq_getElem?_getD, List.getElem?_eq_getElem h, rowN]
  · simp [List.getD_eq_getElem?_getD, List.getElem?_eq_none (Nat.le_of_not_lt h), rowN]
    rfl
theorem nat_zero' {d : Nat} : (d = 0 → ((d : Int) == 0) = true) ∧ (d ≠ 0 → ((d : Int) == 0) = false) :=
  ⟨fun e => by rw [e]; rfl, fun e => by rw [beq_eq_false_iff_ne]; omega⟩
/-- The set that is left of edge k: without what its parent has. -/
def topS (ls : List (List Int)) (P : List Int) (k : Nat) : Nat := if 0 ≤ P.getD k 0 then minus (setL (rowN ls k)) (setL (rowN ls (P.getD k 0).toNat)) else setL (rowN ls k)
theorem topS_bit {ls : List (List Int)} {P : List Int} {k : Nat} (hb : P.getD k 0 = -1 ∨ (0 ≤ P.getD k 0 ∧ P.getD k 0 < P.length)) (hl : P.length = ls.length) (v : Nat) : (topS ls P k).testBit v = true ↔ Top (ls.map setL) P k v := by
  unfold topS Top UpHas Has'
  rw [setL_getD]
  by_cases h0 : 0 ≤ P.getD k 0
  · rw [if_pos h0, minus_bit, Bool.and_eq_true]
    refine and_congr_right fun _ => ?_
    obtain ⟨q, hq⟩ : ∃ q : Nat, P.getD k 0 = q := ⟨_, (Int.toNat_of_nonneg h0).symm⟩
    rw [hq, Int.toNat_natCast]
    constructor
    · rintro h1 ⟨j, e, hj, h2⟩
      obtain rfl : q = j := by omega
      rw [setL_getD] at h2
      rw [h2] at h1
      cases h1
    · intro h1
      cases e : (setL (rowN ls q)).testBit v with
      | false => rfl
      | true => exact absurd ⟨q, rfl, by rw [List.length_map]; omega, by rw [setL_getD]; exact e⟩ h1
  · rw [if_neg h0]
    exact ⟨fun h => ⟨h, fun ⟨j, e, _⟩ => by omega⟩, fun h => h.1⟩
set_option maxRecDepth 100000 in
set_option maxHeartbeats 4000000 in
theorem Joins_any (m : Int) (ev pv : Value) (ls : List (List Int)) (P : List Int) (w : World) (h : SlRK .i64 w ev ls) (hp : SlI .i64 w pv P) (hPl : P.length ≤ 1048576) :
    Calls Tryd.prog 12 #[hypV m ev, pv] w fun e w' => Tells e (hypB m ls = true ∧ JoinP (ls.map setL) P) ∧ Below w.heap.size w w' := by
  obtain ⟨W0, hW0⟩ : ∃ W, W = w.alloc (.cells #[.int .i64 m, ev] 24) := ⟨_, rfl⟩
  have b0 : Below w.heap.size w W0 := by rw [hW0]; exact later_alloc _ _
  have bH : HB W0 w.heap.size m ev := by rw [hW0]; exact box_new _ _ _
  have hC := hyperCheck_any m ev ls W0 (h.later b0)
  have hlm := h.len
  obtain ⟨rg, hrg⟩ : ∃ b, hypB m ls = b := ⟨_, rfl⟩
  rw [hrg] at hC
  have HC := Lib.hid hC
  obtain ⟨ae, ce, rfl, -⟩ := h.open
  obtain ⟨ap, cp, rfl, -⟩ := hp.open
  have x0 := box_cell (i := 0) bH
  have x1 := box_cell (i := 1) bH
  have lX := lt_of_block bH
  simp at x0 x1
  obtain ⟨n, hn⟩ : ∃ n, ls.length = n := ⟨_, rfl⟩
  obtain ⟨k, hk⟩ : ∃ k, P.length = k := ⟨_, rfl⟩
  have HL := Lib.hid (And.intro hn hk)
  have H0 := Lib.hid (And.intro h (And.intro hp (And.intro b0 (And.intro bH hrg))))
  rw [hn] at hlm H0 HC x1 ⊢
  rw [hk] at hPl H0 ⊢
  rw [hn] at hW0
  clear h hp b0 bH hC hrg hn hk
  go_enter Tryd.func12, Tryd.ntmps12
  go_wp2_with fail
  rw [← hW0]
  clear hW0
  refine HC.out.mono ?_
  rintro e W1 ⟨rfl, b1⟩
  have bH1 := kept b1 H0.out.2.2.2.1
  clear x0 x1 lX
  have x0 := box_cell (i := 0) bH1
  have x1 := box_cell (i := 1) bH1
  have lX := lt_of_block bH1
  simp at x0 x1
  have H1 := Lib.hid (And.intro (later_trans H0.out.2.2.1 b1) bH1)
  clear b1 bH1
  cases rg with
  | false =>
    simp only [Bool.false_eq_true, if_false]
    go_wp2_with fail
    go_ret
    exact ⟨Tells.no fun q => (by have := q.1; rw [H0.out.2.2.2.2] at this; cases this), H1.out.1⟩
  | true =>
    simp only [if_true]
    have hRo := rooted_any (.slice ap k cp) P W1 (SlI.later H0.out.2.1 H1.out.1) (by rw [HL.out.2]; exact hPl)
    have HRo := Lib.hid hRo
    clear hRo
    by_cases hne : k = n
    · have hneI : (k : Int) = n := by omega
      have hne1 : ((k : Int) != n) = false := by rw [hneI]; simp
      have hne2 : ((k : Int) == n) = true := by rw [hneI]; simp
      have HNE := Lib.hid hne
      clear hne
      go_wp2_with fail
      refine HRo.out.mono ?_
      rintro e w9 ⟨⟨rb, rfl, hrb⟩, h9⟩
      rw [h9]
      clear h9 w9
      have HRb := Lib.hid hrb
      clear hrb
      cases rb with
      | false =>
        go_wp2_with fail
        go_ret
        exact ⟨Tells.no fun q => (by have := HRb.out.2 q.2.root; cases this), H1.out.1⟩
      | true =>
        have hroot := HRb.out.1 rfl
        have hS := sets_any m (.slice ae n ce) ls W1 (H0.out.1.later H1.out.1) (hypB_ok H0.out.2.2.2.2) (by have := (hypB_yes H0.out.2.2.2.2).2.2.1; omega)
        rw [HL.out.1] at hS
        have HS := Lib.hid hS
        have HR := Lib.hid hroot
        clear hS hroot
        go_wp2_with fail
        refine HS.out.mono ?_
        rintro e W2 ⟨sv, rfl, hsv, b2⟩
        obtain ⟨asv, csv, rfl⟩ := owns_shape2 hsv
        clear x0 x1 lX
        have H2 := Lib.hid (And.intro hsv (And.intro (SlI.later H0.out.2.1 (later_trans H1.out.1 b2)) (later_trans H1.out.1 b2)))
        clear hsv b2
        go_wp2_with fail
        go_loop [6, 7, 8, 32] (fun so on tw i => ∃ (j a b c : Nat), j ≤ n ∧ i = .int .i64 j ∧ so = .int .u64 (a : Int) ∧ on = .int .u64 (b : Int) ∧ tw = .int .u64 (c : Int) ∧ JoI (ls.map setL) P j a b c) (fun _ _ _ i => n - (intOf i).toNat)
        case atStart => exact ⟨0, 0, 0, 0, Nat.zero_le _, rfl, rfl, rfl, rfl, JoI.start _ _⟩
        case round =>
          obtain ⟨j, a, b, c, hj, rfl, rfl, rfl, rfl, hI⟩ := hrel
          have hn40 : n ≤ 40 := by have := (hypB_yes H0.out.2.2.2.2).2.2.1; rw [HL.out.1] at this; exact this
          by_cases hjn : j < n
          · have hjP : j < P.length := by have := HL.out.2; have := HNE.out; omega
            have hjl : j < ls.length := by have := HL.out.1; omega
            have hvo := hypB_ok H0.out.2.2.2.2
            obtain ⟨g, cap, hgc⟩ : ∃ g cap, Value.slice asv n csv = .slice (some ⟨g, 0, none⟩) n cap := by
              obtain ⟨l', hl'⟩ : ∃ l', ls.length = l' + 1 := ⟨ls.length - 1, by omega⟩
              have h1 := H2.out.1
              rw [← HL.out.1, hl'] at h1 ⊢
              exact ownsRow_succ h1
            injection hgc with hga hgb hgc
            subst hga hgc
            have hat : ∀ i, i < ls.length → (setsV ls)[i]? = some (.int .u64 ((setL (rowN ls i) : Nat) : Int)) := fun i hi => by unfold setsV; rw [List.getElem?_map, List.getElem?_eq_getElem hi, rowN_at hi]; rfl
            have hsv := H2.out.1
            obtain ⟨cs, -⟩ := owns_cell hsv (hat j hjl)
            have he64 : setL (rowN ls j) < 2 ^ 64 := setL_lt (hvo _ (rowN_mem hjl))
            obtain ⟨_, _, e1, _, _, _, f4⟩ := H2.out.2.1.open
            obtain ⟨bp, op, e2, _, fc⟩ := f4 (by omega)
            injection e1 with e1a e1b e1c
            subst e1a e1c
            subst e2
            have cp1 := fc j hjP
            rw [← getD_at hjP] at cp1
            have hba := HR.out.at hjP
            have hbit := topS_bit (ls := ls) hba (by have := HL.out.1; have := HL.out.2; have := HNE.out; omega)
            have hjk : j < k := by have := HNE.out; omega
            have hjI : (j : Int) < n := by omega
            obtain ⟨e, he⟩ : ∃ e, setL (rowN ls j) = e := ⟨_, rfl⟩
            have hgE : (ls.map setL).getD j 0 = e := by rw [setL_getD, he]
            rw [he] at cs he64
            obtain ⟨x, hx⟩ : ∃ x, P.getD j 0 = x := ⟨_, rfl⟩
            rw [hx] at cp1 hba
            have hts : topS ls P j = if 0 ≤ x then minus e (setL (rowN ls x.toNat)) else e := by unfold topS; rw [hx, he]
            clear f4 fc e1b hgb
            have hor1 := bits_or_u64_nat a e hI.ls he64
            obtain ⟨d1, hd1⟩ : ∃ d, a ||| e = d := ⟨_, rfl⟩
            rw [hd1] at hor1
            rcases hba with rfl | ⟨hx0, hxl⟩
            · rw [if_neg (by omega)] at hts
              rw [hts] at hbit
              have hnx := hI.next hgE he64 he64 hbit
              have hand := bits_and_u64_nat b e hI.lo he64
              have hor2 := bits_or_u64_nat c (b &&& e) hI.lt (Nat.and_lt_two_pow _ he64)
              have hor3 := bits_or_u64_nat b e hI.lo he64
              obtain ⟨d2, hd2⟩ : ∃ d, b &&& e = d := ⟨_, rfl⟩
              rw [hd2] at hand hor2 hnx
              obtain ⟨d3, hd3⟩ : ∃ d, c ||| d2 = d := ⟨_, rfl⟩
              rw [hd3] at hor2 hnx
              obtain ⟨d4, hd4⟩ : ∃ d, b ||| e = d := ⟨_, rfl⟩
              rw [hd4] at hor3 hnx
              rw [hd1] at hnx
              have HX := Lib.hid hnx
              clear hnx hbit hts hd1 hd2 hd3 hd4 hI he hgE hx hat hsv hvo hjP hjl he64
              go_wp2_with fail
              go_round
              case rel => exact ⟨j + 1, d1, d4, d3, hjn, by go_num, rfl, rfl, rfl, HX.out⟩
              case measure => simp [intOf]; omega
            · obtain ⟨q, rfl⟩ : ∃ q : Nat, x = q := ⟨x.toNat, (Int.toNat_of_nonneg hx0).symm⟩
              rw [if_pos hx0, Int.toNat_natCast] at hts
              have hql : q < ls.length := by have := HL.out.1; have := HL.out.2; have := HNE.out; omega
              obtain ⟨cq, -⟩ := owns_cell hsv (hat q hql)
              have hu64 : setL (rowN ls q) < 2 ^ 64 := setL_lt (hvo _ (rowN_mem hql))
              obtain ⟨u, hu⟩ : ∃ u, setL (rowN ls q) = u := ⟨_, rfl⟩
              rw [hu] at cq hu64 hts
              have hnot := bits_andNot_u64_nat e u he64 hu64
              obtain ⟨s, hs⟩ : ∃ s, minus e u = s := ⟨_, rfl⟩
              have hs64 : s < 2 ^ 64 := by rw [← hs]; exact minus_lt u he64
              rw [hs] at hnot hts
              rw [hts] at hbit
              have hnx := hI.next hgE he64 hs64 hbit
              have hand := bits_and_u64_nat b s hI.lo hs64
              have hor2 := bits_or_u64_nat c (b &&& s) hI.lt (Nat.and_lt_two_pow _ hs64)
              have hor3 := bits_or_u64_nat b s hI.lo hs64
              obtain ⟨d2, hd2⟩ : ∃ d, b &&& s = d := ⟨_, rfl⟩
              rw [hd2] at hand hor2 hnx
              obtain ⟨d3, hd3⟩ : ∃ d, c ||| d2 = d := ⟨_, rfl⟩
              rw [hd3] at hor2 hnx
              obtain ⟨d4, hd4⟩ : ∃ d, b ||| s = d := ⟨_, rfl⟩
              rw [hd4] at hor3 hnx
              rw [hd1] at hnx
              have hqn : q < n := by have := HL.out.1; omega
              have hqI : (q : Int) < n := by omega
              have HX := Lib.hid hnx
              clear hnx hbit hts hd1 hd2 hd3 hd4 hI he hgE hx hat hsv hvo hjP hjl he64 hu hs hs64 hu64 hxl hql
              go_wp2_with fail
              go_round
              case rel => exact ⟨j + 1, d1, d4, d3, hjn, by go_num, rfl, rfl, rfl, HX.out⟩
              case measure => simp [intOf]; omega
          · obtain rfl : j = n := by omega
            have hlE : (ls.map setL).length = j := by rw [List.length_map]; exact HL.out.1
            have hI' : JoI (ls.map setL) P (ls.map setL).length a b c := by rw [hlE]; exact hI
            have hdn := hI'.done (by rw [hlE, HL.out.2]; exact HNE.out) HR.out
            have HX := Lib.hid (And.intro hdn H2.out.2.2)
            clear hI hI' hlE hdn
            by_cases h1 : b = a
            · have h1I : ((b : Int) == a) = true := by rw [h1]; simp
              by_cases h2 : c = 0
              · have h2I := nat_zero'.1 h2
                have HJ := Lib.hid (HX.out.1.1 ⟨h1, h2⟩)
                clear h1 h2
                go_wp2_with fail
                go_ret
                exact ⟨Tells.yes ⟨H0.out.2.2.2.2, HJ.out⟩, HX.out.2⟩
              · have h2I := nat_zero'.2 h2
                have HJ := Lib.hid (fun q => h2 (HX.out.1.2 q).2)
                clear h1 h2
                go_wp2_with fail
                go_ret
                exact ⟨Tells.no fun q => HJ.out q.2, HX.out.2⟩
            · have h1I : ((b : Int) == a) = false := by rw [beq_eq_false_iff_ne]; omega
              have h1J : ¬ (b : Int) = a := by omega
              have HJ := Lib.hid (fun q => h1 (HX.out.1.2 q).1)
              clear h1
              go_wp2_with fail
              go_ret
              exact ⟨Tells.no fun q => HJ.out q.2, HX.out.2⟩
    · have hneI : ¬ (k : Int) = n := by omega
      have hne1 : ((k : Int) != n) = true := by rw [bne_iff_ne]; exact hneI
      have hne2 : ((k : Int) == n) = false := by rw [beq_eq_false_iff_ne]; exact hneI
      have HNE := Lib.hid hne
      clear hne
      go_wp2_with fail
      go_ret
      exact ⟨Tells.no fun q => absurd q.2.len (by rw [HL.out.2, List.length_map, HL.out.1]; exact HNE.out), H1.out.1⟩
end Go.Proofs.YtplidcbfbonjlaaDoor
