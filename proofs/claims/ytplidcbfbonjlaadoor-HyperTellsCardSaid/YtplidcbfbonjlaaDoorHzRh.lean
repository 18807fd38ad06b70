/-
  The document's Joins, walked.
-/
import Derived.Deep.RegionHeld3
import Derived.Deep.DeepCutAuto
import Derived.Test.YtplidcbfbonjlaaDoorHzJoins
import Derived.Test.YtplidcbfbonjlaaDoorHzRc
namespace Go.Proofs.YtplidcbfbonjlaaDoor
open Go.RowKit Go.Lib Go.Shelf
set_option linter.unusedVariables false
set_option linter.unusedSimpArgs false

theorem UpTo.noLoop {P : List Int} {i : Int} : ∀ {n k : Nat}, 0 < k → Stands P i k i → ¬ UpTo P n i := fun {n k} hk hS hn => by
  have h2 := ((hS n).1 hn).2
  have h1 := ((hS n).1 hn).1
  have := UpTo.uniq hn h2
  omega
theorem Stands.loop {P : List Int} {i : Int} {k : Nat} (h : Stands P i k i) (hk : 0 < k) : ¬ ∃ n, UpTo P n i := fun ⟨_, hn⟩ => UpTo.noLoop hk h hn
/-- Has the edge this vertex, and its parent not? -/
def hasB (ls : List (List Int)) (v i : Nat) : Bool := decide ((v : Int) ∈ rowN ls i)
def topB (ls : List (List Int)) (P : List Int) (v i : Nat) : Bool := hasB ls v i && (decide (P.getD i 0 < 0) || !decide ((v : Int) ∈ rowN ls (P.getD i 0).toNat))
theorem hasB_iff {ls : List (List Int)} (hv : VertsOk ls) {v i : Nat} (hi : i < ls.length) : hasB ls v i = true ↔ Has' (ls.map setL) i v := by
  unfold hasB Has'
  rw [setL_getD, setL_bit (fun x hx => (hv _ (rowN_mem hi) x hx).1)]
theorem topB_iff {ls : List (List Int)} {P : List Int} (hv : VertsOk ls) {v i : Nat} (hi : i < ls.length) (hb : P.getD i 0 = -1 ∨ (0 ≤ P.getD i 0 ∧ P.getD i 0 < P.length)) (hl : P.length = ls.length) : topB ls P v i = true ↔ Top (ls.map setL) P i v := by
  unfold topB Top UpHas
  rw [Bool.and_eq_true, hasB_iff hv hi]
  refine and_congr_right fun _ => ?_
  rcases hb with hb | ⟨h0, h1⟩
  · rw [hb]
    exact ⟨fun _ ⟨j, e, _⟩ => by omega, fun _ => rfl⟩
  · obtain ⟨q, hq⟩ : ∃ q : Nat, P.getD i 0 = q := ⟨_, (Int.toNat_of_nonneg h0).symm⟩
    rw [hq] at h1 ⊢
    have hql : q < ls.length := by omega
    have e0 : decide ((q : Int) < 0) = false := decide_eq_false (by omega)
    rw [e0, Bool.false_or, Int.toNat_natCast, Bool.not_eq_true', decide_eq_false_iff_not]
    constructor
    · rintro hn ⟨j, e, -, hj⟩
      obtain rfl : q = j := by omega
      have := (hasB_iff hv hql).2 hj
      exact hn (of_decide_eq_true this)
    · intro hn hm
      exact hn ⟨q, rfl, by rw [List.length_map]; exact hql, (hasB_iff hv hql).1 (decide_eq_true hm)⟩
theorem count_one {n : Nat} {p : Nat → Bool} : (List.range n).countP p = 1 ↔ ∃ i, i < n ∧ p i = true ∧ ∀ j, j < n → p j = true → j = i := by
  induction n with
  | zero => simp
  | succ n ih =>
    have hz : (List.range n).countP p = 0 ↔ ∀ j, j < n → p j = false := by
      rw [List.countP_eq_zero]
      constructor
      · intro h j hj; simpa using h j (List.mem_range.2 hj)
      · intro h j hj; simp [h j (List.mem_range.1 hj)]
    rw [List.range_succ, List.countP_append, List.countP_cons, List.countP_nil]
    cases hp : p n with
    | false =>
      simp only [Bool.false_eq_true, if_false, Nat.add_zero]
      rw [ih]
      constructor
      · rintro ⟨i, hi, h1, h2⟩
        refine ⟨i, by omega, h1, fun j hj hpj => ?_⟩
        by_cases e : j = n
        · subst e; rw [hp] at hpj; cases hpj
        · exact h2 j (by omega) hpj
      · rintro ⟨i, hi, h1, h2⟩
        have hne : i ≠ n := fun e => by subst e; rw [hp] at h1; cases h1
        exact ⟨i, by omega, h1, fun j hj => h2 j (by omega)⟩
    | true =>
      simp only [if_true, Nat.zero_add]
      constructor
      · intro h
        have h0 := hz.1 (by omega)
        refine ⟨n, by omega, hp, fun j hj hpj => ?_⟩
        by_cases e : j = n
        · exact e
        · rw [h0 j (by omega)] at hpj; cases hpj
      · rintro ⟨i, hi, h1, h2⟩
        have e := h2 n (by omega) hp
        have : (List.range n).countP p = 0 := hz.2 fun j hj => by
          cases q : p j with
          | false => rfl
          | true => have := h2 j (by omega) q; omega
        omega
/-- What is counted at one vertex. -/
def tops (ls : List (List Int)) (P : List Int) (v k : Nat) : Nat := (List.range k).countP (topB ls P v)
def somes (ls : List (List Int)) (v k : Nat) : Bool := (List.range k).any (hasB ls v)
theorem tops_next (ls : List (List Int)) (P : List Int) (v k : Nat) : tops ls P v (k + 1) = tops ls P v k + (if topB ls P v k = true then 1 else 0) := by
  unfold tops
  rw [List.range_succ, List.countP_append, List.countP_cons, List.countP_nil]
  omega
theorem somes_next (ls : List (List Int)) (v k : Nat) : somes ls v (k + 1) = (somes ls v k || hasB ls v k) := by
  unfold somes
  rw [List.range_succ, List.any_append]
  simp
theorem tops_le (ls : List (List Int)) (P : List Int) (v k : Nat) : tops ls P v k ≤ k := by
  unfold tops
  exact Nat.le_trans List.countP_le_length (by rw [List.length_range]; exact Nat.le_refl _)
/-- It is a join tree just if each vertex has one top. -/
theorem join_iff {m : Nat} {ls : List (List Int)} {P : List Int} (hy : hypB (m : Int) ls = true) (hl : P.length = ls.length) (hr : Rooted P) : JoinP (ls.map setL) P ↔ ∀ v, v < m → somes ls v ls.length = true → tops ls P v ls.length = 1 := by
  have hv := hypB_ok hy
  obtain ⟨-, -, -, hm⟩ := hypB_yes hy
  have hone : ∀ v, tops ls P v ls.length = 1 ↔ ∃ i, i < (ls.map setL).length ∧ Top (ls.map setL) P i v ∧ ∀ j, j < (ls.map setL).length → Top (ls.map setL) P j v → j = i := fun v => by
    unfold tops
    rw [count_one, List.length_map]
    have e : ∀ i, i < ls.length → (topB ls P v i = true ↔ Top (ls.map setL) P i v) := fun i hi => topB_iff hv hi (hr.at (by omega)) hl
    constructor
    · rintro ⟨i, hi, h1, h2⟩
      exact ⟨i, hi, (e i hi).1 h1, fun j hj hj2 => h2 j hj ((e j hj).2 hj2)⟩
    · rintro ⟨i, hi, h1, h2⟩
      exact ⟨i, hi, (e i hi).2 h1, fun j hj hj2 => h2 j hj ((e j hj).1 hj2)⟩
  have hsome : ∀ v, somes ls v ls.length = true ↔ ∃ i, i < (ls.map setL).length ∧ Has' (ls.map setL) i v := fun v => by
    unfold somes
    rw [List.any_eq_true, List.length_map]
    constructor
    · rintro ⟨i, hi, h1⟩
      have hi := List.mem_range.1 hi
      exact ⟨i, hi, (hasB_iff hv hi).1 h1⟩
    · rintro ⟨i, hi, h1⟩
      exact ⟨i, List.mem_range.2 hi, (hasB_iff hv hi).2 h1⟩
  constructor
  · intro hJ v _ hs
    exact (hone v).2 (hJ.top v ((hsome v).1 hs))
  · intro h
    refine ⟨by rw [List.length_map]; exact hl, hr, fun v hs => (hone v).1 (h v ?_ ((hsome v).2 hs))⟩
    obtain ⟨i, hi, h1⟩ := hs
    rw [List.length_map] at hi
    have := of_decide_eq_true ((hasB_iff hv hi).2 h1)
    have := hm _ (rowN_mem hi) _ this
    omega
set_option maxRecDepth 100000 in
set_option maxHeartbeats 8000000 in
theorem Joins20_any (mm : Nat) (ev pv : Value) (ls : List (List Int)) (P : List Int) (w : World) (h : SlRK .i64 w ev ls) (hp : SlI .i64 w pv P) (hPl : P.length ≤ 1048576) (hy : hypB (mm : Int) ls = true) :
    Calls Tryd.prog 24 #[hypV (mm : Int) ev, pv] w fun e w' => Tells e (JoinP (ls.map setL) P) ∧ Below w.heap.size w w' := by
  obtain ⟨W0, hW0⟩ : ∃ W, W = w.alloc (.cells #[.int .i64 mm, ev] 24) := ⟨_, rfl⟩
  have b0 : Below w.heap.size w W0 := by rw [hW0]; exact later_alloc _ _
  have bH : HB W0 w.heap.size mm ev := by rw [hW0]; exact box_new _ _ _
  have hy4 := hypB_yes hy
  have hmm : mm ≤ 32 := by omega
  obtain ⟨ae, ce, rfl, -⟩ := h.open
  obtain ⟨ap, cp, rfl, -⟩ := hp.open
  obtain ⟨n, hn⟩ : ∃ n, ls.length = n := ⟨_, rfl⟩
  obtain ⟨k, hk⟩ : ∃ k, P.length = k := ⟨_, rfl⟩
  have hn40 : n ≤ 40 := by omega
  have HL := Lib.hid (And.intro hn hk)
  have H0 := Lib.hid (And.intro (h.later b0) (And.intro (hp.later b0) (And.intro b0 (And.intro bH hy))))
  have HVO := Lib.hid (hypB_ok hy)
  obtain ⟨x0, x1, -, -, lX⟩ := two_of bH
  rw [hn] at H0 x1 hW0 ⊢
  rw [hk] at hPl H0 ⊢
  clear h hp b0 bH hn hk hy hy4
  go_enter Tryd.func24, Tryd.ntmps24
  go_upto_region 1 with fail
  rw [← hW0]
  clear hW0
  by_cases hne : k = n
  · subst hne
    have hne1 : ((k : Int) != k) = false := by simp
    go_wp2_with fail
    go_loop [22] (fun x => ∃ i : Nat, i ≤ k ∧ x = .int .i64 i ∧ ∀ j : Nat, j < i → ∃ m, UpTo P m (j : Int)) (fun x => k - (intOf x).toNat)
    case atStart => exact ⟨0, Nat.zero_le _, rfl, fun j hj => by omega⟩
    case round =>
      obtain ⟨i, hi, rfl, hd⟩ := hrel
      have HD := Lib.hid hd
      clear hd
      by_cases hik : i < k
      · have hiP : i < P.length := by rw [HL.out.2]; exact hik
        have hikI : (i : Int) < k := by omega
        obtain ⟨_, _, e1, _, _, _, f4⟩ := H0.out.2.1.open
        obtain ⟨b, o, e2, _, fc⟩ := f4 (by omega)
        injection e1 with e1a e1b e1c
        subst e1a e1c
        subst e2
        have ci := fc i hiP
        have hS1 := (Stands.start P (i : Int)).next (by omega) (by omega)
        rw [Int.toNat_natCast] at hS1
        rw [← getD_at hiP] at ci
        obtain ⟨p, hp⟩ : ∃ p, P.getD i 0 = p := ⟨_, rfl⟩
        rw [hp] at ci hS1
        have hPwf := H0.out.2.1.2
        have HF := Lib.hid (And.intro fc (And.intro hS1 hPwf))
        clear fc f4 e1b hp hS1 hPwf
        by_cases h1 : p < -1
        · have HN := Lib.hid (fun hJ : JoinP (ls.map setL) P => HF.out.2.1.none (upTo_low h1) (hJ.root i hiP))
          go_wp2_with fail
          go_ret
          exact ⟨Tells.no HN.out, H0.out.2.2.1⟩
        · by_cases h2 : (k : Int) ≤ p
          · have h3 : p ≥ k := h2
            have HN := Lib.hid (fun hJ : JoinP (ls.map setL) P => HF.out.2.1.none (upTo_far (by rw [HL.out.2]; exact h2)) (hJ.root i hiP))
            go_wp2_with fail
            go_ret
            exact ⟨Tells.no HN.out, H0.out.2.2.1⟩
          · have h3 : ¬ p ≥ k := h2
            go_wp2_with fail
            go_loop [7, 8] (fun c a => ∃ (q : Nat) (x : Int), c = .int .i64 q ∧ a = .int .i64 x ∧ -1 ≤ x ∧ x < k ∧ q ≤ k + 1 ∧ Stands P i (q + 1) x) (fun c _ => k + 2 - (intOf c).toNat)
            case atStart => exact ⟨0, p, rfl, rfl, by omega, by omega, by omega, HF.out.2.1⟩
            case round =>
              obtain ⟨q, x, rfl, rfl, hx1, hx2, hq, hS⟩ := hrel
              have HS := Lib.hid hS
              clear hS
              by_cases h0 : 0 ≤ x
              · have h0' : x ≥ 0 := h0
                by_cases hxi : x = i
                · have hb1 : (x == (i : Int)) = true := by rw [beq_iff_eq]; exact hxi
                  have HN := Lib.hid (fun hJ : JoinP (ls.map setL) P => (show Stands P i (q + 1) i by rw [← hxi]; rw [← hxi] at HS; exact HS.out).loop (Nat.succ_pos _) (hJ.root i hiP))
                  go_wp2_with fail
                  go_ret
                  exact ⟨Tells.no HN.out, H0.out.2.2.1⟩
                · have hb1 : (x == (i : Int)) = false := by rw [beq_eq_false_iff_ne]; exact hxi
                  by_cases hqk : k < q
                  · have hqI : (k : Int) < q := by omega
                    have HN := Lib.hid (fun hJ : JoinP (ls.map setL) P => HS.out.far (by rw [HL.out.2]; omega) (hJ.root i hiP))
                    go_wp2_with fail
                    go_ret
                    exact ⟨Tells.no HN.out, H0.out.2.2.1⟩
                  · have hqI : ¬ (k : Int) < q := by omega
                    obtain ⟨y, rfl⟩ : ∃ y : Nat, x = y := ⟨x.toNat, (Int.toNat_of_nonneg h0).symm⟩
                    have hyP : y < P.length := by rw [HL.out.2]; omega
                    have cy := HF.out.1 y hyP
                    have hnx := HS.out.next h0 (by omega)
                    rw [Int.toNat_natCast] at hnx
                    rw [← getD_at hyP] at cy
                    obtain ⟨z, hz⟩ : ∃ z, P.getD y 0 = z := ⟨_, rfl⟩
                    rw [hz] at cy hnx
                    have HX := Lib.hid hnx
                    have hyk : y < k := by omega
                    clear hnx hz
                    by_cases hz1 : z < -1
                    · have HN := Lib.hid (fun hJ : JoinP (ls.map setL) P => HX.out.none (upTo_low hz1) (hJ.root i hiP))
                      go_wp2_with fail
                      go_ret
                      exact ⟨Tells.no HN.out, H0.out.2.2.1⟩
                    · by_cases hz2 : (k : Int) ≤ z
                      · have hz3 : z ≥ k := hz2
                        have HN := Lib.hid (fun hJ : JoinP (ls.map setL) P => HX.out.none (upTo_far (by rw [HL.out.2]; exact hz2)) (hJ.root i hiP))
                        go_wp2_with fail
                        go_ret
                        exact ⟨Tells.no HN.out, H0.out.2.2.1⟩
                      · have hz3 : ¬ z ≥ k := hz2
                        go_wp2_with fail
                        go_round
                        case rel => exact ⟨q + 1, z, by go_num, rfl, by omega, by omega, by omega, HX.out⟩
                        case measure => simp [intOf]; omega
              · obtain rfl : x = -1 := by omega
                have HT := Lib.hid HS.out.top
                go_wp2_with fail
                go_round
                case rel => exact ⟨i + 1, hik, by go_num, fun j hj => by
                  by_cases e : j = i
                  · subst e; exact HT.out
                  · exact HD.out j (by omega)⟩
                case measure => simp [intOf]; omega
      · obtain rfl : i = k := by omega
        have hroot : Rooted P := fun j hj => HD.out j (by rw [HL.out.2] at hj; exact hj)
        have HR := Lib.hid hroot
        clear hroot
        clear x0 x1 lX
        have hj1 := join_iff H0.out.2.2.2.2 (by rw [HL.out.1, HL.out.2]) HR.out
        rw [HL.out.1] at hj1
        have HJ := Lib.hid hj1
        clear hj1
        obtain ⟨x0, x1, -, -, lX⟩ := two_of H0.out.2.2.2.1
        go_wp2_with fail
        go_loopw [70] (fun x wr => ∃ u : Nat, u ≤ mm ∧ x = .int .i64 u ∧ (∀ v, v < u → somes ls v i = true → tops ls P v i = 1) ∧ Below W0.heap.size W0 wr) (fun x _ => mm - (intOf x).toNat)
        case atStart => exact ⟨0, Nat.zero_le _, rfl, fun v hv => by omega, Below.refl _ _⟩
        case round =>
          obtain ⟨u, hu, rfl, hall, hb⟩ := hrel
          have HU := Lib.hid (And.intro hall hb)
          clear x0 x1 lX hall
          obtain ⟨x0, x1, -, -, lX⟩ := two_of (kept hb H0.out.2.2.2.1)
          clear hb
          by_cases hum : u < mm
          · have humI : (u : Int) < mm := by omega
            go_wp2_with fail
            go_loopw [10, 11, 76] (fun t s x wr2 => ∃ j t' : Nat, j ≤ i ∧ x = .int .i64 j ∧ t = .int .i64 t' ∧ t' = tops ls P u j ∧ s = .bool (somes ls u j) ∧ Below W0.heap.size W0 wr2) (fun _ _ x _ => i - (intOf x).toNat)
            case atStart => exact ⟨0, 0, Nat.zero_le _, rfl, rfl, rfl, rfl, HU.out.2⟩
            case round =>
              obtain ⟨j, t, hj, rfl, rfl, ht, rfl, hb⟩ := hrel
              have htj : t ≤ j := by rw [ht]; exact tops_le ls P u j
              have HT := Lib.hid (And.intro ht hb)
              clear x0 x1 lX ht
              obtain ⟨x0, x1, -, -, lX⟩ := two_of (kept hb H0.out.2.2.2.1)
              by_cases hji : j < i
              · have hjI : (j : Int) < i := by omega
                have hjl : j < ls.length := by rw [HL.out.1]; exact hji
                have hjP : j < P.length := by rw [HL.out.2]; exact hji
                obtain ⟨_, _, e1, _, _, _, f4⟩ := (H0.out.1.later hb).open
                obtain ⟨bE, oE, e2, lE, fc⟩ := f4 (by omega)
                injection e1 with e1a e1b e1c
                subst e1a e1c
                subst e2
                obtain ⟨rj, cj, sj⟩ := fc j hjl
                obtain ⟨aj, dj, rfl, -⟩ := sj.open
                have hHa := Has_any _ _ (u : Int) wr sj
                obtain ⟨hb9, hhb⟩ : ∃ q, hasB ls u j = q := ⟨_, rfl⟩
                have hHa' : Calls Tryd.prog 52 #[.slice aj (rowN ls j).length dj, .int .i64 (u : Int)] wr fun e w' => e = .returned (.bool hb9) ∧ w' = wr := by rw [← hhb]; exact hHa
                have hsn := somes_next ls u j
                have htn := tops_next ls P u j
                rw [hhb] at hsn
                rw [← HT.out.1] at htn
                have HH := Lib.hid (And.intro hHa' (And.intro hhb (And.intro hsn htn)))
                have HFC := Lib.hid (And.intro fc hb)
                clear hHa hHa' hhb hsn htn fc f4 e1b sj hb
                cases hb9 with
                | false =>
                  have e1 : Hid (somes ls u (j + 1) = somes ls u j) := Lib.hid (by rw [HH.out.2.2.1, Bool.or_false])
                  have e2 : Hid (t = tops ls P u (j + 1)) := Lib.hid (by rw [HH.out.2.2.2]; unfold topB; rw [HH.out.2.1]; simp)
                  go_wp2_with fail
                  refine HH.out.1.mono ?_
                  rintro e w9 ⟨rfl, h9⟩
                  rw [h9]
                  clear h9 w9
                  go_wp2_with fail
                  go_roundw
                  case rel => exact ⟨j + 1, t, by omega, by go_num, rfl, e2.out, by rw [e1.out], HT.out.2⟩
                  case measure => simp [intOf]; omega
                | true =>
                  have e1 : Hid (somes ls u (j + 1) = true) := Lib.hid (by rw [HH.out.2.2.1, Bool.or_true])
                  have hpa := HR.out.at hjP
                  obtain ⟨_, _, g1, _, _, _, g4⟩ := (H0.out.2.1.later HT.out.2).open
                  obtain ⟨bP, oP, g2, lP, gc⟩ := g4 (by omega)
                  injection g1 with g1a g1b g1c
                  subst g1a g1c
                  subst g2
                  have cpj := gc j hjP
                  rw [← getD_at hjP] at cpj
                  have htb : topB ls P u j = (decide (P.getD j 0 < 0) || !decide ((u : Int) ∈ rowN ls (P.getD j 0).toNat)) := by unfold topB; rw [HH.out.2.1, Bool.true_and]
                  have htn := HH.out.2.2.2
                  obtain ⟨pj, hpj⟩ : ∃ p, P.getD j 0 = p := ⟨_, rfl⟩
                  rw [hpj] at cpj hpa htb
                  clear gc g4 g1b hpj
                  rcases hpa with rfl | ⟨hp0, hp1⟩
                  · have e2 : Hid (t + 1 = tops ls P u (j + 1)) := Lib.hid (by rw [htn, htb]; rfl)
                    clear htn htb
                    go_wp2_with fail
                    refine HH.out.1.mono ?_
                    rintro e w9 ⟨rfl, h9⟩
                    rw [h9]
                    clear h9 w9
                    have HK : Hid (∀ W, Below wr.heap.size wr W → W.cell? ⟨bP, oP + j, none⟩ = some (.int .i64 (-1))) := Lib.hid (fun W hb => cell_next hb cpj)
                    go_upto_region 27 with fail
                    go_cut [102] (fun s wx => s = .bool true ∧ Below wr.heap.size wr wx)
                    case first =>
                      go_quiet (fail)
                      all_goals (go_wp2_with fail)
                      all_goals go_meet
                      all_goals exact ⟨rfl, later_drewN _ _⟩
                    case rest =>
                      obtain ⟨rfl, hcb⟩ := hcut
                      have HCB := Lib.hid (later_trans HT.out.2 hcb)
                      clear hcb
                      go_wp2_with fail
                      go_roundw
                      case rel => exact ⟨j + 1, t + 1, by omega, by go_num, by go_num, e2.out, by rw [e1.out], HCB.out⟩
                      case measure => simp [intOf]; omega
                  · obtain ⟨p, rfl⟩ : ∃ p : Nat, pj = p := ⟨pj.toNat, (Int.toNat_of_nonneg hp0).symm⟩
                    have hpl : p < ls.length := by have := HL.out.1; have := HL.out.2; omega
                    have hpi : p < i := by have := HL.out.2; omega
                    obtain ⟨rp, cpE, sp⟩ := HFC.out.1 p hpl
                    obtain ⟨aq, dq, rfl, -⟩ := sp.open
                    rw [decide_eq_false (by omega), Bool.false_or, Int.toNat_natCast] at htb
                    have hHp := fun W (hb : Below wr.heap.size wr W) => Has_any _ _ (u : Int) W (sp.later hb)
                    obtain ⟨qb, hqb⟩ : ∃ q, decide ((u : Int) ∈ rowN ls p) = q := ⟨_, rfl⟩
                    rw [hqb] at htb
                    have hHp' : ∀ W, Below wr.heap.size wr W → Calls Tryd.prog 52 #[.slice aq (rowN ls p).length dq, .int .i64 (u : Int)] W fun e w' => e = .returned (.bool qb) ∧ w' = W := fun W hb => by rw [← hqb]; exact hHp W hb
                    have HHp := Lib.hid hHp'
                    have HTN := Lib.hid (And.intro htn htb)
                    have HK : Hid (∀ W, Below wr.heap.size wr W → W.cell? ⟨w.heap.size, 1, none⟩ = some (.slice (some ⟨bE, oE, none⟩) i ce) ∧ W.cell? ⟨bP, oP + j, none⟩ = some (.int .i64 (p : Int)) ∧ W.cell? ⟨bE, oE + p, none⟩ = some (.slice aq (rowN ls p).length dq)) := Lib.hid (fun W hb => ⟨cell_next hb x1, cell_next hb cpj, cell_next hb cpE⟩)
                    have hpI : (p : Int) < i := by omega
                    have hp0' : ¬ (p : Int) < 0 := by omega
                    clear htn htb hHp hHp' hqb sp hp1 hpl
                    go_wp2_with fail
                    refine HH.out.1.mono ?_
                    rintro e w9 ⟨rfl, h9⟩
                    rw [h9]
                    clear h9 w9
                    go_upto_region 27 with fail
                    go_cut [102] (fun s wx => s = .bool (!qb) ∧ Below wr.heap.size wr wx)
                    case first =>
                      go_region_held3 (fun W => W.cell? ⟨w.heap.size, 1, none⟩ = some (.slice (some ⟨bE, oE, none⟩) i ce) ∧ W.cell? ⟨bP, oP + j, none⟩ = some (.int .i64 (p : Int)) ∧ W.cell? ⟨bE, oE + p, none⟩ = some (.slice aq (rowN ls p).length dq))
                        (first | exact HK.out _ (later_refl _) | exact HK.out _ (later_drew _) | assumption)
                        (first
                          | (go_at_call 52; refine (HHp.out _ (by first | exact later_drew _ | exact later_refl _)).mono ?_; rintro e wQ ⟨rfl, hQ1⟩; rw [hQ1]; clear hQ1 wQ))
                      all_goals (go_wp2_with fail)
                      all_goals go_meet
                      all_goals exact ⟨by cases qb <;> rfl, later_drew _⟩
                    case rest =>
                      obtain ⟨rfl, hcb⟩ := hcut
                      have HCB := Lib.hid (later_trans HT.out.2 hcb)
                      clear hcb
                      cases qb with
                      | true =>
                        have e2 : Hid (t = tops ls P u (j + 1)) := Lib.hid (by rw [HTN.out.1, HTN.out.2]; rfl)
                        go_wp2_with fail
                        go_roundw
                        case rel => exact ⟨j + 1, t, by omega, by go_num, rfl, e2.out, by rw [e1.out], HCB.out⟩
                        case measure => simp [intOf]; omega
                      | false =>
                        have e2 : Hid (t + 1 = tops ls P u (j + 1)) := Lib.hid (by rw [HTN.out.1, HTN.out.2]; rfl)
                        go_wp2_with fail
                        go_roundw
                        case rel => exact ⟨j + 1, t + 1, by omega, by go_num, by go_num, e2.out, by rw [e1.out], HCB.out⟩
                        case measure => simp [intOf]; omega
              · obtain rfl : j = i := by omega
                obtain ⟨sb, hsb⟩ : ∃ q, somes ls u j = q := ⟨_, rfl⟩
                have HSB := Lib.hid hsb
                rw [hsb]
                clear hsb hb
                cases sb with
                | false =>
                  go_wp2_with fail
                  go_roundw
                  case rel => exact ⟨u + 1, by omega, by go_num, fun v hv hs => by
                    by_cases e : v = u
                    · subst e; rw [HSB.out] at hs; cases hs
                    · exact HU.out.1 v (by omega) hs, HT.out.2⟩
                  case measure => simp [intOf]; omega
                | true =>
                  by_cases ht1 : t = 1
                  · subst ht1
                    go_wp2_with fail
                    go_roundw
                    case rel => exact ⟨u + 1, by omega, by go_num, fun v hv hs => by
                      by_cases e : v = u
                      · subst e; exact HT.out.1.symm
                      · exact HU.out.1 v (by omega) hs, HT.out.2⟩
                    case measure => simp [intOf]; omega
                  · have hbn : ((t : Int) != 1) = true := by rw [bne_iff_ne]; omega
                    have HN := Lib.hid (fun hJ : JoinP (ls.map setL) P => ht1 (by rw [HT.out.1]; exact HJ.out.1 hJ u hum HSB.out))
                    have HE := Lib.hid (later_trans H0.out.2.2.1 HT.out.2)
                    go_wp2_with fail
                    go_ret
                    exact ⟨Tells.no HN.out, HE.out⟩
          · obtain rfl : u = mm := by omega
            have hE : JoinP (ls.map setL) P := HJ.out.2 HU.out.1
            have HE := Lib.hid (And.intro hE (later_trans H0.out.2.2.1 HU.out.2))
            clear hE
            go_wp2_with fail
            go_ret
            exact ⟨Tells.yes HE.out.1, HE.out.2⟩
  · have hne1 : ((k : Int) != n) = true := by rw [bne_iff_ne]; omega
    have HNo := Lib.hid (fun hJ : JoinP (ls.map setL) P => hne (by have := hJ.len; rw [List.length_map, HL.out.1, HL.out.2] at this; exact this))
    go_wp2_with fail
    go_ret
    exact ⟨Tells.no HNo.out, H0.out.2.2.1⟩
end Go.Proofs.YtplidcbfbonjlaaDoor
