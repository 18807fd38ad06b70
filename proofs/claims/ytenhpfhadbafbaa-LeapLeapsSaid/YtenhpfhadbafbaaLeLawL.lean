/-
  The law LeapLeaps, walked.
-/
import Derived.Test.YtenhpfhadbafbaaLeLawM
import Derived.Test.YtenhpfhadbafbaaLeOpen
import Derived.Test.YtenhpfhadbafbaaLeRefLp
namespace Go.Proofs.Ytenhpfhadbafbaa
open Go.RowKit
set_option linter.unusedVariables false

/-- Places that may be, the first of them. -/
def GoodTo (ls : List (List Int)) (ps : List Int) (j : Nat) : Prop := ∀ r, r < j → 0 ≤ ps.getD r 0 ∧ ps.getD r 0 ≤ ((rowN ls r).length : Int)
theorem keyI_zero {ls : List (List Int)} {ps : List Int} (hM : MayAt ls ps) : KeyI ls (natsOf ps) 0 0 := by
  refine ⟨by rw [natsOf, List.length_map]; exact hM.1, fun r hr => ?_, .inl ⟨rfl, rfl⟩⟩
  rw [natsOf_at]
  have := hM.2 r hr
  omega
theorem looks_bound {ls : List (List Int)} {T n : Nat} (h0 : 0 < ls.length) (hT : ∀ j, j < ls.length → T ≤ ls.length * (2 * ((rowN ls j).length + 1))) (hn : n ≤ (2 + 2 * lg (1 + maxTo ls ls.length : Int)) * T) : n ≤ boundOf ls.length (minTo ls ls.length) (maxTo ls ls.length) := by
  obtain ⟨r, hr, er⟩ := minTo_is ls ls.length h0
  have := hT r hr
  rw [er]
  exact bound_ok this hn
theorem leapY_few {ls : List (List Int)} {ps : List Int} {ats : List Nat} {key : Int} {t : Nat} (hR : RowsOk ls) (hM : MayAt ls ps) (h : LeapY ls (natsOf ps) ats key t) : ∀ j, j < ls.length → t ≤ ls.length * (2 * ((rowN ls j).length + 1)) := fun j hj => by
  have h0 : atN (natsOf ps) 0 < (rowN ls 0).length := by
    have h1 := h.ge 0 hR.some
    have h2 := (h.at_ 0 hR.some).1
    omega
  have := (key_most (key_yes (keyI_zero hM) h hR.some hR.rise h0) j hj).2
  omega
theorem leapZ_few {ls : List (List Int)} {ps : List Int} {ats : List Nat} {t : Nat} (hR : RowsOk ls) (hM : MayAt ls ps) (h : LeapZ ls (natsOf ps) ats t) : ∀ j, j < ls.length → t ≤ ls.length * (2 * ((rowN ls j).length + 1)) := fun j hj => by
  have := key_no (keyI_zero hM) h hR.some (hR.rise 0 hR.some) (fun h => by omega) j hj
  omega
/-- What the law asks of one round of it, said of Leap's answer: its value, looks, error; and of the document's. -/
structure Answer (ls : List (List Int)) (ps : List Int) (got : List Int) (n : Nat) (e : Int) : Prop where
  wrong : okB ls = false → got = [] ∧ n = 0 ∧ e = 330
  notAt : okB ls = true → ¬ MayAt ls ps → got = [] ∧ n = 0 ∧ e = 2
  right : okB ls = true → MayAt ls ps → n ≤ boundOf ls.length (minTo ls ls.length) (maxTo ls ls.length) ∧
    ((e = 4 ∧ got = [] ∧ ∀ k, ¬ ∀ r, r < ls.length → k ∈ (rowN ls r).drop (atN (natsOf ps) r)) ∨
     (e = 0 ∧ ∃ key, (∀ r, r < ls.length → key ∈ (rowN ls r).drop (atN (natsOf ps) r)) ∧ (∀ k, (∀ r, r < ls.length → k ∈ (rowN ls r).drop (atN (natsOf ps) r)) → key ≤ k) ∧ got = ((List.range ls.length).map (fun r => posN ls key r)).map (fun (n : Nat) => (n : Int))))
theorem natCells (l : List Nat) : l.map (fun (n : Nat) => Value.int .i64 (n : Int)) = (l.map (fun (n : Nat) => (n : Int))).map (Value.int .i64) := by rw [List.map_map]; rfl
theorem natWf {l : List Nat} {B : Nat} (hB : B ≤ 9223372036854775807) (h : ∀ n ∈ l, n ≤ B) : ∀ x ∈ l.map (fun (n : Nat) => (n : Int)), (Lit.int .i64 x).wf = true := fun x hx => by
  obtain ⟨n, hn, rfl⟩ := List.mem_map.1 hx
  have := h n hn
  have h2 : -9223372036854775808 ≤ (n : Int) ∧ (n : Int) ≤ 9223372036854775807 := ⟨by omega, by omega⟩
  simpa [Lit.wf, IntKind.min, IntKind.max, IntKind.wrap, IntKind.signed, IntKind.bits] using h2

/-- Leap, all its answers at once. -/
theorem leapL_any (v u : Value) (ls : List (List Int)) (ps : List Int) (w : World) (h : SlR w v ls) (hu : SlI .i64 w u ps) (hS : ∀ r, r < ls.length → (rowN ls r).length ≤ 1000) :
    Calls Try.prog 11 #[v, u] w fun e w' => ∃ (g : Value) (got : List Int) (n : Nat) (er : Int), e = .returned (.tuple #[g, .int .i64 n, .int .i64 er]) ∧ SlI .i64 w' g got ∧ Below w.heap.size w w' ∧ Answer ls ps got n er := by
  have hN := slR_nat h
  refine (Leap_any v u ls ps w h hu hS hN).mono ?_
  rintro e w' ⟨hb, (⟨hk, rfl⟩ | ⟨hk, hM, rfl⟩ | ⟨hk, hM, ats, t, n, hn, (⟨hZ, rfl⟩ | ⟨key, g, c, hY, rfl, ho⟩)⟩)⟩
  · exact ⟨_, [], 0, 330, rfl, SlI.nil _ _, hb, fun _ => ⟨rfl, rfl, rfl⟩, fun e => (by rw [hk] at e; cases e), fun e => (by rw [hk] at e; cases e)⟩
  · exact ⟨_, [], 0, 2, rfl, SlI.nil _ _, hb, fun e => (by rw [hk] at e; cases e), fun _ _ => ⟨rfl, rfl, rfl⟩, fun _ e => absurd e hM⟩
  · have hR := rowsOk_of hk hS hN
    exact ⟨_, [], n, 4, rfl, SlI.nil _ _, hb, fun e => (by rw [hk] at e; cases e), fun _ e => absurd hM e, fun _ _ => ⟨looks_bound hR.some (leapZ_few hR hM hZ) hn, .inl ⟨rfl, rfl, hZ.none⟩⟩⟩
  · have hR := rowsOk_of hk hS hN
    have hat := leapY_told hY hR.rise
    rw [natCells] at ho
    refine ⟨_, ats.map (fun (n : Nat) => (n : Int)), n, 0, rfl, SlI.of_owns ho (natWf (B := 1000) (by omega) fun m hm => ?_), hb, fun e => (by rw [hk] at e; cases e), fun _ e => absurd hM e, fun _ _ => ⟨looks_bound hR.some (leapY_few hR hM hY) hn, .inr ⟨rfl, key, leapY_on hY, hY.low, by rw [hat]⟩⟩⟩
    obtain ⟨r, hr, rfl⟩ := List.getElem_of_mem hm
    have h1 := (hY.at_ r (by rw [← hY.n]; exact hr)).1
    have h2 := hS r (by rw [← hY.n]; exact hr)
    have : atN ats r = ats[r] := by simp [atN, List.getD, List.getElem?_eq_getElem hr]
    omega
/-- The document's Leap, all its answers at once. -/
theorem refLeapL_any (v u : Value) (ls : List (List Int)) (ps : List Int) (w : World) (h : SlR w v ls) (hu : SlI .i64 w u ps) (hS : ∀ r, r < ls.length → (rowN ls r).length ≤ 1000) (hk : okB ls = true) (hM : MayAt ls ps) {got : List Int} {n : Nat} {er : Int} (hA : Answer ls ps got n er) :
    Calls Try.prog 12 #[v, u] w fun e w' => ∃ (a : Option Addr) (l c : Nat), e = .returned (.slice a l c) ∧ SlI .i64 w' (.slice a l c) got ∧ Below w.heap.size w w' ∧ ((a = none ∧ l = 0 ∧ c = 0 ∧ er = 4) ∨ (∃ g, a = some ⟨g, 0, none⟩ ∧ er = 0)) := by
  have hR := rowsOk_of hk hS (slR_nat h)
  refine (refLeap_any v u ls ps w h hu hR hM).mono ?_
  rintro e w' ⟨hb, (⟨hno, rfl⟩ | ⟨key, g, c, hon, hlow, rfl, ho⟩)⟩
  · rcases (hA.right hk hM).2 with ⟨he, hg, _⟩ | ⟨_, key, hon, _⟩
    · subst hg
      exact ⟨none, 0, 0, rfl, SlI.nil _ _, hb, .inl ⟨rfl, rfl, rfl, he⟩⟩
    · exact absurd hon (hno key)
  · rcases (hA.right hk hM).2 with ⟨he, hg, hno⟩ | ⟨he, key', hon', hlow', hg⟩
    · exact absurd hon (hno key)
    · have e1 := hlow key' hon'
      have e2 := hlow' key hon
      obtain rfl : key' = key := by omega
      rw [natCells, ← hg] at ho
      refine ⟨_, _, _, rfl, SlI.of_owns ho ?_, hb, .inr ⟨g, rfl, he⟩⟩
      rw [hg]
      refine natWf (B := 1000) (by omega) fun m hm => ?_
      obtain ⟨r, hr, rfl⟩ := List.mem_map.1 hm
      have hr' := List.mem_range.1 hr
      have h1 : posN ls key' r < (rowN ls r).length := List.idxOf_lt_length_iff.2 (List.mem_of_mem_drop (hon r hr'))
      have h2 := hS r hr'
      omega

set_option maxRecDepth 100000 in
set_option maxHeartbeats 16000000 in
theorem lawLeaps_walk (vx vp : Value) (xs pls : List (List Int)) (w : World) (hx : SlR w vx xs) (hp : SlRK .i64 w vp pls) :
    Calls Try.prog 3 #[vx, vp] w fun e w' => e = .returned (.bool true) ∧ Below w.heap.size w w' := by
  obtain ⟨ax, cx, rfl, -⟩ := hx.open
  obtain ⟨ap, cp, rfl, p1, p2, p3, p4⟩ := hp.open
  have HX := Lib.hid hx
  have HP := Lib.hid p4
  have hpl : pls.length ≤ 9223372036854775807 := by omega
  clear hx hp p1 p2 p3 p4
  go_enter Try.func3, Try.ntmps3
  go_wp2_with fail
  refine (wakes_any _).mono ?_
  rintro e w1 ⟨rfl, hb1⟩
  have hx1 := HX.out.later hb1
  go_wp2_with fail
  refine (own_any _ _ _ hx1).mono ?_
  rintro e w2 ⟨v2, ps, rfl, hO2, hp2, hb2⟩
  have hb2 := later_trans hb1 hb2
  obtain ⟨ms, hms⟩ : ∃ ms, ownOf xs = ms := ⟨_, rfl⟩
  have hml6 : ms.length ≤ 6 := by rw [← hms]; exact ownOf_len _
  have h40 : ∀ r, r < ms.length → (rowN ms r).length ≤ 40 := by rw [← hms]; exact own_short xs
  have h1000 : ∀ r, r < ms.length → (rowN ms r).length ≤ 1000 := fun r hr => Nat.le_trans (h40 r hr) (by omega)
  have hR2 := hO2.slR
  rw [hp2, hms] at hR2
  obtain ⟨a2, c2, rfl, -, -, -, r4⟩ := hR2.open
  have HR2 := Lib.hid (And.intro hR2 r4)
  have HB2 := Lib.hid hb2
  have HMS := Lib.hid (And.intro h40 (And.intro h1000 hms))
  obtain ⟨q, hq⟩ : ∃ q, okB ms = q := ⟨_, rfl⟩
  have hRt := right_any _ _ w2 hR2
  rw [hq] at hRt
  clear hO2 hp2 hb1 hx1 hR2 r4 hb2 hms h40 h1000
  go_wp2_with fail
  refine hRt.mono ?_
  rintro e w3 ⟨rfl, rfl⟩
  clear hRt
  go_wp2_with fail
  go_loopw [25] (fun k wr => ∃ i : Nat, i ≤ pls.length ∧ i ≤ 8 ∧ k = .int .i64 i ∧ Below w3.heap.size w3 wr) (fun k _ => pls.length - (intOf k).toNat)
  case atStart => exact ⟨0, Nat.zero_le _, by omega, rfl, later_refl w3⟩
  case round =>
    obtain ⟨i, hi, hi8, rfl, hb⟩ := hrel
    by_cases hlt : i < pls.length
    · obtain ⟨b1, o1, rfl, hb1w, hc1⟩ := HP.out (by omega)
      obtain ⟨rv, c1, hrv⟩ := hc1 i hlt
      have hbw := later_trans HB2.out hb
      have c1 := ((bcell hbw).1 b1 (o1 + i) hb1w).trans c1
      have hrv := hrv.later hbw
      obtain ⟨a6, c6, rfl, s1, s2, s3, s4⟩ := hrv.open
      by_cases h8 : i = 8
      · have h8I : ((i : Int) == 8) = true := by rw [beq_iff_eq]; omega
        clear h8 hc1 hrv s1 s2 s3 s4 hbw
        have hbw := later_trans HB2.out hb
        have hX9 := HX.out.later hbw
        have hR9 := HR2.out.1.later hb
        clear hb
        go_wp2_with first
          | (go_at_call 8; refine (own_any _ _ _ hX9).mono ?_; rintro e w13 ⟨v13, ps13, rfl, hO13, hp13, hb13⟩
             have hR13 := hR9.later hb13
             have hQ13 := hO13.slR
             rw [hp13, HMS.out.2.2] at hQ13
             have hB13 := later_trans hbw hb13
             clear hO13 hp13 hb13
             obtain ⟨a13, c13, rfl, -⟩ := hQ13.open)
          | (go_at_call 15; refine (same_any _ _ _ _ _ hR13 hQ13).mono ?_; rw [decide_eq_true rfl]; rintro e w14 ⟨rfl, n14, hw14⟩
             have hB14 : Below w.heap.size w w14 := (by rw [hw14]; exact later_trans hB13 (later_drewN _ _))
             clear hw14 hR13 hQ13 hB13)
          | fail
        go_ret
        exact ⟨rfl, hB14⟩
      · have h8I : ((i : Int) == 8) = false := by rw [beq_eq_false_iff_ne]; omega
        have h8b : i < 8 := by omega
        obtain ⟨pl, hpl'⟩ : ∃ pl, rowN pls i = pl := ⟨_, rfl⟩
        rw [hpl'] at hrv s1 c1
        obtain ⟨m, hm⟩ : ∃ m, min pl.length 8 = m := ⟨_, rfl⟩
        have hmin : Value.int .i64 (if (8 : Int) < pl.length then (8 : Int) else (pl.length : Int)) = .int .i64 (m : Int) := by rw [show (if (8 : Int) < pl.length then (8 : Int) else (pl.length : Int)) = (m : Int) from by split <;> omega]
        have hmc : m ≤ c6 := by omega
        have hml : m ≤ pl.length := by omega
        have hm8 : m ≤ 8 := by omega
        have hcut := hrv.cut2 hml
        obtain ⟨pm, hpm⟩ : ∃ pm, pl.take m = pm := ⟨_, rfl⟩
        rw [hpm] at hcut
        have hpml : pm.length = m := by rw [← hpm, List.length_take]; omega
        have HCL := Lib.hid (cloneI_any _ _ wr hcut (by omega))
        have HCUT := Lib.hid hcut
        have HB := Lib.hid hb
        have hwfp := hcut.2
        have HPM := Lib.hid (And.intro hpml hwfp)
        have hsz := hb.size
        clear hc1 hrv s1 s2 s3 s4 hm hcut hpm hpl' hbw hb hwfp h8
        cases q with
        | false =>
          go_wp2_with first
            | (go_at_call 10; (try simp only [hmin]); refine HCL.out.mono ?_; rintro e w4 ⟨v4, rfl, ho4, hb4⟩; rw [HPM.out.1] at ho4; obtain ⟨a4, c4, rfl⟩ := owns_shape2 ho4
               have hA4 := SlI.of_owns ho4 HPM.out.2
               have HB4 := Lib.hid (later_trans HB.out hb4)
               have hQ4 := HCUT.out.later hb4
               have HL := Lib.hid (leapL_any _ _ _ _ w4 (HR2.out.1.later HB4.out) hA4 HMS.out.2.1)
               have HA4 := Lib.hid hA4
               have HQ4 := Lib.hid hQ4
               clear ho4 hb4 hA4 hQ4)
            | (go_at_call 11; refine HL.out.mono ?_; rintro e w5 ⟨v5, got, n5, er, rfl, hG5, hb5, hAns⟩
               have hA := hAns.wrong hq; obtain ⟨rfl, rfl, rfl⟩ := hA; clear hAns
               have HB5 := Lib.hid (later_trans HB4.out hb5)
               have HA5 := Lib.hid (HA4.out.later hb5)
               have HQ5 := Lib.hid (HQ4.out.later hb5)
               have HG5 := Lib.hid hG5
               obtain ⟨a5, c5, rfl, -⟩ := hG5.open
               clear hb5 hG5)
            | fail
          refine (equalI_any _ _ _ _ _ HG5.out (SlI.nil _ _)).mono ?_
          rw [decide_eq_true rfl]
          rintro e w8 ⟨rfl, n8, hw8⟩
          have hb8 : Below w5.heap.size w5 w8 := by rw [hw8]; exact later_drewN _ _
          clear hw8
          have HB8 := Lib.hid (later_trans HB5.out hb8)
          have HA8 := Lib.hid (HA5.out.later hb8)
          have HQ8 := Lib.hid (HQ5.out.later hb8)
          clear hb8
          go_wp2_with fail
          refine (equalI_any _ _ _ _ _ HA8.out HQ8.out).mono ?_
          rw [decide_eq_true rfl]
          rintro e w9 ⟨rfl, n9, hw9⟩
          have hb9 : Below w8.heap.size w8 w9 := by rw [hw9]; exact later_drewN _ _
          clear hw9
          have HB9 := Lib.hid (later_trans HB8.out hb9)
          clear hb9
          go_wp2_with fail
          go_roundw
          case rel => exact ⟨i + 1, by omega, by omega, by go_num, HB9.out⟩
          case measure => simp [intOf]; omega
        | true =>
          by_cases hmne : m = ms.length
          · subst hmne
            go_wp2_with first
              | (go_at_call 10; (try simp only [hmin]); refine HCL.out.mono ?_; rintro e w4 ⟨v4, rfl, ho4, hb4⟩; rw [HPM.out.1] at ho4; obtain ⟨a4, c4, rfl⟩ := owns_shape2 ho4
                 have hA4 := SlI.of_owns ho4 HPM.out.2
                 have HB4 := Lib.hid (later_trans HB.out hb4)
                 have hQ4 := HCUT.out.later hb4
                 have HL := Lib.hid (leapL_any _ _ _ _ w4 (HR2.out.1.later HB4.out) hA4 HMS.out.2.1)
                 have HA4 := Lib.hid hA4
                 have HQ4 := Lib.hid hQ4
                 clear ho4 hb4 hA4 hQ4)
              | (go_at_call 11; refine HL.out.mono ?_; rintro e w5 ⟨v5, got, n5, er, rfl, hG5, hb5, hAns⟩
                 have HAns := Lib.hid hAns; clear hAns
                 have HB5 := Lib.hid (later_trans HB4.out hb5)
                 have HA5 := Lib.hid (HA4.out.later hb5)
                 have HQ5 := Lib.hid (HQ4.out.later hb5)
                 have HG5 := Lib.hid hG5
                 obtain ⟨a5, c5, rfl, -⟩ := hG5.open
                 clear hb5 hG5)
              | fail
            
            go_loopw [14, 53] (fun no k wr' => ∃ j : Nat, j ≤ ms.length ∧ k = .int .i64 j ∧ wr' = w5 ∧ ((no = .int .i64 0 ∧ GoodTo ms pm j) ∨ (no = .int .i64 2 ∧ ¬ GoodTo ms pm j))) (fun _ k _ => ms.length - (intOf k).toNat)
            case atStart => exact ⟨0, Nat.zero_le _, rfl, rfl, .inl ⟨rfl, fun r h => by omega⟩⟩
            case round =>
              obtain ⟨j, hj, rfl, rfl, hno⟩ := hrel
              by_cases hjl : j < ms.length
              · have hjp : j < pm.length := by have := HPM.out.1; omega
                have hA5o := HA5.out.open
                obtain ⟨a9, c9, e9, -, -, -, l4⟩ := hA5o
                rw [HPM.out.1] at e9
                cases e9
                obtain ⟨b8, o8, rfl, -, hc8⟩ := l4 (by omega)
                have c8 := hc8 j hjp
                obtain ⟨x, hx⟩ : ∃ x, pm[j] = x := ⟨_, rfl⟩
                rw [hx] at c8
                have hxd : pm.getD j 0 = x := by rw [getD_at hjp, hx]
                obtain ⟨b9, o9, rfl, hb9w, hc9⟩ := HR2.out.2 (by omega)
                obtain ⟨rv9, c9', hrv9⟩ := hc9 j hjl
                have c9' := ((bcell HB5.out).1 b9 (o9 + j) hb9w).trans c9'
                obtain ⟨a10, c10, rfl, t1, -, -, -⟩ := hrv9.open
                obtain ⟨lr, hlr⟩ : ∃ lr, (rowN ms j).length = lr := ⟨_, rfl⟩
                rw [hlr] at c9' t1
                have hlr40 : lr ≤ 40 := by rw [← hlr]; exact HMS.out.1 j hjl
                have HXD := Lib.hid (And.intro hxd hlr)
                have hjI : (j : Int) < ms.length := by omega
                clear l4 hc8 hx hxd hc9 hrv9 hlr
                have hgood : (0 ≤ x ∧ x ≤ (lr : Int)) → GoodTo ms pm j → GoodTo ms pm (j + 1) := fun hx hg r hr => by
                  by_cases e : r = j
                  · subst e; rw [HXD.out.1, HXD.out.2]; exact hx
                  · exact hg r (by omega)
                have hbad : ¬ (0 ≤ x ∧ x ≤ (lr : Int)) → ¬ GoodTo ms pm (j + 1) := fun hx hg => hx (by have := hg j (by omega); rwa [HXD.out.1, HXD.out.2] at this)
                have hkeep : ¬ GoodTo ms pm j → ¬ GoodTo ms pm (j + 1) := fun hx hg => hx fun r hr => hg r (by omega)
                have HG := Lib.hid (And.intro hgood (And.intro hbad hkeep))
                clear hgood hbad hkeep
                by_cases hx0 : x < 0
                · go_wp2_with fail
                  go_roundw
                  case rel => exact ⟨j + 1, by omega, by go_num, by first | rfl | trivial, .inr ⟨rfl, HG.out.2.1 (by omega)⟩⟩
                  case measure => simp [intOf]; omega
                · by_cases hx1 : (lr : Int) < x
                  · go_wp2_with fail
                    go_roundw
                    case rel => exact ⟨j + 1, by omega, by go_num, by first | rfl | trivial, .inr ⟨rfl, HG.out.2.1 (by omega)⟩⟩
                    case measure => simp [intOf]; omega
                  · rcases hno with ⟨rfl, hg⟩ | ⟨rfl, hg⟩
                    · go_wp2_with fail
                      go_roundw
                      case rel => exact ⟨j + 1, by omega, by go_num, by first | rfl | trivial, .inl ⟨rfl, HG.out.1 ⟨by omega, by omega⟩ hg⟩⟩
                      case measure => simp [intOf]; omega
                    · go_wp2_with fail
                      go_roundw
                      case rel => exact ⟨j + 1, by omega, by go_num, by first | rfl | trivial, .inr ⟨rfl, HG.out.2.2 hg⟩⟩
                      case measure => simp [intOf]; omega
              · obtain rfl : j = ms.length := by omega
                rcases hno with ⟨rfl, hg⟩ | ⟨rfl, hg⟩
                · have hM : MayAt ms pm := ⟨HPM.out.1, hg⟩
                  have hle := (HAns.out.right hq hM).1
                  have hk := okB_iff.1 hq
                  have h00 : 0 < ms.length := by omega
                  have hR5 := HR2.out.1.later HB5.out
                  have hRL := Lib.hid (refLeapL_any _ _ _ _ wr hR5 HA5.out HMS.out.2.1 hq hM HAns.out)
                  have he := fun w a n c n' c' => Lib.run_eql_slice_nil (P := Try.prog) w 27 3 a n c n' c' Try.underlying27
                  have HR5 := Lib.hid hR5
                  have hbf := boundOf_fits (k := ms.length) (s := minTo ms ms.length) (m := maxTo ms ms.length) (by omega) (minTo_most HMS.out.2.1 (by omega) ms.length (Nat.le_refl _)) (maxTo_le HMS.out.2.1 (by omega) ms.length (Nat.le_refl _))
                  obtain ⟨bd, hbd⟩ : ∃ bd, boundOf ms.length (minTo ms ms.length) (maxTo ms ms.length) = bd := ⟨_, rfl⟩
                  have HBD := Lib.hid hbd
                  rw [hbd] at hle hbf
                  have hleI : ((bd : Int) < n5) = False := eq_false (by omega)
                  have hleJ : (bd < n5) = False := eq_false (by omega)
                  have HGM := Lib.hid (And.intro hg hM)
                  clear hk hbd hR5 hg hM
                  go_wp2_with fail
                  refine hRL.out.mono ?_
                  rintro e w6 ⟨wa, wl, wc, rfl, hW6, hb6, hcase⟩
                  have HB6 := Lib.hid (later_trans HB5.out hb6)
                  have HA6 := Lib.hid (HA5.out.later hb6)
                  have HQ6 := Lib.hid (HQ5.out.later hb6)
                  have HG6 := Lib.hid (HG5.out.later hb6)
                  have HW6 := Lib.hid hW6
                  have HR6 := Lib.hid (HR5.out.later hb6)
                  clear hb6 hW6 hRL
                  rcases hcase with ⟨rfl, rfl, rfl, rfl⟩ | ⟨g6, rfl, rfl⟩
                  · go_wp2_with fail
                    refine (refBound_any _ _ _ HR6.out HMS.out.2.1 h00 (by omega)).mono ?_
                    rw [HBD.out]
                    rintro e w7 ⟨rfl, hw7⟩
                    rw [hw7]
                    clear hw7
                    go_wp2_with fail
                    refine (equalI_any _ _ _ _ _ HG6.out HW6.out).mono ?_
                    rw [decide_eq_true rfl]
                    rintro e w8 ⟨rfl, n8, hw8⟩
                    have hb8 : Below w6.heap.size w6 w8 := by rw [hw8]; exact later_drewN _ _
                    clear hw8
                    have HB8 := Lib.hid (later_trans HB6.out hb8)
                    have HA8 := Lib.hid (HA6.out.later hb8)
                    have HQ8 := Lib.hid (HQ6.out.later hb8)
                    clear hb8
                    go_wp2_with fail
                    refine (equalI_any _ _ _ _ _ HA8.out HQ8.out).mono ?_
                    rw [decide_eq_true rfl]
                    rintro e w9 ⟨rfl, n9, hw9⟩
                    have hb9 : Below w8.heap.size w8 w9 := by rw [hw9]; exact later_drewN _ _
                    clear hw9
                    have HB9 := Lib.hid (later_trans HB8.out hb9)
                    clear hb9
                    go_wp2_with fail
                    go_roundw
                    case rel => exact ⟨i + 1, by omega, by omega, by go_num, HB9.out⟩
                    case measure => simp [intOf]; omega
                  · go_wp2_with fail
                    refine (refBound_any _ _ _ HR6.out HMS.out.2.1 h00 (by omega)).mono ?_
                    rw [HBD.out]
                    rintro e w7 ⟨rfl, hw7⟩
                    rw [hw7]
                    clear hw7
                    go_wp2_with fail
                    refine (equalI_any _ _ _ _ _ HG6.out HW6.out).mono ?_
                    rw [decide_eq_true rfl]
                    rintro e w8 ⟨rfl, n8, hw8⟩
                    have hb8 : Below w6.heap.size w6 w8 := by rw [hw8]; exact later_drewN _ _
                    clear hw8
                    have HB8 := Lib.hid (later_trans HB6.out hb8)
                    have HA8 := Lib.hid (HA6.out.later hb8)
                    have HQ8 := Lib.hid (HQ6.out.later hb8)
                    clear hb8
                    go_wp2_with fail
                    refine (equalI_any _ _ _ _ _ HA8.out HQ8.out).mono ?_
                    rw [decide_eq_true rfl]
                    rintro e w9 ⟨rfl, n9, hw9⟩
                    have hb9 : Below w8.heap.size w8 w9 := by rw [hw9]; exact later_drewN _ _
                    clear hw9
                    have HB9 := Lib.hid (later_trans HB8.out hb9)
                    clear hb9
                    go_wp2_with fail
                    go_roundw
                    case rel => exact ⟨i + 1, by omega, by omega, by go_num, HB9.out⟩
                    case measure => simp [intOf]; omega
                · have hA := HAns.out.notAt hq (fun e => hg e.2)
                  obtain ⟨rfl, rfl, rfl⟩ := hA
                  go_wp2_with fail
                  refine (equalI_any _ _ _ _ _ HG5.out (SlI.nil _ _)).mono ?_
                  rw [decide_eq_true rfl]
                  rintro e w8 ⟨rfl, n8, hw8⟩
                  have hb8 : Below wr.heap.size wr w8 := by rw [hw8]; exact later_drewN _ _
                  clear hw8
                  have HB8 := Lib.hid (later_trans HB5.out hb8)
                  have HA8 := Lib.hid (HA5.out.later hb8)
                  have HQ8 := Lib.hid (HQ5.out.later hb8)
                  clear hb8
                  go_wp2_with fail
                  refine (equalI_any _ _ _ _ _ HA8.out HQ8.out).mono ?_
                  rw [decide_eq_true rfl]
                  rintro e w9 ⟨rfl, n9, hw9⟩
                  have hb9 : Below w8.heap.size w8 w9 := by rw [hw9]; exact later_drewN _ _
                  clear hw9
                  have HB9 := Lib.hid (later_trans HB8.out hb9)
                  clear hb9
                  go_wp2_with fail
                  go_roundw
                  case rel => exact ⟨i + 1, by omega, by omega, by go_num, HB9.out⟩
                  case measure => simp [intOf]; omega
          · have hme1 : ((m : Int) == ms.length) = false := by rw [beq_eq_false_iff_ne]; omega
            go_wp2_with first
              | (go_at_call 10; (try simp only [hmin]); refine HCL.out.mono ?_; rintro e w4 ⟨v4, rfl, ho4, hb4⟩; rw [HPM.out.1] at ho4; obtain ⟨a4, c4, rfl⟩ := owns_shape2 ho4
                 have hA4 := SlI.of_owns ho4 HPM.out.2
                 have HB4 := Lib.hid (later_trans HB.out hb4)
                 have hQ4 := HCUT.out.later hb4
                 have HL := Lib.hid (leapL_any _ _ _ _ w4 (HR2.out.1.later HB4.out) hA4 HMS.out.2.1)
                 have HA4 := Lib.hid hA4
                 have HQ4 := Lib.hid hQ4
                 clear ho4 hb4 hA4 hQ4)
              | (go_at_call 11; refine HL.out.mono ?_; rintro e w5 ⟨v5, got, n5, er, rfl, hG5, hb5, hAns⟩
                 have hA := hAns.notAt hq (fun e => hmne (HPM.out.1.symm.trans e.1)); obtain ⟨rfl, rfl, rfl⟩ := hA; clear hAns
                 have HB5 := Lib.hid (later_trans HB4.out hb5)
                 have HA5 := Lib.hid (HA4.out.later hb5)
                 have HQ5 := Lib.hid (HQ4.out.later hb5)
                 have HG5 := Lib.hid hG5
                 obtain ⟨a5, c5, rfl, -⟩ := hG5.open
                 clear hb5 hG5)
              | fail
            refine (equalI_any _ _ _ _ _ HG5.out (SlI.nil _ _)).mono ?_
            rw [decide_eq_true rfl]
            rintro e w8 ⟨rfl, n8, hw8⟩
            have hb8 : Below w5.heap.size w5 w8 := by rw [hw8]; exact later_drewN _ _
            clear hw8
            have HB8 := Lib.hid (later_trans HB5.out hb8)
            have HA8 := Lib.hid (HA5.out.later hb8)
            have HQ8 := Lib.hid (HQ5.out.later hb8)
            clear hb8
            go_wp2_with fail
            refine (equalI_any _ _ _ _ _ HA8.out HQ8.out).mono ?_
            rw [decide_eq_true rfl]
            rintro e w9 ⟨rfl, n9, hw9⟩
            have hb9 : Below w8.heap.size w8 w9 := by rw [hw9]; exact later_drewN _ _
            clear hw9
            have HB9 := Lib.hid (later_trans HB8.out hb9)
            clear hb9
            go_wp2_with fail
            go_roundw
            case rel => exact ⟨i + 1, by omega, by omega, by go_num, HB9.out⟩
            case measure => simp [intOf]; omega
    · obtain rfl : i = pls.length := by omega
      have hbw := later_trans HB2.out hb
      have hX9 := HX.out.later hbw
      have hR9 := HR2.out.1.later hb
      clear hb
      go_wp2_with first
        | (go_at_call 8; refine (own_any _ _ _ hX9).mono ?_; rintro e w13 ⟨v13, ps13, rfl, hO13, hp13, hb13⟩
           have hR13 := hR9.later hb13
           have hQ13 := hO13.slR
           rw [hp13, HMS.out.2.2] at hQ13
           have hB13 := later_trans hbw hb13
           clear hO13 hp13 hb13
           obtain ⟨a13, c13, rfl, -⟩ := hQ13.open)
        | (go_at_call 15; refine (same_any _ _ _ _ _ hR13 hQ13).mono ?_; rw [decide_eq_true rfl]; rintro e w14 ⟨rfl, n14, hw14⟩
           have hB14 : Below w.heap.size w w14 := (by rw [hw14]; exact later_trans hB13 (later_drewN _ _))
           clear hw14 hR13 hQ13 hB13)
        | fail
      go_ret
      exact ⟨rfl, hB14⟩
end Go.Proofs.Ytenhpfhadbafbaa
