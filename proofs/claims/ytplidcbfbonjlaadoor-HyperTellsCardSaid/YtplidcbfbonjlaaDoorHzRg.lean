/-
  The document's Left, walked. (Printed by mkhzrg.py.)
-/
import Derived.Deep.RegionHeld3
import Derived.Deep.DeepCutAuto
import Derived.Deep.LoopGhost
import Derived.Test.YtplidcbfbonjlaaDoorHzRe
import Derived.Test.YtplidcbfbonjlaaDoorHzRf
namespace Go.Proofs.YtplidcbfbonjlaaDoor
open Go.RowKit Go.Shelf Go.Lib
set_option linter.unusedVariables false
set_option linter.unusedSimpArgs false

theorem owns_at {w : World} {base n c : Nat} {e : TypeId} {a : Option Addr} {xs : List Value} (h : w.ownsRow base e 1 (.slice a n c) n xs) {j : Nat} (hj : j < xs.length) : ∃ g, a = some ⟨g, 0, none⟩ ∧ w.cell? ⟨g, j, none⟩ = some xs[j] := by
  rcases id h.2 with ⟨e1, e2⟩ | ⟨g, cap, cur, e1, -⟩
  · have := h.1
    omega
  · injection e1 with e1a e1b e1c
    subst e1a e1c
    exact ⟨g, rfl, (owns_cell h (by simp [hj])).1⟩
/-- The edges while they are reduced. -/
def RedL (E : List Nat) (k : Nat) (p q : Value) (wr : World) : Prop := ∃ ls' b, q = .bool b ∧ SlRK .i64 wr p ls' ∧ RedQ E ls' ∧ (b = false → Stuck ls' ls'.length) ∧ sizeR ls' + (if b = true then 1 else 0) ≤ k
theorem RedL.of {E : List Nat} {ls ls' : List (List Int)} {p : Value} {b : Bool} {w w' : World} (hq : RedQ E ls) (h : SlRK .i64 w' p ls') (hs : StepP ls ls' b) : RedL E (sizeR ls' + (if b = true then 1 else 0)) p (.bool b) w' ∧ sizeR ls' + (if b = true then 1 else 0) < sizeR ls + 1 := by
  cases b with
  | true =>
    obtain ⟨h1, h2⟩ := hq.next hs
    exact ⟨⟨ls', true, rfl, h, h1, fun e => (by cases e), Nat.le_refl _⟩, by simp; omega⟩
  | false =>
    rcases hs with ⟨-, rfl, h1⟩ | ⟨h1, -⟩
    · exact ⟨⟨ls', false, rfl, h, hq, fun _ => h1, Nat.le_refl _⟩, by simp⟩
    · cases h1
/-- The rows put in order so far, in memory. -/
structure OutI (wE : World) (ls : List (List Int)) (i : Nat) (out : Value) (wr : World) (os : List Value) (ol : List (List Int)) : Prop where
  own : wr.ownsRow wE.heap.size 27 1 out os.length os
  len : os.length = ol.length
  rows : ∀ j, j < ol.length → SlI .i64 wE (os.getD j undef) (rowN ol j)
  put : PutI ls i ol
  bel : Below wE.heap.size wE wr
set_option maxRecDepth 100000 in
set_option maxHeartbeats 8000000 in
theorem Left20_any (m : Int) (ev : Value) (ls : List (List Int)) (w : World) (h : SlRK .i64 w ev ls) (hy : hypB m ls = true) :
    Calls Tryd.prog 22 #[hypV m ev] w fun e w' => ∃ v' out, e = .returned v' ∧ SlRK .i64 w' v' out ∧ LeftR (ls.map setL) out ∧ Below w.heap.size w w' := by
  obtain ⟨i0, hi0, hz0, hz1, hz2⟩ := info_parts info_rowI
  obtain ⟨W0, hW0⟩ : ∃ W, W = w.alloc (.cells #[.int .i64 m, ev] 24) := ⟨_, rfl⟩
  have b0 : Below w.heap.size w W0 := by rw [hW0]; exact later_alloc _ _
  have bH : HB W0 w.heap.size m ev := by rw [hW0]; exact box_new _ _ _
  obtain ⟨ae, ce, rfl, -⟩ := h.open
  have hq0 := RedQ.start hy
  have hst := step_any (.slice ae ls.length ce) ls W0 (h.later b0) (by have := hq0.len; omega) (fun e he => Nat.le_trans (hq0.row he) (by decide))
  have HS := Lib.hid (And.intro hst (And.intro hq0 b0))
  obtain ⟨x0, x1, -, -, lX⟩ := two_of bH
  clear h b0 bH hst hq0 hy
  go_enter Tryd.func22, Tryd.ntmps22
  go_upto_region 1 with fail
  rw [← hW0]
  clear hW0
  go_wp2_with fail
  refine HS.out.1.mono ?_
  rintro e w1 ⟨v1, bb, l1, rfl, h1, hp1, hb1⟩
  clear x0 x1 lX
  have hR1 := (RedL.of (w := W0) HS.out.2.1 h1 hp1).1
  have H1 := Lib.hid (And.intro hR1 (later_trans HS.out.2.2 hb1))
  clear hR1 hb1 h1 hp1
  go_wp2_with fail
  go_loopg [3, 4] (sizeR l1 + (if bb = true then 1 else 0)) (fun k p q wr => RedL (ls.map setL) k p q wr ∧ Below w.heap.size w wr)
  case atStart => exact ⟨H1.out.1, H1.out.2⟩
  case round =>
    obtain ⟨⟨l2, b2, rfl, h2, hq2, hs2, hk2⟩, hb2⟩ := hrel
    cases b2 with
    | true =>
      have hst := step_any _ l2 wr h2 (by have := hq2.len; omega) (fun e he => Nat.le_trans (hq2.row he) (by decide))
      obtain ⟨a2, c2, rfl, -⟩ := h2.open
      have HS2 := Lib.hid (And.intro hst (And.intro hq2 (And.intro hb2 hk2)))
      clear hst h2 hq2 hs2 hk2 hb2
      go_wp2_with fail
      refine HS2.out.1.mono ?_
      rintro e w3 ⟨v3, b3, l3, rfl, h3, hp3, hb3⟩
      have hR3 := RedL.of (w := wr) HS2.out.2.1 h3 hp3
      have H3 := Lib.hid (And.intro hR3 (later_trans HS2.out.2.2.1 hb3))
      clear hR3 h3 hp3 hb3
      go_wp2_with fail
      go_roundg (sizeR l3 + (if b3 = true then 1 else 0))
      case measure => have := H3.out.1.2; have := HS2.out.2.2.2; simp at this; omega
      case rel => exact ⟨H3.out.1.1, H3.out.2⟩
    | false =>
      have hstk := hs2 rfl
      obtain ⟨wE, hwE⟩ : ∃ x, wr = x := ⟨_, rfl⟩
      obtain ⟨a2, c2, rfl, -⟩ := h2.open
      have hn40 := hq2.len
      obtain ⟨n, hn⟩ : ∃ n, l2.length = n := ⟨_, rfl⟩
      rw [hwE] at h2 hb2 ⊢
      have HE := Lib.hid (And.intro h2 (And.intro hq2 (And.intro hstk (And.intro hb2 (hq2.nodup hstk)))))
      have HN := Lib.hid hn
      rw [hn] at hn40 HE ⊢
      clear h2 hq2 hs2 hk2 hb2 hstk hwE hn
      go_wp2_with fail
      go_loopw [5, 23] (fun out x wr => ∃ (i : Nat) (os : List Value) (ol : List (List Int)), i ≤ n ∧ x = .int .i64 i ∧ OutI wE l2 i out wr os ol) (fun _ x _ => n - (intOf x).toNat)
      case atStart => exact ⟨0, [], [], Nat.zero_le _, rfl, ⟨World.ownsRow_nil _ _ _ _, rfl, fun j hj => absurd hj (Nat.not_lt_zero _), PutI.start _, Below.refl _ _⟩⟩
      case round =>
        obtain ⟨i, os, ol, hi, rfl, hO⟩ := hrel
        have hol := hO.put.len
        have hos := hO.len
        obtain ⟨ao, co, rfl⟩ := owns_shape2 hO.own
        by_cases hin : i < n
        · have hil : i < l2.length := by rw [HN.out]; exact hin
          obtain ⟨_, _, e1, _, _, _, f4⟩ := (HE.out.1.later hO.bel).open
          obtain ⟨b, o, e2, lb, fc⟩ := f4 (by omega)
          injection e1 with e1a e1b e1c
          subst e1a e1c
          subst e2
          obtain ⟨ri, ci, si⟩ := fc i hil
          have hri : SlI .i64 wE ri (rowN l2 i) := by
            obtain ⟨_, _, g1, _, _, _, g4⟩ := HE.out.1.open
            obtain ⟨b9, o9, g2, lb9, gc⟩ := g4 (by omega)
            injection g1 with g1a g1b g1c
            subst g2
            injection g1a with g1a
            injection g1a with g1a g1o
            subst g1a g1o
            obtain ⟨r9, c9, s9⟩ := gc i hil
            have := (cell_next hO.bel c9).symm.trans ci
            injection this with this
            subst this
            exact s9
          obtain ⟨r, hr⟩ : ∃ r, rowN l2 i = r := ⟨_, rfl⟩
          rw [hr] at hri
          obtain ⟨ar, cr, rfl, -⟩ := hri.open
          have hcap : os.length ≤ co ∧ co ≤ maxLen ∧ (ao = none → co = 0) := by
            obtain ⟨a', c', e, k1, k2, k3, -⟩ := SlC.of_owns hO.own
            injection e with e1 e2 e3
            subst e1 e3
            exact ⟨k1, k2, k3⟩
          have HCap := Lib.hid hcap
          have HI := Lib.hid (And.intro hO (And.intro hri (And.intro hr (And.intro hil (And.intro hol hos)))))
          have hov : os.length ≤ 40 := by omega
          have HBW := Lib.hid hO.bel.size
          clear hO hri hr fc f4 e1b hcap si hol hos hil
          go_wp2_with fail
          go_loop [8] (fun x => ∃ k : Nat, k ≤ os.length ∧ x = .int .i64 k ∧ ∀ j, j < k → lessB (rowN ol j) r = true) (fun x => os.length - (intOf x).toNat)
          case atStart => exact ⟨0, Nat.zero_le _, rfl, fun j hj => by omega⟩
          case round =>
            obtain ⟨k, hk, rfl, hlt⟩ := hrel
            have HL := Lib.hid hlt
            clear hlt
            have hone : ∀ u ∈ os, u.oneCell' = true := fun u hu => by
              obtain ⟨j, hj, rfl⟩ := List.getElem_of_mem hu
              have := HI.out.1.rows j (by have := HI.out.1.len; omega)
              rw [show os.getD j undef = os[j] by simp [List.getD, hj]] at this
              exact old_oneCell this
            have HOne1 := Lib.hid (fun (u : Value) (hu : u ∈ os.take k) => hone u (List.mem_of_mem_take hu))
            have HOne3 := Lib.hid (fun (u : Value) (hu : u ∈ os.drop k) => hone u (List.mem_of_mem_drop hu))
            have HOneN : Hid (∀ u ∈ ([] : List Value), u.oneCell' = true) := Lib.hid (fun u hu => by cases hu)
            have HLen : Hid ((os.take k).length = k) := Lib.hid (by rw [List.length_take]; omega)
            have HLen3 : Hid ((os.drop k).length = os.length - k) := Lib.hid List.length_drop
            have HLenN : Hid (([] : List Value).length = 0) := Lib.hid rfl
            have HT : Hid (∀ W, Below wr.heap.size wr W → SlC W (.slice ao k co) (os.take k)) := Lib.hid (fun W hb => ((SlC.of_owns HI.out.1.own).later hb).cut hk)
            have HD : Hid (∀ W, Below wr.heap.size wr W → SlC W (.slice ao os.length co) os) := Lib.hid (fun W hb => (SlC.of_owns HI.out.1.own).later hb)
            have HFin : Hid ((k < os.length → lessB (rowN ol k) r = false) → ∀ (v' : Value) (W : World), W.ownsRow wr.heap.size 27 1 v' (os.length + 1) (os.take k ++ [.slice ar r.length cr] ++ os.drop k) → Below wr.heap.size wr W → OutI wE l2 (i + 1) v' W (os.take k ++ [.slice ar r.length cr] ++ os.drop k) (ol.take k ++ [r] ++ ol.drop k)) := Lib.hid (fun h9 v' W ho hb => by
              have hl := HI.out.1.len
              obtain ⟨p1, p2⟩ := rows_put hl HI.out.1.rows (k := k) (by omega) HI.out.2.1
              have hlen9 : (os.take k ++ [Value.slice ar r.length cr] ++ os.drop k).length = os.length + 1 := by simp; omega
              refine ⟨by rw [hlen9]; exact owns_down ho HBW.out, p1, p2, ?_, later_trans HI.out.1.bel hb⟩
              have := HI.out.1.put.next HE.out.2.2.2.2 HI.out.2.2.2.1 (k := k) (by omega) (by rw [HI.out.2.2.1]; exact HL.out) (by rw [HI.out.2.2.1]; intro q; exact h9 (by omega))
              rw [HI.out.2.2.1] at this
              exact this)
            clear hone
            by_cases hkl : k < os.length
            · have hkI : (k : Int) < os.length := by omega
              obtain ⟨g, rfl, hcell⟩ := owns_at HI.out.1.own hkl
              have hko : k < ol.length := by have := HI.out.1.len; omega
              have hrow := (HI.out.1.rows k hko).later HI.out.1.bel
              rw [show os.getD k undef = os[k] by simp [List.getD, hkl]] at hrow
              obtain ⟨u, hu⟩ : ∃ u, os[k] = u := ⟨_, rfl⟩
              rw [hu] at hcell hrow
              have hle := less_any u _ (rowN ol k) r wr hrow (HI.out.2.1.later HI.out.1.bel)
              obtain ⟨au, cu, rfl, -⟩ := hrow.open
              obtain ⟨lb9, hlb⟩ : ∃ q, lessB (rowN ol k) r = q := ⟨_, rfl⟩
              rw [hlb] at hle
              have HLe := Lib.hid (And.intro hle hlb)
              clear hle hlb hu hrow hko
              go_wp2_with fail
              refine HLe.out.1.mono ?_
              rintro e w9 ⟨rfl, h9⟩
              rw [h9]
              clear h9 w9
              cases lb9 with
              | true =>
                go_wp2_with fail
                go_round
                case rel => exact ⟨k + 1, by omega, by go_num, fun j hj => by
                  by_cases e : j = k
                  · subst e; exact HLe.out.2
                  · exact HL.out j (by omega)⟩
                case measure => simp [intOf]; omega
              | false =>
                have hck : ¬ co = k := by have := HCap.out.1; omega
                have hkm2 := hk
                have hkc : k ≤ co := by have := HCap.out.1; omega
                have HF2 := Lib.hid (HFin.out fun _ => HLe.out.2)
                go_upto_region 11 with fail
                have HE1 : Hid ((wr.alloc (.cells #[] 27)).drew.ownsRow wr.heap.size 27 1 (.slice (some ⟨wr.heap.size, 0, none⟩) 0 0) 0 []) := Lib.hid (World.ownsRow_made wr #[] 0 (Nat.le_refl _) (Nat.zero_le _) rfl)
                have HE2 : Hid (((wr.alloc (.cells #[] 27)).alloc (.cells #[(.slice ar r.length cr)] 27)).drew.ownsRow wr.heap.size 27 1 (.slice (some ⟨wr.heap.size, 0, none⟩) 0 0) 0 []) := Lib.hid ((World.ownsRow_made wr #[] 0 (Nat.le_refl _) (Nat.zero_le _) rfl).alloc _)
                have HE3 : Hid (((wr.alloc (.cells #[(.slice ar r.length cr)] 27)).alloc (.cells #[] 27)).drew.ownsRow wr.heap.size 27 1 (.slice (some ⟨wr.heap.size + 1, 0, none⟩) 0 0) 0 []) := Lib.hid (by have h := World.ownsRow_made (base := wr.heap.size) (e := 27) (size := 1) (wr.alloc (.cells #[(.slice ar r.length cr)] 27)) #[] 0 (by simp) (Nat.zero_le _) rfl; rw [World.size_alloc] at h; exact h)
                have b01 : Below wr.heap.size wr (wr.alloc (.cells #[] 27)).drew := later_trans (later_alloc _ _) (later_drew _)
                have b02 : Below wr.heap.size wr ((wr.alloc (.cells #[] 27)).alloc (.cells #[(.slice ar r.length cr)] 27)).drew := later_trans (later_trans (later_alloc _ _) (later_alloc _ _)) (later_drew _)
                have b03 : Below wr.heap.size wr ((wr.alloc (.cells #[(.slice ar r.length cr)] 27)).alloc (.cells #[] 27)).drew := later_trans (later_trans (later_alloc _ _) (later_alloc _ _)) (later_drew _)
                have HB0 := Lib.hid (And.intro b01 (And.intro b02 (And.intro b03 (And.intro b01.size (And.intro b02.size b03.size)))))
                clear b01 b02 b03
                go_region_law (first
                  | (refine step_append_sl rfl (.tmp 41) (.tmp 44) 22 rfl 27 i0 _ 24 wr.heap.size Tryd.underlying22 hi0 hz0 hz1 hz2 rfl _ 0 k k [] rfl (by first | exact HE1.out | exact HE2.out | exact HE3.out) _ (os.take k) rfl (HT.out _ (by first | exact HB0.out.1 | exact HB0.out.2.1 | exact HB0.out.2.2.1)) HOne1.out HLen.out (Nat.zero_add _) (by unfold maxLen; omega) (by omega) (by first | exact HB0.out.2.2.2.1 | exact HB0.out.2.2.2.2.1 | exact HB0.out.2.2.2.2.2) ?_; intro a1 c1 W1 own1 grow1; rw [List.nil_append] at own1; have b1 : Below wr.heap.size wr W1 := (by first | exact HB0.out.1.grown grow1 HB0.out.2.2.2.1 (fun k e => (HE1.out.lt k e).1) | exact HB0.out.2.1.grown grow1 HB0.out.2.2.2.2.1 (fun k e => (HE2.out.lt k e).1) | exact HB0.out.2.2.1.grown grow1 HB0.out.2.2.2.2.2 (fun k e => (HE3.out.lt k e).1)); have HW1 := Lib.hid (And.intro own1 (And.intro b1 (And.intro (later_trans b1 (later_alloc W1 (.cells #[(.slice ar r.length cr)] 27))) (And.intro b1.size (later_trans b1 (later_alloc W1 (.cells #[(.slice ar r.length cr)] 27))).size)))); have lW1 := b1.size; clear own1 b1)
                  | (refine step_append_sl rfl (.tmp 45) (.tmp 47) 22 rfl 27 i0 _ 24 wr.heap.size Tryd.underlying22 hi0 hz0 hz1 hz2 rfl (.slice a1 k c1) k 1 (k + 1) (os.take k) rfl (by first | exact HW1.out.1 | exact HW1.out.1.alloc _) _ [(.slice ar r.length cr)] rfl (by first | exact slc_box (box_new _ _ _) | exact rb_b grow1 | exact rb_c grow1) (by simp [Value.oneCell']) rfl rfl (by unfold maxLen; omega) (by omega) (by first | exact HW1.out.2.2.2.1 | exact HW1.out.2.2.2.2) ?_; intro a2 c2 W2 own2 grow2; have b2 : Below wr.heap.size wr W2 := (by first | exact HW1.out.2.1.grown grow2 HW1.out.2.2.2.1 (fun k e => owns_above HW1.out.1 k e) | exact HW1.out.2.2.1.grown grow2 HW1.out.2.2.2.2 (fun k e => owns_above HW1.out.1 k e)); have HW2 := Lib.hid (And.intro own2 (And.intro b2 b2.size)); clear own2 b2)
                  | (refine step_append_sl rfl (.tmp 48) (.tmp 51) 22 rfl 27 i0 _ 24 wr.heap.size Tryd.underlying22 hi0 hz0 hz1 hz2 rfl (.slice a2 (k + 1) c2) (k + 1) (os.length - k) (os.length + 1) ((os.take k) ++ [(.slice ar r.length cr)]) rfl HW2.out.1 _ (os.drop k) rfl (by have hbX := HW2.out.2.1; exact SlC.rest (HD.out _ hbX) hkm2 _ (fun _ b o e => by cases e; simp) (fun q => by cases q)) HOne3.out HLen3.out (by omega) (by unfold maxLen; omega) (by omega) HW2.out.2.2 ?_; intro a3 c3 W3 own3 grow3; have b3 : Below wr.heap.size wr W3 := HW2.out.2.1.grown grow3 HW2.out.2.2 (fun k e => owns_above HW2.out.1 k e); have HW3 := Lib.hid (HF2.out _ _ own3 b3); clear own3 b3))
                all_goals (go_wp2_with fail)
                all_goals go_roundw
                all_goals first
                  | exact ⟨i + 1, _, _, by omega, by go_num, HW3.out⟩
                  | ((repeat apply Exists.intro); refine ⟨?_, rfl⟩; exact ⟨i + 1, _, _, by omega, by go_num, HW3.out⟩)
                  | (simp [intOf]; omega)
            · obtain rfl : k = os.length := by omega
              have HF2 := Lib.hid (HFin.out fun q => absurd q hkl)
              have hcm := HCap.out.1
              by_cases hck : co = os.length
              · subst hck
                cases ao with
                | none =>
                  go_upto_region 11 with fail
                  have HE1 : Hid ((wr.alloc (.cells #[] 27)).drew.ownsRow wr.heap.size 27 1 (.slice (some ⟨wr.heap.size, 0, none⟩) 0 0) 0 []) := Lib.hid (World.ownsRow_made wr #[] 0 (Nat.le_refl _) (Nat.zero_le _) rfl)
                  have HE2 : Hid (((wr.alloc (.cells #[] 27)).alloc (.cells #[(.slice ar r.length cr)] 27)).drew.ownsRow wr.heap.size 27 1 (.slice (some ⟨wr.heap.size, 0, none⟩) 0 0) 0 []) := Lib.hid ((World.ownsRow_made wr #[] 0 (Nat.le_refl _) (Nat.zero_le _) rfl).alloc _)
                  have HE3 : Hid (((wr.alloc (.cells #[(.slice ar r.length cr)] 27)).alloc (.cells #[] 27)).drew.ownsRow wr.heap.size 27 1 (.slice (some ⟨wr.heap.size + 1, 0, none⟩) 0 0) 0 []) := Lib.hid (by have h := World.ownsRow_made (base := wr.heap.size) (e := 27) (size := 1) (wr.alloc (.cells #[(.slice ar r.length cr)] 27)) #[] 0 (by simp) (Nat.zero_le _) rfl; rw [World.size_alloc] at h; exact h)
                  have b01 : Below wr.heap.size wr (wr.alloc (.cells #[] 27)).drew := later_trans (later_alloc _ _) (later_drew _)
                  have b02 : Below wr.heap.size wr ((wr.alloc (.cells #[] 27)).alloc (.cells #[(.slice ar r.length cr)] 27)).drew := later_trans (later_trans (later_alloc _ _) (later_alloc _ _)) (later_drew _)
                  have b03 : Below wr.heap.size wr ((wr.alloc (.cells #[(.slice ar r.length cr)] 27)).alloc (.cells #[] 27)).drew := later_trans (later_trans (later_alloc _ _) (later_alloc _ _)) (later_drew _)
                  have HB0 := Lib.hid (And.intro b01 (And.intro b02 (And.intro b03 (And.intro b01.size (And.intro b02.size b03.size)))))
                  clear b01 b02 b03
                  go_region_law (first
                    | (refine step_append_sl rfl (.tmp 41) (.tmp 44) 22 rfl 27 i0 _ 24 wr.heap.size Tryd.underlying22 hi0 hz0 hz1 hz2 rfl _ 0 os.length os.length [] rfl (by first | exact HE1.out | exact HE2.out | exact HE3.out) _ (os.take os.length) rfl (HT.out _ (by first | exact HB0.out.1 | exact HB0.out.2.1 | exact HB0.out.2.2.1)) HOne1.out HLen.out (Nat.zero_add _) (by unfold maxLen; omega) (by omega) (by first | exact HB0.out.2.2.2.1 | exact HB0.out.2.2.2.2.1 | exact HB0.out.2.2.2.2.2) ?_; intro a1 c1 W1 own1 grow1; rw [List.nil_append] at own1; have b1 : Below wr.heap.size wr W1 := (by first | exact HB0.out.1.grown grow1 HB0.out.2.2.2.1 (fun k e => (HE1.out.lt k e).1) | exact HB0.out.2.1.grown grow1 HB0.out.2.2.2.2.1 (fun k e => (HE2.out.lt k e).1) | exact HB0.out.2.2.1.grown grow1 HB0.out.2.2.2.2.2 (fun k e => (HE3.out.lt k e).1)); have HW1 := Lib.hid (And.intro own1 (And.intro b1 (And.intro (later_trans b1 (later_alloc W1 (.cells #[(.slice ar r.length cr)] 27))) (And.intro b1.size (later_trans b1 (later_alloc W1 (.cells #[(.slice ar r.length cr)] 27))).size)))); have lW1 := b1.size; clear own1 b1)
                    | (refine step_append_sl rfl (.tmp 45) (.tmp 47) 22 rfl 27 i0 _ 24 wr.heap.size Tryd.underlying22 hi0 hz0 hz1 hz2 rfl (.slice a1 os.length c1) os.length 1 (os.length + 1) (os.take os.length) rfl (by first | exact HW1.out.1 | exact HW1.out.1.alloc _) _ [(.slice ar r.length cr)] rfl (by first | exact slc_box (box_new _ _ _) | exact rb_b grow1 | exact rb_c grow1) (by simp [Value.oneCell']) rfl rfl (by unfold maxLen; omega) (by omega) (by first | exact HW1.out.2.2.2.1 | exact HW1.out.2.2.2.2) ?_; intro a2 c2 W2 own2 grow2; have b2 : Below wr.heap.size wr W2 := (by first | exact HW1.out.2.1.grown grow2 HW1.out.2.2.2.1 (fun k e => owns_above HW1.out.1 k e) | exact HW1.out.2.2.1.grown grow2 HW1.out.2.2.2.2 (fun k e => owns_above HW1.out.1 k e)); have HW2 := Lib.hid (And.intro own2 (And.intro b2 b2.size)); clear own2 b2)
                    | (refine step_append_sl rfl (.tmp 48) (.tmp 51) 22 rfl 27 i0 _ 24 wr.heap.size Tryd.underlying22 hi0 hz0 hz1 hz2 rfl (.slice a2 (os.length + 1) c2) (os.length + 1) 0 (os.length + 1) ((os.take os.length) ++ [(.slice ar r.length cr)]) rfl HW2.out.1 _ ([]) rfl (by have hbX := HW2.out.2.1; exact slc_none hbX (by have := HCap.out.2.1; omega) (by first | exact fun _ => rfl | exact fun q => (by cases q) | (intro _; omega))) HOneN.out HLenN.out (by omega) (by unfold maxLen; omega) (by omega) HW2.out.2.2 ?_; intro a3 c3 W3 own3 grow3; have b3 : Below wr.heap.size wr W3 := HW2.out.2.1.grown grow3 HW2.out.2.2 (fun k e => owns_above HW2.out.1 k e); have HW3 := Lib.hid (HF2.out _ _ (by rw [List.drop_length]; exact own3) b3); clear own3 b3))
                  all_goals (go_wp2_with fail)
                  all_goals go_roundw
                  all_goals first
                    | exact ⟨i + 1, _, _, by omega, by go_num, HW3.out⟩
                    | ((repeat apply Exists.intro); refine ⟨?_, rfl⟩; exact ⟨i + 1, _, _, by omega, by go_num, HW3.out⟩)
                    | (simp [intOf]; omega)
                | some ad =>
                  go_upto_region 11 with fail
                  have HE1 : Hid ((wr.alloc (.cells #[] 27)).drew.ownsRow wr.heap.size 27 1 (.slice (some ⟨wr.heap.size, 0, none⟩) 0 0) 0 []) := Lib.hid (World.ownsRow_made wr #[] 0 (Nat.le_refl _) (Nat.zero_le _) rfl)
                  have HE2 : Hid (((wr.alloc (.cells #[] 27)).alloc (.cells #[(.slice ar r.length cr)] 27)).drew.ownsRow wr.heap.size 27 1 (.slice (some ⟨wr.heap.size, 0, none⟩) 0 0) 0 []) := Lib.hid ((World.ownsRow_made wr #[] 0 (Nat.le_refl _) (Nat.zero_le _) rfl).alloc _)
                  have HE3 : Hid (((wr.alloc (.cells #[(.slice ar r.length cr)] 27)).alloc (.cells #[] 27)).drew.ownsRow wr.heap.size 27 1 (.slice (some ⟨wr.heap.size + 1, 0, none⟩) 0 0) 0 []) := Lib.hid (by have h := World.ownsRow_made (base := wr.heap.size) (e := 27) (size := 1) (wr.alloc (.cells #[(.slice ar r.length cr)] 27)) #[] 0 (by simp) (Nat.zero_le _) rfl; rw [World.size_alloc] at h; exact h)
                  have b01 : Below wr.heap.size wr (wr.alloc (.cells #[] 27)).drew := later_trans (later_alloc _ _) (later_drew _)
                  have b02 : Below wr.heap.size wr ((wr.alloc (.cells #[] 27)).alloc (.cells #[(.slice ar r.length cr)] 27)).drew := later_trans (later_trans (later_alloc _ _) (later_alloc _ _)) (later_drew _)
                  have b03 : Below wr.heap.size wr ((wr.alloc (.cells #[(.slice ar r.length cr)] 27)).alloc (.cells #[] 27)).drew := later_trans (later_trans (later_alloc _ _) (later_alloc _ _)) (later_drew _)
                  have HB0 := Lib.hid (And.intro b01 (And.intro b02 (And.intro b03 (And.intro b01.size (And.intro b02.size b03.size)))))
                  clear b01 b02 b03
                  go_region_law (first
                    | (refine step_append_sl rfl (.tmp 41) (.tmp 44) 22 rfl 27 i0 _ 24 wr.heap.size Tryd.underlying22 hi0 hz0 hz1 hz2 rfl _ 0 os.length os.length [] rfl (by first | exact HE1.out | exact HE2.out | exact HE3.out) _ (os.take os.length) rfl (HT.out _ (by first | exact HB0.out.1 | exact HB0.out.2.1 | exact HB0.out.2.2.1)) HOne1.out HLen.out (Nat.zero_add _) (by unfold maxLen; omega) (by omega) (by first | exact HB0.out.2.2.2.1 | exact HB0.out.2.2.2.2.1 | exact HB0.out.2.2.2.2.2) ?_; intro a1 c1 W1 own1 grow1; rw [List.nil_append] at own1; have b1 : Below wr.heap.size wr W1 := (by first | exact HB0.out.1.grown grow1 HB0.out.2.2.2.1 (fun k e => (HE1.out.lt k e).1) | exact HB0.out.2.1.grown grow1 HB0.out.2.2.2.2.1 (fun k e => (HE2.out.lt k e).1) | exact HB0.out.2.2.1.grown grow1 HB0.out.2.2.2.2.2 (fun k e => (HE3.out.lt k e).1)); have HW1 := Lib.hid (And.intro own1 (And.intro b1 (And.intro (later_trans b1 (later_alloc W1 (.cells #[(.slice ar r.length cr)] 27))) (And.intro b1.size (later_trans b1 (later_alloc W1 (.cells #[(.slice ar r.length cr)] 27))).size)))); have lW1 := b1.size; clear own1 b1)
                    | (refine step_append_sl rfl (.tmp 45) (.tmp 47) 22 rfl 27 i0 _ 24 wr.heap.size Tryd.underlying22 hi0 hz0 hz1 hz2 rfl (.slice a1 os.length c1) os.length 1 (os.length + 1) (os.take os.length) rfl (by first | exact HW1.out.1 | exact HW1.out.1.alloc _) _ [(.slice ar r.length cr)] rfl (by first | exact slc_box (box_new _ _ _) | exact rb_b grow1 | exact rb_c grow1) (by simp [Value.oneCell']) rfl rfl (by unfold maxLen; omega) (by omega) (by first | exact HW1.out.2.2.2.1 | exact HW1.out.2.2.2.2) ?_; intro a2 c2 W2 own2 grow2; have b2 : Below wr.heap.size wr W2 := (by first | exact HW1.out.2.1.grown grow2 HW1.out.2.2.2.1 (fun k e => owns_above HW1.out.1 k e) | exact HW1.out.2.2.1.grown grow2 HW1.out.2.2.2.2 (fun k e => owns_above HW1.out.1 k e)); have HW2 := Lib.hid (And.intro own2 (And.intro b2 b2.size)); clear own2 b2)
                    | (refine step_append_sl rfl (.tmp 48) (.tmp 51) 22 rfl 27 i0 _ 24 wr.heap.size Tryd.underlying22 hi0 hz0 hz1 hz2 rfl (.slice a2 (os.length + 1) c2) (os.length + 1) 0 (os.length + 1) ((os.take os.length) ++ [(.slice ar r.length cr)]) rfl HW2.out.1 _ ([]) rfl (by have hbX := HW2.out.2.1; exact slc_none hbX (by have := HCap.out.2.1; omega) (by first | exact fun _ => rfl | exact fun q => (by cases q) | (intro _; omega))) HOneN.out HLenN.out (by omega) (by unfold maxLen; omega) (by omega) HW2.out.2.2 ?_; intro a3 c3 W3 own3 grow3; have b3 : Below wr.heap.size wr W3 := HW2.out.2.1.grown grow3 HW2.out.2.2 (fun k e => owns_above HW2.out.1 k e); have HW3 := Lib.hid (HF2.out _ _ (by rw [List.drop_length]; exact own3) b3); clear own3 b3))
                  all_goals (go_wp2_with fail)
                  all_goals go_roundw
                  all_goals first
                    | exact ⟨i + 1, _, _, by omega, by go_num, HW3.out⟩
                    | ((repeat apply Exists.intro); refine ⟨?_, rfl⟩; exact ⟨i + 1, _, _, by omega, by go_num, HW3.out⟩)
                    | (simp [intOf]; omega)
              · cases ao with
                | none => exact absurd (HCap.out.2.2 rfl) (by omega)
                | some ad =>
                  go_upto_region 11 with fail
                  have HE1 : Hid ((wr.alloc (.cells #[] 27)).drew.ownsRow wr.heap.size 27 1 (.slice (some ⟨wr.heap.size, 0, none⟩) 0 0) 0 []) := Lib.hid (World.ownsRow_made wr #[] 0 (Nat.le_refl _) (Nat.zero_le _) rfl)
                  have HE2 : Hid (((wr.alloc (.cells #[] 27)).alloc (.cells #[(.slice ar r.length cr)] 27)).drew.ownsRow wr.heap.size 27 1 (.slice (some ⟨wr.heap.size, 0, none⟩) 0 0) 0 []) := Lib.hid ((World.ownsRow_made wr #[] 0 (Nat.le_refl _) (Nat.zero_le _) rfl).alloc _)
                  have HE3 : Hid (((wr.alloc (.cells #[(.slice ar r.length cr)] 27)).alloc (.cells #[] 27)).drew.ownsRow wr.heap.size 27 1 (.slice (some ⟨wr.heap.size + 1, 0, none⟩) 0 0) 0 []) := Lib.hid (by have h := World.ownsRow_made (base := wr.heap.size) (e := 27) (size := 1) (wr.alloc (.cells #[(.slice ar r.length cr)] 27)) #[] 0 (by simp) (Nat.zero_le _) rfl; rw [World.size_alloc] at h; exact h)
                  have b01 : Below wr.heap.size wr (wr.alloc (.cells #[] 27)).drew := later_trans (later_alloc _ _) (later_drew _)
                  have b02 : Below wr.heap.size wr ((wr.alloc (.cells #[] 27)).alloc (.cells #[(.slice ar r.length cr)] 27)).drew := later_trans (later_trans (later_alloc _ _) (later_alloc _ _)) (later_drew _)
                  have b03 : Below wr.heap.size wr ((wr.alloc (.cells #[(.slice ar r.length cr)] 27)).alloc (.cells #[] 27)).drew := later_trans (later_trans (later_alloc _ _) (later_alloc _ _)) (later_drew _)
                  have HB0 := Lib.hid (And.intro b01 (And.intro b02 (And.intro b03 (And.intro b01.size (And.intro b02.size b03.size)))))
                  clear b01 b02 b03
                  go_region_law (first
                    | (refine step_append_sl rfl (.tmp 41) (.tmp 44) 22 rfl 27 i0 _ 24 wr.heap.size Tryd.underlying22 hi0 hz0 hz1 hz2 rfl _ 0 os.length os.length [] rfl (by first | exact HE1.out | exact HE2.out | exact HE3.out) _ (os.take os.length) rfl (HT.out _ (by first | exact HB0.out.1 | exact HB0.out.2.1 | exact HB0.out.2.2.1)) HOne1.out HLen.out (Nat.zero_add _) (by unfold maxLen; omega) (by omega) (by first | exact HB0.out.2.2.2.1 | exact HB0.out.2.2.2.2.1 | exact HB0.out.2.2.2.2.2) ?_; intro a1 c1 W1 own1 grow1; rw [List.nil_append] at own1; have b1 : Below wr.heap.size wr W1 := (by first | exact HB0.out.1.grown grow1 HB0.out.2.2.2.1 (fun k e => (HE1.out.lt k e).1) | exact HB0.out.2.1.grown grow1 HB0.out.2.2.2.2.1 (fun k e => (HE2.out.lt k e).1) | exact HB0.out.2.2.1.grown grow1 HB0.out.2.2.2.2.2 (fun k e => (HE3.out.lt k e).1)); have HW1 := Lib.hid (And.intro own1 (And.intro b1 (And.intro (later_trans b1 (later_alloc W1 (.cells #[(.slice ar r.length cr)] 27))) (And.intro b1.size (later_trans b1 (later_alloc W1 (.cells #[(.slice ar r.length cr)] 27))).size)))); have lW1 := b1.size; clear own1 b1)
                    | (refine step_append_sl rfl (.tmp 45) (.tmp 47) 22 rfl 27 i0 _ 24 wr.heap.size Tryd.underlying22 hi0 hz0 hz1 hz2 rfl (.slice a1 os.length c1) os.length 1 (os.length + 1) (os.take os.length) rfl (by first | exact HW1.out.1 | exact HW1.out.1.alloc _) _ [(.slice ar r.length cr)] rfl (by first | exact slc_box (box_new _ _ _) | exact rb_b grow1 | exact rb_c grow1) (by simp [Value.oneCell']) rfl rfl (by unfold maxLen; omega) (by omega) (by first | exact HW1.out.2.2.2.1 | exact HW1.out.2.2.2.2) ?_; intro a2 c2 W2 own2 grow2; have b2 : Below wr.heap.size wr W2 := (by first | exact HW1.out.2.1.grown grow2 HW1.out.2.2.2.1 (fun k e => owns_above HW1.out.1 k e) | exact HW1.out.2.2.1.grown grow2 HW1.out.2.2.2.2 (fun k e => owns_above HW1.out.1 k e)); have HW2 := Lib.hid (And.intro own2 (And.intro b2 b2.size)); clear own2 b2)
                    | (refine step_append_sl rfl (.tmp 48) (.tmp 51) 22 rfl 27 i0 _ 24 wr.heap.size Tryd.underlying22 hi0 hz0 hz1 hz2 rfl (.slice a2 (os.length + 1) c2) (os.length + 1) 0 (os.length + 1) ((os.take os.length) ++ [(.slice ar r.length cr)]) rfl HW2.out.1 _ ([]) rfl (by have hbX := HW2.out.2.1; exact slc_none hbX (by have := HCap.out.2.1; omega) (by first | exact fun _ => rfl | exact fun q => (by cases q) | (intro _; omega))) HOneN.out HLenN.out (by omega) (by unfold maxLen; omega) (by omega) HW2.out.2.2 ?_; intro a3 c3 W3 own3 grow3; have b3 : Below wr.heap.size wr W3 := HW2.out.2.1.grown grow3 HW2.out.2.2 (fun k e => owns_above HW2.out.1 k e); have HW3 := Lib.hid (HF2.out _ _ (by rw [List.drop_length]; exact own3) b3); clear own3 b3))
                  all_goals (go_wp2_with fail)
                  all_goals go_roundw
                  all_goals first
                    | exact ⟨i + 1, _, _, by omega, by go_num, HW3.out⟩
                    | ((repeat apply Exists.intro); refine ⟨?_, rfl⟩; exact ⟨i + 1, _, _, by omega, by go_num, HW3.out⟩)
                    | (simp [intOf]; omega)
        · obtain rfl : i = n := by omega
          have hfin : LeftR (ls.map setL) ol := by
            have := hO.put
            exact PutI.done (ls := l2) (by rw [HN.out]; exact this) HE.out.2.1 (by rw [HN.out]; exact HE.out.2.2.1)
          have HF := Lib.hid (And.intro (SlRK.of_vals (SlC.of_owns hO.own) hO.len fun j hj => (hO.rows j hj).later hO.bel) (And.intro hfin (later_trans HE.out.2.2.2.1 hO.bel)))
          clear hO hfin hol hos
          go_wp2_with fail
          go_ret
          exact ⟨_, ol, rfl, HF.out.1, HF.out.2.1, HF.out.2.2⟩
end Go.Proofs.YtplidcbfbonjlaaDoor
