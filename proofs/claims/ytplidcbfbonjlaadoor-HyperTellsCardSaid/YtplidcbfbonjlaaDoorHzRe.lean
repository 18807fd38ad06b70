/-
  The document's step, walked. (Printed by mkhzre.py.)
-/
import Derived.Deep.RegionHeld3
import Derived.Deep.DeepCutAuto
import Derived.Test.YtplidcbfbonjlaaDoorHzRd
namespace Go.Proofs.YtplidcbfbonjlaaDoor
open Go.RowKit Go.Shelf Go.Lib
set_option linter.unusedVariables false
set_option linter.unusedSimpArgs false

theorem Stuck.next {ls : List (List Int)} {i : Nat} (h : Stuck ls i) (h1 : ∀ t, t < (rowN ls i).length → manyL ls ((rowN ls i).getD t 0) ≠ 1) (h2 : goesTo ls i ls.length = false) : Stuck ls (i + 1) := fun j hj => by
  by_cases e : j = i
  · subst e; exact ⟨h1, h2⟩
  · exact h j (by omega)
def StepRes (ls : List (List Int)) (w : World) (e : Ending) (w' : World) : Prop := ∃ v' b ls', e = .returned (.tuple #[v', .bool b]) ∧ SlRK .i64 w' v' ls' ∧ StepP ls ls' b ∧ Below w.heap.size w w'
set_option maxRecDepth 100000 in
set_option maxHeartbeats 8000000 in
theorem step_any (v : Value) (ls : List (List Int)) (w : World) (h : SlRK .i64 w v ls) (hl : ls.length ≤ 1000) (hr : ∀ e ∈ ls, e.length ≤ 1000) :
    Calls Tryd.prog 50 #[v] w fun e w' => StepRes ls w e w' := by
  obtain ⟨i0, hi0, hz0, hz1, hz2⟩ := info_parts info_rowI
  obtain ⟨j0, hj0, jz0, jz1, jz2⟩ := info_parts info_int
  obtain ⟨vs, hC, hvl, hR⟩ := h.vals
  have hone : ∀ u ∈ vs, u.oneCell' = true := fun u hu => by
    obtain ⟨j, hj, rfl⟩ := List.getElem_of_mem hu
    have := hR j (by omega)
    rw [show vs.getD j undef = vs[j] by simp [List.getD, hj]] at this
    exact old_oneCell this
  obtain ⟨a, c, rfl, hc1, hc2, hc3, -⟩ := h.open
  obtain ⟨n, hn⟩ : ∃ n, ls.length = n := ⟨_, rfl⟩
  have HN := Lib.hid (And.intro hn hvl)
  have HM := Lib.hid (fun x W (hb : Below w.heap.size w W) => many_any (.slice a n c) ls x W (by rw [← hn]; exact h.later hb) (by omega))
  have H := Lib.hid (And.intro h (And.intro hC (And.intro hR (And.intro hone hr))))
  rw [hn] at hl H hc1 ⊢
  have hc2' : c ≤ maxLen := by unfold maxLen; omega
  have HC2 := Lib.hid (And.intro hc2' hc3)
  clear h hC hvl hR hone hr hn hc2'
  go_enter Tryd.func50, Tryd.ntmps50
  go_wp2_with fail
  go_loop [14] (fun x => ∃ i : Nat, i ≤ n ∧ x = .int .i64 i ∧ Stuck ls i) (fun x => n - (intOf x).toNat)
  case atStart => exact ⟨0, Nat.zero_le _, rfl, fun j hj => by omega⟩
  case round =>
    obtain ⟨i, hi, rfl, hst⟩ := hrel
    have HS := Lib.hid hst
    clear hst
    by_cases hin : i < n
    · have hil : i < ls.length := by rw [HN.out.1]; exact hin
      obtain ⟨_, _, e1, _, _, _, f4⟩ := H.out.1.open
      obtain ⟨b, o, e2, lb, fc⟩ := f4 (by omega)
      injection e1 with e1a e1b e1c
      subst e1a e1c
      subst e2
      obtain ⟨ri, ci, si⟩ := fc i hil
      obtain ⟨ai, di, rfl, k1, k2, k3, -⟩ := si.open
      have hle := H.out.2.2.2.2 _ (rowN_mem hil)
      obtain ⟨le, hlee⟩ : ∃ l, (rowN ls i).length = l := ⟨_, rfl⟩
      have HI := Lib.hid (And.intro si (And.intro hlee hil))
      rw [hlee] at ci hle k1
      have hdm : di ≤ 9223372036854775807 := k2
      have HFC := Lib.hid fc
      clear fc f4 e1b si hlee hil
      go_wp2_with fail
      go_loop [21] (fun x => ∃ k : Nat, k ≤ le ∧ x = .int .i64 k ∧ ∀ t, t < k → manyL ls ((rowN ls i).getD t 0) ≠ 1) (fun x => le - (intOf x).toNat)
      case atStart => exact ⟨0, Nat.zero_le _, rfl, fun t ht => by omega⟩
      case round =>
        obtain ⟨k, hk, rfl, hmk⟩ := hrel
        have HK := Lib.hid hmk
        clear hmk
        by_cases hkl : k < le
        · have hkr : k < (rowN ls i).length := by rw [HI.out.2.1]; exact hkl
          obtain ⟨_, _, g1, _, _, _, g4⟩ := HI.out.1.open
          obtain ⟨bi, oi, g2, lbi, gc⟩ := g4 (by omega)
          have g1' := g1
          injection g1 with g1a g1b g1c
          subst g1a g1c
          subst g2
          have ck := gc k hkr
          rw [← getD_at hkr] at ck
          obtain ⟨x, hx⟩ : ∃ x, (rowN ls i).getD k 0 = x := ⟨_, rfl⟩
          rw [hx] at ck
          have hma := HM.out x w (Below.refl _ _)
          obtain ⟨q, hq⟩ : ∃ q, manyL ls x = q := ⟨_, rfl⟩
          rw [hq] at hma
          have HMa := Lib.hid (And.intro hma (And.intro hx hq))
          clear hma hx hq gc g4 g1b hkr g1'
          go_wp2_with fail
          refine HMa.out.1.mono ?_
          rintro e w9 ⟨rfl, h9⟩
          rw [h9]
          clear h9 w9
          by_cases hq1 : q = 1
          · subst hq1
            have hcell := (H.out.2.1.later (later_alloc w (.cells #[] 27))).cells
            have hown : (w.alloc (.cells #[] 27)).ownsRow w.heap.size 27 1 (.slice (some ⟨w.heap.size, 0, none⟩) 0 0) 0 [] := World.ownsRow_made _ _ _ (Nat.le_refl _) (by simp [maxLen]) (by simp)
            have hone := H.out.2.2.2.1
            have hvn : vs.length = n * 1 := by have := HN.out; omega
            go_upto_region 9 with (at_builtin; refine wpList_append_own _ rfl (.tmp 30) (.tmp 31) 22 rfl w.heap.size 27 i0 _ 1 24 Tryd.underlying22 hi0 hz0 hz1 hz2 rfl (by decide) _ _ _ rfl hown ⟨b, o, none⟩ n c vs rfl hvn hcell hone (by unfold maxLen; omega) (by omega) (by simp) ?_; intro v8 w8 hown8 hgrow8 _)
            simp only [Nat.zero_add, List.nil_append] at hown8
            obtain ⟨n', hn'⟩ : ∃ n', n = n' + 1 := ⟨n - 1, by omega⟩
            obtain ⟨g8, cap8, hv8⟩ : ∃ g cap, v8 = .slice (some ⟨g, 0, none⟩) n cap := by
              have h1 := hown8
              rw [hn'] at h1 ⊢
              exact ownsRow_succ h1
            subst hv8
            have b8 : Below w.heap.size w w8 := (((Below.refl _ w).alloc (Nat.le_refl _) _).grown hgrow8 (by simp) (fun k e => by cases e; exact Nat.le_refl _))
            have H8 := Lib.hid (And.intro hown8 b8)
            clear hown8 hgrow8 b8 hcell hown hone hvn n' hn'
            have hvi : i < vs.length := by have := HN.out; omega
            have HcI : Hid (∀ W, Below w8.heap.size w8 W → W.cell? ⟨g8, i, none⟩ = some vs[i] ∧ W.frozen? ⟨g8, i, none⟩ = false ∧ g8 < W.heap.size) := Lib.hid (fun W hb => by
              have h1 := owns_cell (owns_later H8.out.1 hb) (j := i) (List.getElem?_eq_getElem hvi)
              obtain ⟨-, cur, h2⟩ := own_block (owns_later H8.out.1 hb)
              exact ⟨h1.1, h1.2, lt_of_block h2⟩)
            obtain ⟨c8, f8, l8⟩ := HcI.out w8 (Below.refl _ _)
            obtain ⟨kn, hk1e⟩ : ∃ kn, k + 1 = kn := ⟨_, rfl⟩
            have HK1 := Lib.hid hk1e
            have hwkn : IntKind.i64.wrap ((k : Int) + 1) = (kn : Int) := by rw [← hk1e]; exact wrap_i64 (by omega) (by omega)
            have hSI : ∀ W, Below w8.heap.size w8 W → SlC W (.slice (some ⟨bi, oi, none⟩) le di) ((rowN ls i).map (.int .i64)) := fun W hb => by
              have := (HI.out.1.later (later_trans H8.out.2 hb)).1
              rwa [HI.out.2.1] at this
            have hlm : ((rowN ls i).map (Value.int .i64)).length = le := by rw [List.length_map]; exact HI.out.2.1
            have HT : Hid (∀ W, Below w8.heap.size w8 W → SlC W (.slice (some ⟨bi, oi, none⟩) k di) (((rowN ls i).map (Value.int .i64)).take k)) := Lib.hid (fun W hb => (hSI W hb).cut (by omega))
            have HD := Lib.hid hSI
            have hint : ∀ u ∈ (rowN ls i).map (Value.int .i64), u.oneCell' = true := fun u hu => by obtain ⟨y, -, rfl⟩ := List.mem_map.1 hu; rfl
            have HOne1 := Lib.hid (fun (u : Value) (hu : u ∈ ((rowN ls i).map (Value.int .i64)).take k) => hint u (List.mem_of_mem_take hu))
            have HOne2 := Lib.hid (fun (u : Value) (hu : u ∈ ((rowN ls i).map (Value.int .i64)).drop kn) => hint u (List.mem_of_mem_drop hu))
            have HOneN : Hid (∀ u ∈ ([] : List Value), u.oneCell' = true) := Lib.hid (fun u hu => by cases hu)
            have HLen1 : Hid ((((rowN ls i).map (Value.int .i64)).take k).length = k) := Lib.hid (by rw [List.length_take]; omega)
            have HLen2 : Hid ((((rowN ls i).map (Value.int .i64)).drop kn).length = le - kn) := Lib.hid (by rw [List.length_drop]; omega)
            have HLenN : Hid (([] : List Value).length = 0) := Lib.hid rfl
            have HFin : Hid (∀ (x : Value) (N : Nat) (W : World), W.ownsRow w8.heap.size 3 1 x N (((rowN ls i).map (Value.int .i64)).take k ++ ((rowN ls i).map (Value.int .i64)).drop kn) → Below w8.heap.size w8 W → SlRK .i64 (W.setCell ⟨g8, i, none⟩ x) (.slice (some ⟨g8, 0, none⟩) n cap8) (ls.set i (dropAt (rowN ls i) k)) ∧ Below w.heap.size w (W.setCell ⟨g8, i, none⟩ x)) := Lib.hid (fun x N W ho hb => by
              have e : ((rowN ls i).map (Value.int .i64)).take k ++ ((rowN ls i).map (Value.int .i64)).drop kn = (dropAt (rowN ls i) k).map (Value.int .i64) := by unfold dropAt; rw [HK1.out, List.map_append, List.map_take, List.map_drop]
              rw [e] at ho
              refine rows_set (owns_later H8.out.1 hb) (by rw [HN.out.2]) (by rw [HN.out.1]; exact H.out.2.2.1) ho (fun y hy => ?_) (later_trans H8.out.2 hb) HI.out.2.2
              unfold dropAt at hy
              rcases List.mem_append.1 hy with q | q
              · exact HI.out.1.2 y (List.mem_of_mem_take q)
              · exact HI.out.1.2 y (List.mem_of_mem_drop q))
            have HSt : Hid (StepP ls (ls.set i (dropAt (rowN ls i) k)) true) := Lib.hid (.inr ⟨rfl, i, HI.out.2.2, .inl ⟨k, by rw [HI.out.2.1]; exact hkl, by rw [HMa.out.2.1]; exact HMa.out.2.2, rfl⟩⟩)
            have HSI9 := Lib.hid hlm
            have hk1 : kn ≤ le := by omega
            have hkc : k ≤ di := by omega
            have hkc1 : kn ≤ di := by omega
            have hkk1 : k ≤ kn := by omega
            have HLT : Hid (k < kn) := Lib.hid (by omega)
            clear hSI hlm hint ck
            have HE1 : Hid ((w8.alloc (.cells #[] 3)).drew.ownsRow w8.heap.size 3 1 (.slice (some ⟨w8.heap.size, 0, none⟩) 0 0) 0 []) := Lib.hid (World.ownsRow_made w8 #[] 0 (Nat.le_refl _) (Nat.zero_le _) rfl)
            have b01 : Below w8.heap.size w8 (w8.alloc (.cells #[] 3)).drew := later_trans (later_alloc _ _) (later_drew _)
            have HB0 := Lib.hid (And.intro b01 b01.size)
            clear b01
            have hdm' : di ≤ maxLen := by unfold maxLen; omega
            have HC3 := Lib.hid hdm'
            clear hdm' hk1e
            by_cases hkE : kn = le
            · subst hkE
              have hDr : Hid (((rowN ls i).map (Value.int .i64)).drop kn = []) := Lib.hid (List.drop_of_length_le (by rw [HSI9.out]; exact Nat.le_refl _))
              by_cases hdc : di = kn
              · subst hdc
                go_region_law (first
                  | (refine step_append_sl rfl (.tmp 35) (.tmp 38) 27 rfl 3 j0 _ 8 w8.heap.size Tryd.underlying27 hj0 jz0 jz1 jz2 rfl _ 0 k k [] rfl HE1.out _ (((rowN ls i).map (Value.int .i64)).take k) rfl (HT.out _ HB0.out.1) HOne1.out HLen1.out (Nat.zero_add _) (by unfold maxLen; omega) (by omega) HB0.out.2 ?_; intro a1 c1 W1 own1 grow1; rw [List.nil_append] at own1; have b1 : Below w8.heap.size w8 W1 := HB0.out.1.grown grow1 HB0.out.2 (fun k e => (HE1.out.lt k e).1); have HW1 := Lib.hid (And.intro own1 b1); have lW1 := b1.size; obtain ⟨c81, f81, l81⟩ := HcI.out W1 b1; clear own1 b1 grow1)
                  | (refine step_append_sl rfl (.tmp 39) (.tmp 43) 27 rfl 3 j0 _ 8 w8.heap.size Tryd.underlying27 hj0 jz0 jz1 jz2 rfl (.slice a1 k c1) k 0 k (((rowN ls i).map (Value.int .i64)).take k) rfl HW1.out.1 _ [] rfl (by have hbX := HW1.out.2; exact slc_none hbX (by have := HC3.out; omega) (by first | exact fun _ => rfl | exact fun q => (by cases q) | (intro _; omega))) HOneN.out HLenN.out (Nat.add_zero _) (by unfold maxLen; omega) (by omega) HW1.out.2.size ?_; intro a2 c2 W2 own2 grow2; have b2 : Below w8.heap.size w8 W2 := HW1.out.2.grown grow2 HW1.out.2.size (fun k e => owns_above HW1.out.1 k e); have HF := Lib.hid (HFin.out (.slice a2 k c2) k W2 (by rw [hDr.out]; exact own2) b2); obtain ⟨c82, f82, l82⟩ := HcI.out W2 b2; clear own2 b2 grow2))
                all_goals (go_wp2_with fail)
                all_goals go_ret2
                all_goals exact ⟨_, true, _, rfl, HF.out.1, HSt.out, HF.out.2⟩
              · have hdc' : ¬ di = kn := hdc
                go_region_law (first
                  | (refine step_append_sl rfl (.tmp 35) (.tmp 38) 27 rfl 3 j0 _ 8 w8.heap.size Tryd.underlying27 hj0 jz0 jz1 jz2 rfl _ 0 k k [] rfl HE1.out _ (((rowN ls i).map (Value.int .i64)).take k) rfl (HT.out _ HB0.out.1) HOne1.out HLen1.out (Nat.zero_add _) (by unfold maxLen; omega) (by omega) HB0.out.2 ?_; intro a1 c1 W1 own1 grow1; rw [List.nil_append] at own1; have b1 : Below w8.heap.size w8 W1 := HB0.out.1.grown grow1 HB0.out.2 (fun k e => (HE1.out.lt k e).1); have HW1 := Lib.hid (And.intro own1 b1); have lW1 := b1.size; obtain ⟨c81, f81, l81⟩ := HcI.out W1 b1; clear own1 b1 grow1)
                  | (refine step_append_sl rfl (.tmp 39) (.tmp 43) 27 rfl 3 j0 _ 8 w8.heap.size Tryd.underlying27 hj0 jz0 jz1 jz2 rfl (.slice a1 k c1) k 0 k (((rowN ls i).map (Value.int .i64)).take k) rfl HW1.out.1 _ [] rfl (by have hbX := HW1.out.2; exact slc_none hbX (by have := HC3.out; omega) (by first | exact fun _ => rfl | exact fun q => (by cases q) | (intro _; omega))) HOneN.out HLenN.out (Nat.add_zero _) (by unfold maxLen; omega) (by omega) HW1.out.2.size ?_; intro a2 c2 W2 own2 grow2; have b2 : Below w8.heap.size w8 W2 := HW1.out.2.grown grow2 HW1.out.2.size (fun k e => owns_above HW1.out.1 k e); have HF := Lib.hid (HFin.out (.slice a2 k c2) k W2 (by rw [hDr.out]; exact own2) b2); obtain ⟨c82, f82, l82⟩ := HcI.out W2 b2; clear own2 b2 grow2))
                all_goals (go_wp2_with fail)
                all_goals go_ret2
                all_goals exact ⟨_, true, _, rfl, HF.out.1, HSt.out, HF.out.2⟩
            · have hk2 : kn < le := by omega
              have hdc' : ¬ di = kn := by omega
              go_region_law (first
                | (refine step_append_sl rfl (.tmp 35) (.tmp 38) 27 rfl 3 j0 _ 8 w8.heap.size Tryd.underlying27 hj0 jz0 jz1 jz2 rfl _ 0 k k [] rfl HE1.out _ (((rowN ls i).map (Value.int .i64)).take k) rfl (HT.out _ HB0.out.1) HOne1.out HLen1.out (Nat.zero_add _) (by unfold maxLen; omega) (by omega) HB0.out.2 ?_; intro a1 c1 W1 own1 grow1; rw [List.nil_append] at own1; have b1 : Below w8.heap.size w8 W1 := HB0.out.1.grown grow1 HB0.out.2 (fun k e => (HE1.out.lt k e).1); have HW1 := Lib.hid (And.intro own1 b1); have lW1 := b1.size; obtain ⟨c81, f81, l81⟩ := HcI.out W1 b1; clear own1 b1 grow1)
                | (refine step_append_sl rfl (.tmp 39) (.tmp 43) 27 rfl 3 j0 _ 8 w8.heap.size Tryd.underlying27 hj0 jz0 jz1 jz2 rfl (.slice a1 k c1) k (le - kn) (k + (le - kn)) (((rowN ls i).map (Value.int .i64)).take k) rfl HW1.out.1 _ (((rowN ls i).map (Value.int .i64)).drop kn) rfl (by have hbX := HW1.out.2; exact SlC.rest (HD.out _ hbX) (by have := HSI9.out; omega) _ (fun _ b o e => by cases e; first | rfl | simp) (fun q => by cases q)) HOne2.out HLen2.out rfl (by unfold maxLen; omega) (by omega) HW1.out.2.size ?_; intro a2 c2 W2 own2 grow2; have b2 : Below w8.heap.size w8 W2 := HW1.out.2.grown grow2 HW1.out.2.size (fun k e => owns_above HW1.out.1 k e); have HF := Lib.hid (HFin.out (.slice a2 (k + (le - kn)) c2) (k + (le - kn)) W2 own2 b2); obtain ⟨c82, f82, l82⟩ := HcI.out W2 b2; clear own2 b2 grow2))
              all_goals (go_wp2_with fail)
              all_goals go_ret2
              all_goals exact ⟨_, true, _, rfl, HF.out.1, HSt.out, HF.out.2⟩
          · have hq1' : ((q : Int) == 1) = false := by rw [beq_eq_false_iff_ne]; omega
            go_wp2_with fail
            go_round
            case rel => exact ⟨k + 1, hkl, by go_num, fun t ht => by
              by_cases e : t = k
              · subst e; rw [HMa.out.2.1, HMa.out.2.2]; exact hq1
              · exact HK.out t (by omega)⟩
            case measure => simp [intOf]; omega
        · obtain rfl : k = le := by omega
          have hg0 : (goesTo ls i 0) = ((k : Int) == 0) := by
            unfold goesTo
            rw [HI.out.2.1, Bool.eq_iff_iff]
            simp
          have HG0 := Lib.hid hg0
          clear hg0
          go_wp2_with fail
          go_loop [9, 53] (fun g x => ∃ j : Nat, j ≤ n ∧ x = .int .i64 j ∧ g = .bool (goesTo ls i j)) (fun _ x => n - (intOf x).toNat)
          case atStart => exact ⟨0, Nat.zero_le _, rfl, by rw [HG0.out]⟩
          case round =>
            obtain ⟨j, hj, rfl, rfl⟩ := hrel
            by_cases hjn : j < n
            · have hjl : j < ls.length := by rw [HN.out.1]; exact hjn
              obtain ⟨rj, cj, sj⟩ := HFC.out j hjl
              obtain ⟨aj, dj, rfl, -⟩ := sj.open
              have hwi := within_any _ _ _ _ w HI.out.1 sj
              rw [HI.out.2.1] at hwi
              have hnx := goesTo_next ls i j
              obtain ⟨gb, hgb⟩ : ∃ g, goesTo ls i j = g := ⟨_, rfl⟩
              obtain ⟨wb, hwb⟩ : ∃ g, withinB (rowN ls i) (rowN ls j) = g := ⟨_, rfl⟩
              rw [hwb] at hwi
              rw [hgb, hwb] at hnx
              rw [hgb]
              have HW := Lib.hid (And.intro hwi hnx)
              clear hwi hnx hwb hgb sj hjl
              cases gb with
              | true =>
                go_wp2_with fail
                go_round
                case rel => exact ⟨j + 1, hjn, by go_num, by rw [HW.out.2, Bool.true_or]⟩
                case measure => simp [intOf]; omega
              | false =>
                by_cases hji : j = i
                · have hne : ((j : Int) != (i : Int)) = false := by rw [hji]; simp
                  have e : Hid (goesTo ls i (j + 1) = false) := Lib.hid (by rw [HW.out.2, hji]; simp)
                  clear hji
                  go_wp2_with fail
                  go_round
                  case rel => exact ⟨j + 1, hjn, by go_num, by rw [e.out]⟩
                  case measure => simp [intOf]; omega
                · have hne : ((j : Int) != (i : Int)) = true := by rw [bne_iff_ne]; omega
                  have e : Hid (goesTo ls i (j + 1) = wb) := Lib.hid (by rw [HW.out.2]; simp [hji])
                  clear hji
                  go_wp2_with fail
                  refine HW.out.1.mono ?_
                  rintro e9 w9 ⟨rfl, h9⟩
                  rw [h9]
                  clear h9 w9
                  go_wp2_with fail
                  go_round
                  case rel => exact ⟨j + 1, hjn, by go_num, by rw [e.out]⟩
                  case measure => simp [intOf]; omega
            · obtain rfl : j = n := by omega
              obtain ⟨gb, hgb⟩ : ∃ g, goesTo ls i j = g := ⟨_, rfl⟩
              have HGB := Lib.hid hgb
              rw [hgb]
              clear hgb
              cases gb with
              | false =>
                go_wp2_with fail
                go_round
                case rel => exact ⟨i + 1, hin, by go_num, HS.out.next (fun t ht => HK.out t (by rw [HI.out.2.1] at ht; exact ht)) (by rw [HN.out.1]; exact HGB.out)⟩
                case measure => simp [intOf]; omega
              | true =>
                have hvi : i < vs.length := by have := HN.out; omega
                obtain ⟨kn, hk1e⟩ : ∃ kn, i + 1 = kn := ⟨_, rfl⟩
                have HK1 := Lib.hid hk1e
                have hwkn : IntKind.i64.wrap ((i : Int) + 1) = (kn : Int) := by rw [← hk1e]; exact wrap_i64 (by omega) (by omega)
                have hSI : ∀ W, Below w.heap.size w W → SlC W (.slice (some ⟨b, o, none⟩) j c) vs := fun W hb => H.out.2.1.later hb
                have hlm : vs.length = j := by have := HN.out; omega
                have HT : Hid (∀ W, Below w.heap.size w W → SlC W (.slice (some ⟨b, o, none⟩) i c) (vs.take i)) := Lib.hid (fun W hb => (hSI W hb).cut (by omega))
                have HD := Lib.hid hSI
                have HOne1 := Lib.hid (fun (u : Value) (hu : u ∈ vs.take i) => H.out.2.2.2.1 u (List.mem_of_mem_take hu))
                have HOne2 := Lib.hid (fun (u : Value) (hu : u ∈ vs.drop kn) => H.out.2.2.2.1 u (List.mem_of_mem_drop hu))
                have HOneN : Hid (∀ u ∈ ([] : List Value), u.oneCell' = true) := Lib.hid (fun u hu => by cases hu)
                have HLen1 : Hid ((vs.take i).length = i) := Lib.hid (by rw [List.length_take]; omega)
                have HLen2 : Hid ((vs.drop kn).length = j - kn) := Lib.hid (by rw [List.length_drop]; omega)
                have HLenN : Hid (([] : List Value).length = 0) := Lib.hid rfl
                have HFin : Hid (∀ (x : Value) (N : Nat) (W : World), W.ownsRow w.heap.size 27 1 x N (vs.take i ++ vs.drop kn) → Below w.heap.size w W → SlRK .i64 W x (ls.take i ++ ls.drop (i + 1)) ∧ Below w.heap.size w W) := Lib.hid (fun x N W ho hb => by
                  rw [← HK1.out] at ho
                  exact ⟨rows_cut ho HN.out.2 (by rw [HN.out.1]; exact H.out.2.2.1) hb HI.out.2.2, hb⟩)
                have HSt : Hid (StepP ls (ls.take i ++ ls.drop (i + 1)) true) := Lib.hid (.inr ⟨rfl, i, HI.out.2.2, .inr ⟨by rw [HN.out.1]; exact HGB.out, rfl⟩⟩)
                have HSI9 := Lib.hid hlm
                have hkn : kn ≤ j := by omega
                have hkc : i ≤ c := by omega
                have hkc1 : kn ≤ c := by omega
                have hkkn : i ≤ kn := by omega
                have HLT : Hid (i < kn) := Lib.hid (by omega)
                clear hSI hlm hvi
                have HE1 : Hid ((w.alloc (.cells #[] 27)).drew.ownsRow w.heap.size 27 1 (.slice (some ⟨w.heap.size, 0, none⟩) 0 0) 0 []) := Lib.hid (World.ownsRow_made w #[] 0 (Nat.le_refl _) (Nat.zero_le _) rfl)
                have b01 : Below w.heap.size w (w.alloc (.cells #[] 27)).drew := later_trans (later_alloc _ _) (later_drew _)
                have HB0 := Lib.hid (And.intro b01 b01.size)
                clear b01 hk1e
                go_upto_region 19 with fail
                by_cases hkE : kn = j
                · subst hkE
                  have hDr : Hid (vs.drop kn = []) := Lib.hid (List.drop_of_length_le (by rw [HSI9.out]; exact Nat.le_refl _))
                  by_cases hdc : c = kn
                  · subst hdc
                    go_region_law (first
                      | (refine step_append_sl rfl (.tmp 71) (.tmp 74) 22 rfl 27 i0 _ 24 w.heap.size Tryd.underlying22 hi0 hz0 hz1 hz2 rfl _ 0 i i [] rfl HE1.out _ (vs.take i) rfl (HT.out _ HB0.out.1) HOne1.out HLen1.out (Nat.zero_add _) (by unfold maxLen; omega) (by omega) HB0.out.2 ?_; intro a1 c1 W1 own1 grow1; rw [List.nil_append] at own1; have b1 : Below w.heap.size w W1 := HB0.out.1.grown grow1 HB0.out.2 (fun k e => (HE1.out.lt k e).1); have HW1 := Lib.hid (And.intro own1 b1); have lW1 := b1.size; clear own1 b1 grow1)
                      | (refine step_append_sl rfl (.tmp 75) (.tmp 79) 22 rfl 27 i0 _ 24 w.heap.size Tryd.underlying22 hi0 hz0 hz1 hz2 rfl (.slice a1 i c1) i 0 i (vs.take i) rfl HW1.out.1 _ [] rfl (by have hbX := HW1.out.2; exact slc_none hbX (by have := HC2.out.1; omega) (by first | exact fun _ => rfl | exact fun q => (by cases q) | (intro _; omega))) HOneN.out HLenN.out (Nat.add_zero _) (by unfold maxLen; omega) (by omega) HW1.out.2.size ?_; intro a2 c2 W2 own2 grow2; have b2 : Below w.heap.size w W2 := HW1.out.2.grown grow2 HW1.out.2.size (fun k e => owns_above HW1.out.1 k e); have HF := Lib.hid (HFin.out (.slice a2 i c2) i W2 (by rw [hDr.out]; exact own2) b2); clear own2 b2 grow2))
                    all_goals (go_wp2_with fail)
                    all_goals go_ret2
                    all_goals exact ⟨_, true, _, rfl, HF.out.1, HSt.out, HF.out.2⟩
                  · have hdc' : ¬ c = kn := hdc
                    go_region_law (first
                      | (refine step_append_sl rfl (.tmp 71) (.tmp 74) 22 rfl 27 i0 _ 24 w.heap.size Tryd.underlying22 hi0 hz0 hz1 hz2 rfl _ 0 i i [] rfl HE1.out _ (vs.take i) rfl (HT.out _ HB0.out.1) HOne1.out HLen1.out (Nat.zero_add _) (by unfold maxLen; omega) (by omega) HB0.out.2 ?_; intro a1 c1 W1 own1 grow1; rw [List.nil_append] at own1; have b1 : Below w.heap.size w W1 := HB0.out.1.grown grow1 HB0.out.2 (fun k e => (HE1.out.lt k e).1); have HW1 := Lib.hid (And.intro own1 b1); have lW1 := b1.size; clear own1 b1 grow1)
                      | (refine step_append_sl rfl (.tmp 75) (.tmp 79) 22 rfl 27 i0 _ 24 w.heap.size Tryd.underlying22 hi0 hz0 hz1 hz2 rfl (.slice a1 i c1) i 0 i (vs.take i) rfl HW1.out.1 _ [] rfl (by have hbX := HW1.out.2; exact slc_none hbX (by have := HC2.out.1; omega) (by first | exact fun _ => rfl | exact fun q => (by cases q) | (intro _; omega))) HOneN.out HLenN.out (Nat.add_zero _) (by unfold maxLen; omega) (by omega) HW1.out.2.size ?_; intro a2 c2 W2 own2 grow2; have b2 : Below w.heap.size w W2 := HW1.out.2.grown grow2 HW1.out.2.size (fun k e => owns_above HW1.out.1 k e); have HF := Lib.hid (HFin.out (.slice a2 i c2) i W2 (by rw [hDr.out]; exact own2) b2); clear own2 b2 grow2))
                    all_goals (go_wp2_with fail)
                    all_goals go_ret2
                    all_goals exact ⟨_, true, _, rfl, HF.out.1, HSt.out, HF.out.2⟩
                · have hk2 : kn < j := by omega
                  have hdc' : ¬ c = kn := by omega
                  go_region_law (first
                    | (refine step_append_sl rfl (.tmp 71) (.tmp 74) 22 rfl 27 i0 _ 24 w.heap.size Tryd.underlying22 hi0 hz0 hz1 hz2 rfl _ 0 i i [] rfl HE1.out _ (vs.take i) rfl (HT.out _ HB0.out.1) HOne1.out HLen1.out (Nat.zero_add _) (by unfold maxLen; omega) (by omega) HB0.out.2 ?_; intro a1 c1 W1 own1 grow1; rw [List.nil_append] at own1; have b1 : Below w.heap.size w W1 := HB0.out.1.grown grow1 HB0.out.2 (fun k e => (HE1.out.lt k e).1); have HW1 := Lib.hid (And.intro own1 b1); have lW1 := b1.size; clear own1 b1 grow1)
                    | (refine step_append_sl rfl (.tmp 75) (.tmp 79) 22 rfl 27 i0 _ 24 w.heap.size Tryd.underlying22 hi0 hz0 hz1 hz2 rfl (.slice a1 i c1) i (j - kn) (i + (j - kn)) (vs.take i) rfl HW1.out.1 _ (vs.drop kn) rfl (by have hbX := HW1.out.2; exact SlC.rest (HD.out _ hbX) (by have := HSI9.out; omega) _ (fun _ b o e => by cases e; first | rfl | simp) (fun q => by cases q)) HOne2.out HLen2.out rfl (by unfold maxLen; omega) (by omega) HW1.out.2.size ?_; intro a2 c2 W2 own2 grow2; have b2 : Below w.heap.size w W2 := HW1.out.2.grown grow2 HW1.out.2.size (fun k e => owns_above HW1.out.1 k e); have HF := Lib.hid (HFin.out (.slice a2 (i + (j - kn)) c2) (i + (j - kn)) W2 own2 b2); clear own2 b2 grow2))
                  all_goals (go_wp2_with fail)
                  all_goals go_ret2
                  all_goals exact ⟨_, true, _, rfl, HF.out.1, HSt.out, HF.out.2⟩
    · obtain rfl : i = n := by omega
      have hst : StepP ls ls false := .inl ⟨rfl, rfl, by rw [HN.out.1]; exact HS.out⟩
      have HE := Lib.hid (And.intro H.out.1 hst)
      clear hst
      go_wp2_with fail
      go_ret2
      exact ⟨_, false, ls, rfl, HE.out.1, HE.out.2, Below.refl _ _⟩
end Go.Proofs.YtplidcbfbonjlaaDoor
