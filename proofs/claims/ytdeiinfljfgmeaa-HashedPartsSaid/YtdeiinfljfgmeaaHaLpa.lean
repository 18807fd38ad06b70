/-
  HashedParts, walked: some columns and some rows of a relation are the document's.
-/
import Derived.Deep.RegionHeld3
import Derived.Deep.RegionLaw
import Derived.Deep.DeepCutAuto
import Derived.Deep.CutBlock
import Derived.Test.YtdeiinfljfgmeaaHaRgs
import Derived.Test.YtdeiinfljfgmeaaHaTw2
import Derived.Test.YtdeiinfljfgmeaaFix
import Derived.Test.YtdeiinfljfgmeaaHaSpo
namespace Go.Proofs.Ytdeiinfljfgmeaa
open Go.RowKit
set_option linter.unusedVariables false
set_option linter.unusedSimpArgs false

theorem nil_own (base : Nat) (W : World) : OwnRl base W (.slice none 0 0) (.slice none 0 0) nilL := ⟨World.ownsRow_nil _ _ _ _, fun x hx => (by simp [nilL] at hx), [], OwnRK.nil _ _ _ _ _, rfl⟩
/-- What a projection answers. -/
structure PartA (R : Rl) (o : List Int) (no : Int) (S : Rl) : Prop where
  wrong : rightB R = false → no = 350 ∧ S = nilL
  twice : rightB R = true → ¬ Once o → no = 2 ∧ S = nilL
  lack : rightB R = true → Once o → hasL R.vars o = false → no = 4 ∧ S = nilL
  ok : rightB R = true → Once o → hasL R.vars o = true → no = 0 ∧ S = projL R o
theorem PartA.uniq {R : Rl} {o : List Int} {no no' : Int} {S S' : Rl} (h : PartA R o no S) (k : PartA R o no' S') : no = no' ∧ S = S' := by
  cases q1 : rightB R with
  | false => obtain ⟨rfl, rfl⟩ := h.wrong q1; obtain ⟨rfl, rfl⟩ := k.wrong q1; exact ⟨rfl, rfl⟩
  | true =>
    by_cases q2 : Once o
    · cases q3 : hasL R.vars o with
      | false => obtain ⟨rfl, rfl⟩ := h.lack q1 q2 q3; obtain ⟨rfl, rfl⟩ := k.lack q1 q2 q3; exact ⟨rfl, rfl⟩
      | true => obtain ⟨rfl, rfl⟩ := h.ok q1 q2 q3; obtain ⟨rfl, rfl⟩ := k.ok q1 q2 q3; exact ⟨rfl, rfl⟩
    · obtain ⟨rfl, rfl⟩ := h.twice q1 q2; obtain ⟨rfl, rfl⟩ := k.twice q1 q2; exact ⟨rfl, rfl⟩
theorem PartA.of {R : Rl} {o : List Int} {base : Nat} {W : World} {v1 v2 : Value} {no : Int} (h : ProjR R o base W v1 v2 no) : ∃ S, PartA R o no S ∧ OwnRl base W v1 v2 S := by
  cases q1 : rightB R with
  | false =>
    obtain ⟨rfl, rfl, rfl⟩ := h.wrong q1
    exact ⟨nilL, ⟨fun _ => ⟨rfl, rfl⟩, (fun e => by rw [q1] at e; cases e), (fun e => by rw [q1] at e; cases e), (fun e => by rw [q1] at e; cases e)⟩, nil_own _ _⟩
  | true =>
    by_cases q2 : Once o
    · cases q3 : hasL R.vars o with
      | false =>
        obtain ⟨rfl, rfl, rfl⟩ := h.none q1 q2 q3
        exact ⟨nilL, ⟨(fun e => by rw [q1] at e; cases e), fun _ e => absurd q2 e, fun _ _ _ => ⟨rfl, rfl⟩, (fun _ _ e => by rw [q3] at e; cases e)⟩, nil_own _ _⟩
      | true =>
        obtain ⟨rfl, hO⟩ := h.ok q1 q2 q3
        exact ⟨_, ⟨(fun e => by rw [q1] at e; cases e), fun _ e => absurd q2 e, (fun _ _ e => by rw [q3] at e; cases e), fun _ _ _ => ⟨rfl, rfl⟩⟩, hO⟩
    · obtain ⟨rfl, rfl, rfl⟩ := h.twice q1 q2
      exact ⟨nilL, ⟨(fun e => by rw [q1] at e; cases e), fun _ _ => ⟨rfl, rfl⟩, fun _ e => absurd e q2, fun _ e => absurd e q2⟩, nil_own _ _⟩
/-- What a pick answers. -/
structure PickA (R : Rl) (x n no : Int) (S : Rl) : Prop where
  wrong : rightB R = false → no = 350 ∧ S = nilL
  lack : rightB R = true → x ∉ R.vars → no = 4 ∧ S = nilL
  ok : rightB R = true → x ∈ R.vars → no = 0 ∧ S = pickL R x n
theorem PickA.uniq {R : Rl} {x n no no' : Int} {S S' : Rl} (h : PickA R x n no S) (k : PickA R x n no' S') : no = no' ∧ S = S' := by
  cases q1 : rightB R with
  | false => obtain ⟨rfl, rfl⟩ := h.wrong q1; obtain ⟨rfl, rfl⟩ := k.wrong q1; exact ⟨rfl, rfl⟩
  | true =>
    by_cases q2 : x ∈ R.vars
    · obtain ⟨rfl, rfl⟩ := h.ok q1 q2; obtain ⟨rfl, rfl⟩ := k.ok q1 q2; exact ⟨rfl, rfl⟩
    · obtain ⟨rfl, rfl⟩ := h.lack q1 q2; obtain ⟨rfl, rfl⟩ := k.lack q1 q2; exact ⟨rfl, rfl⟩
theorem PickA.of {R : Rl} {x n no : Int} {base : Nat} {W : World} {v1 v2 : Value} (h1 : rightB R = false → no = 350 ∧ v1 = .slice none 0 0 ∧ v2 = .slice none 0 0) (h2 : rightB R = true → x ∉ R.vars → no = 4 ∧ v1 = .slice none 0 0 ∧ v2 = .slice none 0 0) (h3 : rightB R = true → x ∈ R.vars → no = 0 ∧ OwnRl base W v1 v2 (pickL R x n)) : ∃ S, PickA R x n no S ∧ OwnRl base W v1 v2 S := by
  cases q1 : rightB R with
  | false =>
    obtain ⟨rfl, rfl, rfl⟩ := h1 q1
    exact ⟨nilL, ⟨fun _ => ⟨rfl, rfl⟩, (fun e => by rw [q1] at e; cases e), (fun e => by rw [q1] at e; cases e)⟩, nil_own _ _⟩
  | true =>
    by_cases q2 : x ∈ R.vars
    · obtain ⟨rfl, hO⟩ := h3 q1 q2
      exact ⟨_, ⟨(fun e => by rw [q1] at e; cases e), fun _ e => absurd q2 e, fun _ _ => ⟨rfl, rfl⟩⟩, hO⟩
    · obtain ⟨rfl, rfl, rfl⟩ := h2 q1 q2
      exact ⟨nilL, ⟨(fun e => by rw [q1] at e; cases e), fun _ _ => ⟨rfl, rfl⟩, fun _ e => absurd e q2⟩, nil_own _ _⟩
theorem hasL_next {vs o : List Int} {k : Nat} (h : k < o.length) : hasL vs (o.take (k + 1)) = (hasL vs (o.take k) && decide (o[k] ∈ vs)) := by
  unfold hasL
  rw [List.take_succ_eq_append_getElem h, List.all_append]
  simp
set_option maxRecDepth 100000 in
set_option maxHeartbeats 8000000 in
theorem lawParts_any (va ra vo vu : Value) (A : Rl) (o us : List Int) (w : World) (hA : RlR w va ra A) (ho : SlI .i64 w vo o) (hu : SlI .u64 w vu us) :
    Calls Try.prog 3 #[relV va ra, vo, vu] w fun e w' => e = .returned (.bool true) ∧ Below w.heap.size w w' := by
  obtain ⟨W0, hW0⟩ : ∃ W, W = w.alloc (.cells #[va, ra] 25) := ⟨_, rfl⟩
  have b0 : Below w.heap.size w W0 := by rw [hW0]; exact later_alloc _ _
  have bA : RB W0 w.heap.size va ra := by rw [hW0]; exact box_new _ _ _
  have H0 := Lib.hid (And.intro hA (And.intro ho (And.intro hu (And.intro b0 bA))))
  obtain ⟨a1, c1, rfl, -⟩ := hA.vars.open
  obtain ⟨a2, c2, rfl, -⟩ := hA.rows.open
  obtain ⟨ao, co, rfl, o1, o2, -⟩ := ho.open
  obtain ⟨au, cu, rfl, u1, u2, -⟩ := hu.open
  have hom : o.length ≤ 9223372036854775807 := by omega
  have hum : us.length ≤ 9223372036854775807 := by omega
  obtain ⟨q6, hq6⟩ : ∃ x, min o.length 6 = x := ⟨_, rfl⟩
  have hmi : min (o.length : Int) 6 = (q6 : Int) := by omega
  have hqc : q6 ≤ co := by omega
  have hql : q6 ≤ o.length := by omega
  have hq66 : q6 ≤ 6 := by omega
  clear hA ho hu b0 bA hq6 o1 o2 u1 u2
  go_enter Try.func3, Try.ntmps3
  go_wp2_with fail
  rw [← hW0]
  clear hW0
  refine (wakes_any W0).mono ?_
  rintro e W1 ⟨rfl, b1⟩
  have hO := ownR_any _ _ A W1 (H0.out.1.later (later_trans H0.out.2.2.2.1 b1))
  have HO := Lib.hid hO
  obtain ⟨x0, x1, lX⟩ := two_of2 (kept b1 H0.out.2.2.2.2)
  have H1 := Lib.hid b1
  clear b1 hO
  go_wp2_with fail
  refine HO.out.mono ?_
  rintro e W2 ⟨v1, v2, rfl, hO, b2⟩
  obtain ⟨A', hA'⟩ : ∃ R, cutL A = R := ⟨_, rfl⟩
  have hsA := cutL_small A
  rw [hA'] at hO hsA
  obtain ⟨p1, k1, p2, k2, rfl, rfl⟩ := hO.shape
  obtain ⟨W3, hW3⟩ : ∃ W, W = W2.alloc (.cells #[.slice p1 A'.vars.length k1, .slice p2 A'.rows.length k2] 25) := ⟨_, rfl⟩
  have b3 : Below W2.heap.size W2 W3 := by rw [hW3]; exact later_alloc _ _
  have hX3 : RB W3 W2.heap.size (.slice p1 A'.vars.length k1) (.slice p2 A'.rows.length k2) := by rw [hW3]; exact box_new _ _ _
  have b13 := later_trans b2 b3
  have bw3 := later_trans (later_trans H0.out.2.2.2.1 H1.out) b13
  obtain ⟨os, hos⟩ : ∃ l, o.take q6 = l := ⟨_, rfl⟩
  have hol : os.length = q6 := by rw [← hos, List.length_take]; omega
  have hC := cloneI_any (.slice ao q6 co) os W3 (by rw [← hos]; exact SlI.later ((SlI.cut2 (k := .i64) H0.out.2.1 hql)) bw3) (by omega)
  rw [hol] at hC
  have HC := Lib.hid hC
  have H3 := Lib.hid (And.intro ((hO.later b3).rlR) (And.intro hX3 (And.intro (kept (later_trans H1.out b13) H0.out.2.2.2.2) (And.intro bw3 (And.intro hsA (And.intro hol (And.intro hA' (fun x (hx : x ∈ os) => H0.out.2.1.2 x (by rw [← hos] at hx; exact List.mem_of_mem_take hx)))))))))
  clear x0 x1 lX hO b2 hX3 b13 bw3 hC hA' hsA hol hos b3
  go_upto_region 4 with fail
  rw [← hW3]
  clear hW3
  go_wp2_with fail
  refine HC.out.mono ?_
  rintro e W4 ⟨vo, rfl, hvo, b4⟩
  obtain ⟨ap, cp, rfl⟩ := owns_shape2 hvo
  have hos4 : SlI .i64 W4 (.slice ap q6 cp) os := SlI.of_owns hvo H3.out.2.2.2.2.2.2.2
  have hRi := Right_any _ _ A' W4 (H3.out.1.later b4)
  have HRi := Lib.hid hRi
  obtain ⟨x0, x1, lX⟩ := two_of2 (kept b4 H3.out.2.1)
  have H4 := Lib.hid (And.intro hos4 b4)
  clear hvo hos4 hRi b4
  go_wp2_with fail
  refine HRi.out.mono ?_
  rintro e W5 ⟨rfl, b5⟩
  clear x0 x1 lX
  have b35 := later_trans H4.out.2 b5
  have hA5 := H3.out.1.later b35
  have hX5 := kept b35 H3.out.2.1
  have ho5 := SlI.later H4.out.1 b5
  have hP := Project_any _ _ _ A' os W5 hA5 ho5 (by have := H3.out.2.2.2.2.2.1; omega)
  have HP := Lib.hid hP
  obtain ⟨rg, hrg⟩ : ∃ b, rightB A' = b := ⟨_, rfl⟩
  rw [hrg]
  obtain ⟨x0, x1, lX⟩ := two_of2 hX5
  have H5 := Lib.hid (And.intro hA5 (And.intro hX5 (And.intro ho5 (And.intro (kept b35 H3.out.2.2.1) (And.intro (later_trans H3.out.2.2.2.1 b35) hrg)))))
  clear b5 b35 hA5 hX5 ho5 hP hrg
  go_wp2_with fail
  refine HP.out.mono ?_
  rintro e W6 ⟨b6, g1, g2, no, rfl, hPR⟩
  obtain ⟨S, hS, oS⟩ := PartA.of hPR
  obtain ⟨n1, m1, n2, m2, rfl, rfl⟩ := oS.shape
  obtain ⟨W7, hW7⟩ : ∃ W, W = W6.alloc (.cells #[.slice n1 S.vars.length m1, .slice n2 S.rows.length m2] 25) := ⟨_, rfl⟩
  have b7 : Below W6.heap.size W6 W7 := by rw [hW7]; exact later_alloc _ _
  have hX9 : RB W7 W6.heap.size (.slice n1 S.vars.length m1) (.slice n2 S.rows.length m2) := by rw [hW7]; exact box_new _ _ _
  obtain ⟨W8, hW8⟩ : ∃ W, W = W7.alloc (.cells #[.slice none 0 0, .slice none 0 0] 25) := ⟨_, rfl⟩
  have b8 : Below W7.heap.size W7 W8 := by rw [hW8]; exact later_alloc _ _
  have s7 : W7.heap.size = W6.heap.size + 1 := by rw [hW7, World.size_alloc]
  have hX11 : RB W8 (W6.heap.size + 1) (.slice none 0 0) (.slice none 0 0) := by rw [← s7, hW8]; exact box_new _ _ _
  have hle7 : W7.heap.size ≤ W6.heap.size + 1 := Nat.le_of_eq s7
  clear s7
  have b57 := later_trans b6 b7
  have b58 := later_trans b57 b8
  have H8 := Lib.hid (And.intro hS (And.intro (oS.later b7) (And.intro b57 (And.intro b58 (And.intro hX9 (And.intro hX11 b8))))))
  clear x0 x1 lX b6 b7 b57 b58 hX9 hX11 hPR hS oS b8
  go_upto_if 44 with fail
  simp only [← hW7]
  simp only [← hW8]
  clear hW8 hW7
  go_cut [12] (fun s12 wx => ∃ (f1 : Option Addr) (e1 d1 : Nat) (f2 : Option Addr) (e2 d2 : Nat) (n' : Int) (S' : Rl), s12 = .int .i64 n' ∧ RB wx (W6.heap.size + 1) (.slice f1 e1 d1) (.slice f2 e2 d2) ∧ MidRl wx (.slice f1 e1 d1) (.slice f2 e2 d2) S' ∧ PartA A' os n' S' ∧ Below W7.heap.size W7 wx)
  case first =>
    cases rg with
    | false =>
      have HN := Lib.hid (show PartA A' os 350 nilL from ⟨fun _ => ⟨rfl, rfl⟩, (fun e => by rw [H5.out.2.2.2.2.2] at e; cases e), (fun e => by rw [H5.out.2.2.2.2.2] at e; cases e), (fun e => by rw [H5.out.2.2.2.2.2] at e; cases e)⟩)
      go_wp2_with fail
      go_meet
      exact ⟨_, _, _, _, _, _, 350, nilL, rfl, H8.out.2.2.2.2.2.1, MidRl.nil _, HN.out, H8.out.2.2.2.2.2.2⟩
    | true =>
      have hX8 := kept H8.out.2.2.2.1 H5.out.2.1
      obtain ⟨x0, x1, lX⟩ := two_of2 hX8
      have ho8 := SlI.later H5.out.2.2.1 H8.out.2.2.2.1
      have hA8 := H5.out.1.later H8.out.2.2.2.1
      have HL := Lib.hid (And.intro hX8 (And.intro ho8 hA8))
      clear hX8 ho8 hA8
      go_wp2_with fail
      clear x0 x1 lX
      go_loop [12, 47] (fun c i => ∃ (k : Nat) (q : Bool), k ≤ q6 ∧ i = .int .i64 k ∧ hasL A'.vars (os.take k) = q ∧ c = .int .i64 (bif q then 0 else 4)) (fun c i => q6 - (intOf i).toNat)
      case atStart => exact ⟨0, true, Nat.zero_le _, rfl, rfl, rfl⟩
      case round =>
        obtain ⟨k, q, hk, rfl, hq, rfl⟩ := hrel
        by_cases hlt : k < q6
        · have hko : k < os.length := by have := H3.out.2.2.2.2.2.1; omega
          obtain ⟨_, _, e1, _, _, _, g4⟩ := HL.out.2.1.open
          obtain ⟨be, oe, e2, _, gc⟩ := g4 (by omega)
          have ce1 := gc k hko
          injection e1 with e1a e1b e1c
          subst e1a
          subst e2
          have hHn := hasL_next (vs := A'.vars) hko
          obtain ⟨x, hx⟩ : ∃ x, os[k] = x := ⟨_, rfl⟩
          rw [hx] at ce1 hHn
          rw [hq] at hHn
          have hPl := Place_any _ A'.vars x W8 HL.out.2.2.vars
          have HPl := Lib.hid hPl
          obtain ⟨x0, x1, lX⟩ := two_of2 HL.out.1
          clear gc g4 e1b e1c hx hPl hq
          by_cases hin : x ∈ A'.vars
          · obtain ⟨i, hi, -⟩ := idxI_lt hin
            rw [decide_eq_true hin, Bool.and_true] at hHn
            rw [hi] at HPl
            have hng : ¬ ((i : Int) < 0) := by omega
            have HHn := Lib.hid hHn
            clear hin hi hHn
            go_wp2_with fail
            refine HPl.out.mono ?_
            rintro e w9 ⟨rfl, h9⟩
            rw [h9]
            clear h9 w9
            go_wp2_with fail
            go_round
            case rel => exact ⟨k + 1, q, hlt, by go_num, HHn.out, rfl⟩
            case measure => simp [intOf]; omega
          · rw [decide_eq_false hin, Bool.and_false] at hHn
            rw [idxI_out hin] at HPl
            have HHn := Lib.hid hHn
            clear hin hHn
            go_wp2_with fail
            refine HPl.out.mono ?_
            rintro e w9 ⟨rfl, h9⟩
            rw [h9]
            clear h9 w9
            go_wp2_with fail
            go_round
            case rel => exact ⟨k + 1, false, hlt, by go_num, HHn.out, rfl⟩
            case measure => simp [intOf]; omega
        · obtain rfl : k = q6 := by omega
          rw [← H3.out.2.2.2.2.2.1, List.take_length] at hq
          obtain ⟨c1, hc1⟩ : ∃ c : Int, (bif q then 0 else 4) = c := ⟨_, rfl⟩
          rw [hc1]
          have HQ := Lib.hid (And.intro hq hc1)
          clear hq hc1
          go_wp2_with fail
          go_loop [12, 59] (fun c i => ∃ (j : Nat) (r : Bool), j ≤ k ∧ i = .int .i64 j ∧ (r = true ↔ ∀ m, m < j → os.getD m 0 ∉ os.take m) ∧ c = .int .i64 (bif r then c1 else 2)) (fun c i => k - (intOf i).toNat)
          case atStart => exact ⟨0, true, Nat.zero_le _, rfl, ⟨fun _ m hm => by omega, fun _ => rfl⟩, rfl⟩
          case round =>
            obtain ⟨j, r, hj, rfl, hr, rfl⟩ := hrel
            by_cases hlj : j < k
            · have hko : j < os.length := by have := H3.out.2.2.2.2.2.1; omega
              have hcut := SlI.cut2 (k := .i64) HL.out.2.1 (m := j) (by omega)
              obtain ⟨_, _, e1, k1', k2', _, g4⟩ := HL.out.2.1.open
              obtain ⟨be, oe, e2, _, gc⟩ := g4 (by omega)
              have ce1 := gc j hko
              injection e1 with e1a e1b e1c
              subst e1a e1c
              subst e2
              have hgd : os.getD j 0 = os[j] := getD_at hko
              obtain ⟨x, hx⟩ : ∃ x, os[j] = x := ⟨_, rfl⟩
              rw [hx] at ce1 hgd
              have hPl := Place_any _ (os.take j) x W8 hcut
              have HPl := Lib.hid hPl
              have hjc : j ≤ cp := by have := H3.out.2.2.2.2.2.1; omega
              have hstep : ∀ b : Bool, (b = true ↔ x ∉ os.take j) → ((r && b) = true ↔ ∀ m, m < j + 1 → os.getD m 0 ∉ os.take m) := fun b hb => by
                rw [Bool.and_eq_true, hr, hb]
                constructor
                · rintro ⟨h1, h2⟩ m hm
                  by_cases e : m = j
                  · subst e; rw [hgd]; exact h2
                  · exact h1 m (by omega)
                · intro h1
                  exact ⟨fun m hm => h1 m (by omega), by have := h1 j (by omega); rwa [hgd] at this⟩
              have HSt := Lib.hid hstep
              clear gc g4 e1b hx hPl hr hgd hcut hstep k1' k2'
              by_cases hin : x ∈ os.take j
              · obtain ⟨i, hi, -⟩ := idxI_lt hin
                rw [hi] at HPl
                have hng : (i : Int) ≥ 0 := by omega
                have hng2 : (0 : Int) ≤ (i : Int) := by omega
                have HN := Lib.hid (HSt.out false ⟨(fun h => by cases h), fun h => absurd hin h⟩)
                clear hin hi
                go_wp2_with fail
                refine HPl.out.mono ?_
                rintro e w9 ⟨rfl, h9⟩
                rw [h9]
                clear h9 w9
                go_wp2_with fail
                go_round
                case rel => exact ⟨j + 1, r && false, hlj, by go_num, HN.out, by rw [Bool.and_false]; rfl⟩
                case measure => simp [intOf]; omega
              · rw [idxI_out hin] at HPl
                have HN := Lib.hid (HSt.out true ⟨fun _ => hin, fun _ => rfl⟩)
                clear hin
                go_wp2_with fail
                refine HPl.out.mono ?_
                rintro e w9 ⟨rfl, h9⟩
                rw [h9]
                clear h9 w9
                go_wp2_with fail
                go_round
                case rel => exact ⟨j + 1, r && true, hlj, by go_num, HN.out, by rw [Bool.and_true]⟩
                case measure => simp [intOf]; omega
            · obtain rfl : j = k := by omega
              have hr2 : r = true ↔ Once os := by
                rw [hr]
                unfold Once
                rw [H3.out.2.2.2.2.2.1]
              have HR := Lib.hid hr2
              clear hr hr2
              cases r with
              | false =>
                simp only [cond_false]
                have hno : ¬ Once os := fun h => by have := HR.out.2 h; cases this
                have HN := Lib.hid (show PartA A' os 2 nilL from ⟨(fun e => by rw [H5.out.2.2.2.2.2] at e; cases e), fun _ _ => ⟨rfl, rfl⟩, fun _ e => absurd e hno, fun _ e => absurd e hno⟩)
                clear hno
                go_wp2_with fail
                go_meet
                exact ⟨_, _, _, _, _, _, 2, nilL, rfl, H8.out.2.2.2.2.2.1, MidRl.nil _, HN.out, H8.out.2.2.2.2.2.2⟩
              | true =>
                simp only [cond_true]
                have hon := HR.out.1 rfl
                cases q with
                | false =>
                  have hc := HQ.out.2
                  simp only [cond_false] at hc
                  subst hc
                  have HN := Lib.hid (show PartA A' os 4 nilL from ⟨(fun e => by rw [H5.out.2.2.2.2.2] at e; cases e), fun _ e => absurd hon e, fun _ _ _ => ⟨rfl, rfl⟩, (fun _ _ e => by rw [HQ.out.1] at e; cases e)⟩)
                  clear hon
                  go_wp2_with fail
                  go_meet
                  exact ⟨_, _, _, _, _, _, 4, nilL, rfl, H8.out.2.2.2.2.2.1, MidRl.nil _, HN.out, H8.out.2.2.2.2.2.2⟩
                | true =>
                  have hc := HQ.out.2
                  simp only [cond_true] at hc
                  subst hc
                  have HN := Lib.hid (show PartA A' os 0 (projL A' os) from ⟨(fun e => by rw [H5.out.2.2.2.2.2] at e; cases e), fun _ e => absurd hon e, (fun _ _ e => by rw [HQ.out.1] at e; cases e), fun _ _ _ => ⟨rfl, rfl⟩⟩)
                  have hPf := ProjectRf_any _ _ _ A' os W8 HL.out.2.2 HL.out.2.1 (by have := H3.out.2.2.2.2.2.1; omega) (rightB_at H5.out.2.2.2.2.2).1 (rightB_at H5.out.2.2.2.2.2).2.2
                  rw [refP_eq (fun v hv => of_decide_eq_true (List.all_eq_true.1 HQ.out.1 v hv))] at hPf
                  have HPf := Lib.hid hPf
                  obtain ⟨x0, x1, lX⟩ := two_of2 HL.out.1
                  clear hon hPf
                  go_wp2_with fail
                  refine HPf.out.mono ?_
                  rintro e W9 ⟨f1, f2, rfl, hM, b9⟩
                  obtain ⟨f1, d1, f2, d2, rfl, rfl⟩ := hM.shape
                  clear x0 x1 lX
                  have hY := kept b9 H8.out.2.2.2.2.2.1
                  obtain ⟨y0, y1, lY⟩ := two_of2 hY
                  have fY0 := box_frozen (i := 0) hY
                  have fY1 := box_frozen (i := 1) hY
                  have hY1 := box_set (i := 0) hY (.slice f1 (projL A' os).vars.length d1)
                  have HF := Lib.hid (And.intro (show RB ((W9.setCell ⟨W6.heap.size + 1, 0, none⟩ (.slice f1 (projL A' os).vars.length d1)).setCell ⟨W6.heap.size + 1, 1, none⟩ (.slice f2 (projL A' os).rows.length d2)) (W6.heap.size + 1) (.slice f1 (projL A' os).vars.length d1) (.slice f2 (projL A' os).rows.length d2) by simpa [RB] using box_set (i := 1) hY1 (.slice f2 (projL A' os).rows.length d2)) (And.intro ((hM.set (i := 0) hY (.slice f1 (projL A' os).vars.length d1)).set (i := 1) hY1 (.slice f2 (projL A' os).rows.length d2)) (below_set (i := 1) (u := .slice f2 (projL A' os).rows.length d2) (below_set (i := 0) (u := .slice f1 (projL A' os).vars.length d1) (later_trans H8.out.2.2.2.2.2.2 b9) hle7) hle7)))
                  clear hY hY1 hM b9
                  go_wp2_with fail
                  go_meet
                  exact ⟨_, _, _, _, _, _, 0, projL A' os, rfl, HF.out.1, HF.out.2.1, HN.out, HF.out.2.2⟩
  case rest =>
    obtain ⟨f1, e1, d1, f2, e2, d2, n', S', rfl, hY, hM, hS', hb⟩ := hcut
    obtain ⟨rfl, rfl⟩ := H8.out.1.uniq hS'
    obtain ⟨W11, rfl⟩ : ∃ W, W = wc := ⟨_, rfl⟩
    have b511 := later_trans H8.out.2.2.1 hb
    have hX9 := kept hb H8.out.2.2.2.2.1
    have oS := H8.out.2.1.later hb
    have hSm := SameR_any _ _ _ _ S S W11 oS.rlR hM.rlR
    rw [decide_eq_true rfl] at hSm
    have HSm := Lib.hid hSm
    obtain ⟨x0, x1, lX⟩ := two_of2 hX9
    obtain ⟨y0, y1, lY⟩ := two_of2 hY
    have H11 := Lib.hid (And.intro b511 (And.intro hX9 oS))
    clear hY hM hS' hb b511 hX9 oS hSm
    refine ‹∀ (a : Act) (w_1 : World), _ → _› _ _ ?_
    go_wp2_with fail
    refine HSm.out.mono ?_
    rintro e W12 ⟨rfl, b12⟩
    clear x0 x1 lX y0 y1 lY
    have hSp := spoil_any (H11.out.2.2.later b12) (Nat.le_trans H11.out.1.size b12.size)
    have HSp := Lib.hid hSp
    obtain ⟨x0, x1, lX⟩ := two_of2 (kept b12 H11.out.2.1)
    have H12 := Lib.hid b12
    clear hSp b12
    go_wp2_with fail
    refine HSp.out.mono ?_
    rintro e W13 ⟨rfl, b13⟩
    have H13 := Lib.hid ((later_trans H11.out.1 H12.out).trans b13)
    clear b13 x0 x1 lX
    go_upto_block 4 with fail
    go_cut [] (fun wx => Below W5.heap.size W5 wx)
    case first =>
      go_wp2_with fail
      go_loopw [89] (fun i wr => ∃ k : Nat, k ≤ q6 ∧ i = .int .i64 k ∧ Below W5.heap.size W5 wr) (fun i _ => q6 - (intOf i).toNat)
      case atStart => exact ⟨0, Nat.zero_le _, rfl, H13.out⟩
      case round =>
        obtain ⟨k, hk, rfl, hb⟩ := hrel
        obtain ⟨wk, rfl⟩ : ∃ W, W = wr := ⟨_, rfl⟩
        have Hb := Lib.hid hb
        by_cases hlt : k < q6
        · have hko : k < os.length := by have := H3.out.2.2.2.2.2.1; omega
          obtain ⟨_, _, e1, _, _, _, g4⟩ := (SlI.later H5.out.2.2.1 hb).open
          obtain ⟨be, oe, e2, _, gc⟩ := g4 (by omega)
          have ce1 := gc k hko
          injection e1 with e1a e1b e1c
          subst e1a
          subst e2
          obtain ⟨x, hx⟩ : ∃ x, os[k] = x := ⟨_, rfl⟩
          rw [hx] at ce1
          clear gc g4 e1b e1c hx hb
          go_upto_block 6 with fail
          clear ce1
          go_cut [] (fun wx => Below W5.heap.size W5 wx)
          case first =>
            go_wp2_with fail
            go_loopw [96] (fun i wr => ∃ j : Nat, j ≤ us.length ∧ j ≤ 4 ∧ i = .int .i64 j ∧ Below W5.heap.size W5 wr) (fun i _ => us.length - (intOf i).toNat)
            case atStart => exact ⟨0, Nat.zero_le _, Nat.zero_le _, rfl, Hb.out⟩
            case round =>
              obtain ⟨j, hj, hj4, rfl, hb⟩ := hrel
              have Hbi := Lib.hid hb
              by_cases hlj : j < us.length
              · obtain ⟨_, _, e1, _, _, _, g4⟩ := (SlI.later H0.out.2.2.1 (later_trans H5.out.2.2.2.2.1 hb)).open
                obtain ⟨bu, ou, e2, _, gc⟩ := g4 (by omega)
                have ce1 := gc j hlj
                injection e1 with e1a e1b e1c
                subst e1a
                subst e2
                obtain ⟨n, hn⟩ : ∃ n, us[j] = n := ⟨_, rfl⟩
                rw [hn] at ce1
                clear gc g4 e1b e1c hn
                by_cases h4 : j = 4
                · have hki : ((j : Int) == 4) = true := by rw [beq_iff_eq]; omega
                  clear hb h4
                  go_wp2_with fail
                  go_meet
                  exact Hbi.out
                · have hki : ((j : Int) == 4) = false := by rw [beq_eq_false_iff_ne]; omega
                  have hj5 : j + 1 ≤ 4 := by omega
                  have hPk := Pick_any _ _ A' x n wr (H5.out.1.later hb)
                  have HPk := Lib.hid hPk
                  obtain ⟨x0, x1, lX⟩ := two_of2 (kept hb H5.out.2.1)
                  clear hb h4 hPk
                  go_wp2_with fail
                  refine HPk.out.mono ?_
                  rintro e Wa ⟨ba, r1, r2, np, rfl, hp1, hp2, hp3⟩
                  obtain ⟨T, hT, oT⟩ := PickA.of hp1 hp2 hp3
                  obtain ⟨n3, m3, n4, m4, rfl, rfl⟩ := oT.shape
                  clear x0 x1 lX ce1 hp1 hp2 hp3
                  obtain ⟨Wb, hWb⟩ : ∃ W, W = Wa.alloc (.cells #[.slice n3 T.vars.length m3, .slice n4 T.rows.length m4] 25) := ⟨_, rfl⟩
                  have bb : Below Wa.heap.size Wa Wb := by rw [hWb]; exact later_alloc _ _
                  have hX21 : RB Wb Wa.heap.size (.slice n3 T.vars.length m3) (.slice n4 T.rows.length m4) := by rw [hWb]; exact box_new _ _ _
                  obtain ⟨Wc, hWc⟩ : ∃ W, W = Wb.alloc (.cells #[.slice none 0 0, .slice none 0 0] 25) := ⟨_, rfl⟩
                  have bc : Below Wb.heap.size Wb Wc := by rw [hWc]; exact later_alloc _ _
                  have sb : Wb.heap.size = Wa.heap.size + 1 := by rw [hWb, World.size_alloc]
                  have hX23 : RB Wc (Wa.heap.size + 1) (.slice none 0 0) (.slice none 0 0) := by rw [← sb, hWc]; exact box_new _ _ _
                  have hleb : Wb.heap.size ≤ Wa.heap.size + 1 := Nat.le_of_eq sb
                  have bwb := later_trans ba bb
                  have b5c := later_trans Hbi.out (later_trans bwb bc)
                  have HT := Lib.hid (And.intro hT (And.intro (oT.later bb) (And.intro bwb (And.intro hX21 (And.intro hX23 (And.intro bc b5c))))))
                  clear hT oT ba bb hX21 bc sb hX23 bwb b5c
                  go_upto_if 111 with fail
                  simp only [← hWb]
                  simp only [← hWc]
                  clear hWc hWb
                  go_cut [24] (fun s24 wx => ∃ (f1 : Option Addr) (e1 d1 : Nat) (f2 : Option Addr) (e2 d2 : Nat) (n' : Int) (S' : Rl), s24 = .int .i64 n' ∧ RB wx (Wa.heap.size + 1) (.slice f1 e1 d1) (.slice f2 e2 d2) ∧ MidRl wx (.slice f1 e1 d1) (.slice f2 e2 d2) S' ∧ PickA A' x n n' S' ∧ Below Wb.heap.size Wb wx)
                  case first =>
                    cases rg with
                    | false =>
                      have HN := Lib.hid (show PickA A' x n 350 nilL from ⟨fun _ => ⟨rfl, rfl⟩, (fun e => by rw [H5.out.2.2.2.2.2] at e; cases e), (fun e => by rw [H5.out.2.2.2.2.2] at e; cases e)⟩)
                      go_wp2_with fail
                      go_meet
                      exact ⟨_, _, _, _, _, _, 350, nilL, rfl, HT.out.2.2.2.2.1, MidRl.nil _, HN.out, HT.out.2.2.2.2.2.1⟩
                    | true =>
                      have hXc := kept HT.out.2.2.2.2.2.2 H5.out.2.1
                      have hAc := H5.out.1.later HT.out.2.2.2.2.2.2
                      have hPl := Place_any _ A'.vars x Wc hAc.vars
                      have HPl := Lib.hid hPl
                      obtain ⟨x0, x1, lX⟩ := two_of2 hXc
                      by_cases hin : x ∈ A'.vars
                      · obtain ⟨i, hi, hil⟩ := idxI_lt hin
                        rw [hi] at HPl
                        have hng : (i : Int) ≥ 0 := by omega
                        have hng2 : (0 : Int) ≤ (i : Int) := by omega
                        have HPl2 : Hid (∀ W, Below Wc.heap.size Wc W → Calls Try.prog 15 #[.slice p1 A'.vars.length k1, .int .i64 x] W fun e w' => e = .returned (.int .i64 i) ∧ w' = W) := Lib.hid (fun W hb => by rw [← hi]; exact Place_any _ A'.vars x W (hAc.later hb).vars)
                        have HPf : Hid (∀ W, Below Wc.heap.size Wc W → Calls Try.prog 20 #[relV (.slice p1 A'.vars.length k1) (.slice p2 A'.rows.length k2), .int .i64 i, .int .u64 n] W fun e w' => ∃ v1 v2, e = .returned (relV v1 v2) ∧ MidRl w' v1 v2 (pickL A' x n) ∧ Below W.heap.size W w') := Lib.hid (fun W hb => by
                          have h1 := rightB_at H5.out.2.2.2.2.2
                          have h2 := PickRf_any _ _ A' i n W (hAc.later hb) h1.1 h1.2.2 hil (by omega)
                          rwa [refK_eq (Ok.of H5.out.2.2.2.2.2 (U64.of hAc)) hi] at h2)
                        have HN := Lib.hid (show PickA A' x n 0 (pickL A' x n) from ⟨(fun e => by rw [H5.out.2.2.2.2.2] at e; cases e), fun _ e => absurd hin e, fun _ _ => ⟨rfl, rfl⟩⟩)
                        clear hin hi hil hXc hAc hPl
                        go_wp2_with fail
                        refine HPl.out.mono ?_
                        rintro e w9 ⟨rfl, h9⟩
                        rw [h9]
                        clear h9 w9
                        go_wp2_with fail
                        go_region_law (first
                          | (go_simp; refine (HPl2.out _ (later_drew _)).mono ?_; rintro e wP ⟨rfl, hP⟩; rw [hP]; clear hP wP)
                          | (go_simp; refine (HPf.out _ (later_drew _)).mono ?_; rintro e W9 ⟨f1, f2, rfl, hM, b9⟩; obtain ⟨f1, d1, f2, d2, rfl, rfl⟩ := hM.shape; have hY := kept (later_trans (later_drew _) b9) HT.out.2.2.2.2.1; obtain ⟨y0, y1, lY⟩ := two_of2 hY; have fY0 := box_frozen (i := 0) hY; have fY1 := box_frozen (i := 1) hY; have HW9 := Lib.hid (And.intro hM (And.intro hY (later_trans (later_drew Wc) b9))); clear hM hY b9))
                        all_goals (try go_wp2_with fail)
                        all_goals
                          have hY1 := box_set (i := 0) HW9.out.2.1 (.slice f1 (pickL A' x n).vars.length d1)
                          have HF := Lib.hid (And.intro (show RB ((W9.setCell ⟨Wa.heap.size + 1, 0, none⟩ (.slice f1 (pickL A' x n).vars.length d1)).setCell ⟨Wa.heap.size + 1, 1, none⟩ (.slice f2 (pickL A' x n).rows.length d2)) (Wa.heap.size + 1) (.slice f1 (pickL A' x n).vars.length d1) (.slice f2 (pickL A' x n).rows.length d2) by simpa [RB] using box_set (i := 1) hY1 (.slice f2 (pickL A' x n).rows.length d2)) (And.intro ((HW9.out.1.set (i := 0) HW9.out.2.1 (.slice f1 (pickL A' x n).vars.length d1)).set (i := 1) hY1 (.slice f2 (pickL A' x n).rows.length d2)) (below_set (i := 1) (u := (.slice f2 (pickL A' x n).rows.length d2)) (below_set (i := 0) (u := (.slice f1 (pickL A' x n).vars.length d1)) (later_trans HT.out.2.2.2.2.2.1 HW9.out.2.2) hleb) hleb)))
                          clear hY1
                          go_meet
                          exact ⟨_, _, _, _, _, _, 0, pickL A' x n, rfl, HF.out.1, HF.out.2.1, HN.out, HF.out.2.2⟩
                      · rw [idxI_out hin] at HPl
                        have HN := Lib.hid (show PickA A' x n 4 nilL from ⟨(fun e => by rw [H5.out.2.2.2.2.2] at e; cases e), fun _ _ => ⟨rfl, rfl⟩, fun _ e => absurd e hin⟩)
                        clear hin hXc hAc hPl
                        go_wp2_with fail
                        refine HPl.out.mono ?_
                        rintro e w9 ⟨rfl, h9⟩
                        rw [h9]
                        clear h9 w9
                        go_wp2_with fail
                        go_meet
                        exact ⟨_, _, _, _, _, _, 4, nilL, rfl, HT.out.2.2.2.2.1, MidRl.nil _, HN.out, HT.out.2.2.2.2.2.1⟩
                  case rest =>
                    obtain ⟨f1, e1, d1, f2, e2, d2, n', S', rfl, hY, hM, hS', hb⟩ := hcut
                    obtain ⟨rfl, rfl⟩ := HT.out.1.uniq hS'
                    obtain ⟨Wd, rfl⟩ : ∃ W, W = wc := ⟨_, rfl⟩
                    have bwd := later_trans HT.out.2.2.1 hb
                    have hX21 := kept hb HT.out.2.2.2.1
                    have oT := HT.out.2.1.later hb
                    have hSm := SameR_any _ _ _ _ T T Wd oT.rlR hM.rlR
                    rw [decide_eq_true rfl] at hSm
                    have HSm := Lib.hid hSm
                    obtain ⟨x0, x1, lX⟩ := two_of2 hX21
                    obtain ⟨y0, y1, lY⟩ := two_of2 hY
                    have Hd := Lib.hid (And.intro bwd (And.intro hX21 oT))
                    clear hY hM hS' hb bwd hX21 oT hSm
                    refine ‹∀ (a : Act) (w_1 : World), _ → _› _ _ ?_
                    go_wp2_with fail
                    refine HSm.out.mono ?_
                    rintro e We ⟨rfl, be1⟩
                    clear x0 x1 lX y0 y1 lY
                    have hSp := spoil_any (Hd.out.2.2.later be1) (Nat.le_trans Hd.out.1.size be1.size)
                    have HSp := Lib.hid hSp
                    obtain ⟨x0, x1, lX⟩ := two_of2 (kept be1 Hd.out.2.1)
                    have He := Lib.hid be1
                    clear hSp be1
                    go_wp2_with fail
                    refine HSp.out.mono ?_
                    rintro e Wf ⟨rfl, bf⟩
                    have Hf := Lib.hid (later_trans Hbi.out ((later_trans Hd.out.1 He.out).trans bf))
                    clear bf x0 x1 lX
                    go_wp2_with fail
                    go_roundw
                    case rel => exact ⟨j + 1, hlj, hj5, by go_num, Hf.out⟩
                    case measure => simp [intOf]; omega
              · clear hb
                go_wp2_with fail
                go_meet
                exact Hbi.out
          case rest =>
            have Hcut := Lib.hid hcut
            clear hcut
            refine ‹∀ (a : Act) (w_1 : World), _ → _› _ _ ?_
            by_cases h5 : k = 5
            · have hki : ((k : Int) == 5) = true := by rw [beq_iff_eq]; omega
              clear h5
              go_wp2_with fail
              go_meet
              exact Hcut.out
            · have hki : ((k : Int) == 5) = false := by rw [beq_eq_false_iff_ne]; omega
              clear h5
              go_wp2_with fail
              go_roundw
              case rel => exact ⟨k + 1, hlt, by go_num, Hcut.out⟩
              case measure => simp [intOf]; omega
        · clear hb
          go_wp2_with fail
          go_meet
          exact Hb.out
    case rest =>
      obtain ⟨W14, rfl⟩ : ∃ W, W = wc := ⟨_, rfl⟩
      have hA14 := H5.out.1.later hcut
      have hbw14 := later_trans H5.out.2.2.2.2.1 hcut
      have HX14 := Lib.hid (kept hcut H5.out.2.1)
      have HZ14 := Lib.hid (kept hcut H5.out.2.2.2.1)
      have HO141 : Hid (∀ W, Below W14.heap.size W14 W → Calls Try.prog 11 #[relV (.slice a1 A.vars.length c1) (.slice a2 A.rows.length c2)] W fun e w' => ∃ v1 v2, e = .returned (relV v1 v2) ∧ OwnRl W.heap.size w' v1 v2 A' ∧ Below W.heap.size W w') := Lib.hid (fun W hb => by rw [← H3.out.2.2.2.2.2.2.1]; exact ownR_any _ _ A W (H0.out.1.later (later_trans hbw14 hb)))
      have HS142 : Hid (∀ W v1 v2, Below W14.heap.size W14 W → OwnRl W14.heap.size W v1 v2 A' → Calls Try.prog 17 #[relV (.slice p1 A'.vars.length k1) (.slice p2 A'.rows.length k2), relV v1 v2] W fun e w' => e = .returned (.bool true) ∧ Below W.heap.size W w') := Lib.hid (fun W v1 v2 hb hO => by
        have := SameR_any _ _ _ _ A' A' W (hA14.later hb) hO.rlR
        rwa [decide_eq_true rfl] at this)
      have H14 := Lib.hid hbw14
      clear hA14 hbw14 hcut
      refine ‹∀ (a : Act) (w_1 : World), _ → _› _ _ ?_
      go_upto_region 46 with fail
      generalize hFr : Act.mk _ _ = a0
      have e3 : a0.eval (.tmp 3) = .pointer (some ⟨w.heap.size, 0, none⟩) := by rw [← hFr]; rfl
      have e7 : a0.eval (.tmp 7) = .pointer (some ⟨W2.heap.size, 0, none⟩) := by rw [← hFr]; rfl
      have hsz : 142 < a0.tmps.size := by rw [← hFr]; exact Nat.le_of_ble_eq_true rfl
      have HFr := Lib.hid hFr
      clear hFr
      obtain ⟨R, hR⟩ : ∃ R : Nat → Value → World → Prop, R = fun j v w' => if j = 2 then (∃ v1 v2, v = relV v1 v2 ∧ OwnRl W14.heap.size w' v1 v2 A') else v = ([relV (.slice p1 A'.vars.length k1) (.slice p2 A'.rows.length k2), relV (.slice a1 A.vars.length c1) (.slice a2 A.rows.length c2), undef, .bool true, .bool true] : List Value).getD j undef := ⟨_, rfl⟩
      have hmono : ∀ j v U V, R j v U → Below U.heap.size U V → R j v V := by
        rw [hR]
        intro j v U V h hb
        by_cases e2 : j = 2
        · simp only [if_pos e2] at h ⊢
          obtain ⟨v1, v2, e1, e2⟩ := h
          exact ⟨v1, v2, e1, e2.later hb⟩
        simp only [if_neg e2] at h ⊢
        exact h
      have r0 : ∀ v w', R 0 v w' = (v = relV (.slice p1 A'.vars.length k1) (.slice p2 A'.rows.length k2)) := fun v w' => by rw [hR]; rfl
      have r1 : ∀ v w', R 1 v w' = (v = relV (.slice a1 A.vars.length c1) (.slice a2 A.rows.length c2)) := fun v w' => by rw [hR]; rfl
      have r2 : ∀ v w', R 2 v w' = (∃ v1 v2, v = relV v1 v2 ∧ OwnRl W14.heap.size w' v1 v2 A') := fun v w' => by rw [hR]; rfl
      have r3 : ∀ v w', R 3 v w' = (v = .bool true) := fun v w' => by rw [hR]; rfl
      have r4 : ∀ v w', R 4 v w' = (v = .bool true) := fun v w' => by rw [hR]; rfl
      clear hR
      have hinj : ∀ i, i < 5 → ∀ j, j < 5 → j ≠ i → (fun k : Nat => ([139, 140, 141, 142, 6] : List Nat).getD k 0) j ≠ (fun k : Nat => ([139, 140, 141, 142, 6] : List Nat).getD k 0) i := by decide
      refine Inv.wp_region_inv (J := fun L a w' => Fx 5 a0 [139, 140, 141, 142, 6] W14 (fun k : Nat => ([139, 140, 141, 142, 6] : List Nat).getD k 0) R L a w') (by kernel_rfl) (by kernel_rfl) (Fx.start _) ?_ ?_
      · rintro L a w' i op hF h0 hop hall
        have hi : i < 5 := (Array.getElem?_eq_some_iff.1 hop).1
        refine Inv.wpOp_of hop ?_
        have hsA := hF.ag.size
        have hb := hF.bel
        have hcase : i = 0 ∨ i = 1 ∨ i = 2 ∨ i = 3 ∨ i = 4 := by omega
        rcases hcase with rfl | rfl | rfl | rfl | rfl
        · obtain rfl := (Option.some.inj hop).symm
          have y7 := at_slot ((hF.ag.eval (s := 7) (by decide)).trans e7)
          obtain ⟨kk0, kk1, lc⟩ := two_of2 (kept hb HX14.out)
          have hs0 : 139 < a.tmps.size := by omega
          have HF := Lib.hid hF
          clear hsA
          go_simp
          exact hF.step (i := 0) (d := 139) (v := relV (.slice p1 A'.vars.length k1) (.slice p2 A'.rows.length k2)) (w' := w') (hinj 0 (by decide)) hmono h0 (by decide) hs0 rfl (later_refl _) (by rw [r0])
        · obtain rfl := (Option.some.inj hop).symm
          have y3 := at_slot ((hF.ag.eval (s := 3) (by decide)).trans e3)
          obtain ⟨kk0, kk1, lc⟩ := two_of2 (kept hb HZ14.out)
          have hs0 : 140 < a.tmps.size := by omega
          have HF := Lib.hid hF
          clear hsA
          go_simp
          exact hF.step (i := 1) (d := 140) (v := relV (.slice a1 A.vars.length c1) (.slice a2 A.rows.length c2)) (w' := w') (hinj 1 (by decide)) hmono h0 (by decide) hs0 rfl (later_refl _) (by rw [r1])
        · obtain rfl := (Option.some.inj hop).symm
          have d1 : L.getD 1 false = true := hall ⟨1, .data⟩ (by simp) rfl
          have h1 := hF.val 1 (by decide) d1
          rw [r1] at h1
          have y140 := at_slot (s := 140) h1
          clear h1 d1
          try simp only [Nat.reduceAdd] at y140
          have hs0 : 141 < a.tmps.size := by omega
          have hC := HO141.out w' hb
          have hbs := hb.size
          clear hsA
          go_simp
          refine hC.mono ?_
          rintro e w9 ⟨v1, v2, rfl, hO, hb9⟩
          exact hF.step (i := 2) (d := 141) (v := relV v1 v2) (w' := w9) (hinj 2 (by decide)) hmono h0 (by decide) hs0 rfl hb9 (by rw [r2]; exact ⟨v1, v2, rfl, hO.down hbs⟩)
        · obtain rfl := (Option.some.inj hop).symm
          have d0 : L.getD 0 false = true := hall ⟨0, .data⟩ (by simp) rfl
          have h0 := hF.val 0 (by decide) d0
          rw [r0] at h0
          have y139 := at_slot (s := 139) h0
          clear h0 d0
          try simp only [Nat.reduceAdd] at y139
          have d2 : L.getD 2 false = true := hall ⟨2, .data⟩ (by simp) rfl
          have h2 := hF.val 2 (by decide) d2
          rw [r2] at h2
          obtain ⟨w1, w2, q2, o2⟩ := h2
          have y141 := at_slot (s := 141) q2
          try simp only [Nat.reduceAdd] at y141
          have hs0 : 142 < a.tmps.size := by omega
          have hC := HS142.out w' w1 w2 hb o2
          obtain ⟨p1, q1, p2, q2, rfl, rfl⟩ := o2.shape
          clear q2 o2 d2
          clear hsA
          have HF := Lib.hid hF
          clear hb
          go_simp
          refine hC.mono ?_
          rintro e w9 ⟨rfl, hb9⟩
          exact hF.step (i := 3) (d := 142) (v := .bool true) (w' := w9) (hinj 3 (by decide)) hmono h0 (by decide) hs0 rfl hb9 (by rw [r3])
        · obtain rfl := (Option.some.inj hop).symm
          have d3 : L.getD 3 false = true := hall ⟨3, .data⟩ (by simp) rfl
          have h3 := hF.val 3 (by decide) d3
          rw [r3] at h3
          have y142 := at_slot (s := 142) h3
          clear h3 d3
          try simp only [Nat.reduceAdd] at y142
          have hs0 : 6 < a.tmps.size := by omega
          have HF := Lib.hid hF
          clear hsA
          go_simp
          exact hF.step (i := 4) (d := 6) (v := .bool true) (w' := w') (hinj 4 (by decide)) hmono h0 (by decide) hs0 rfl (later_refl _) (by rw [r4])
      · rintro L a w' hF hall
        have hv := hF.val 4 (by decide) (hall 4 (by decide))
        rw [r4] at hv
        have hv' : a.tmps.getD 6 undef = .bool true := hv
        have hact := hF.ag.act
        rw [← HFr.out] at hact
        simp only [List.foldl_cons, List.foldl_nil, hv'] at hact
        obtain ⟨z139, hz139⟩ : ∃ z, a.tmps.getD 139 undef = z := ⟨_, rfl⟩
        obtain ⟨z140, hz140⟩ : ∃ z, a.tmps.getD 140 undef = z := ⟨_, rfl⟩
        obtain ⟨z141, hz141⟩ : ∃ z, a.tmps.getD 141 undef = z := ⟨_, rfl⟩
        obtain ⟨z142, hz142⟩ : ∃ z, a.tmps.getD 142 undef = z := ⟨_, rfl⟩
        rw [hz139, hz140, hz141, hz142] at hact
        simp only [List.setIfInBounds_toArray, List.set_cons_zero, List.set_cons_succ] at hact
        clear hz139 hz140 hz141 hz142
        have HE := Lib.hid hF.bel
        clear hF hall hv hv' hinj hmono hsz r0 r1 r2 r3 r4 e3 e7
        subst hact
        clear HFr
        go_wp2_with fail
        go_ret
        exact ⟨rfl, later_trans H14.out HE.out⟩
end Go.Proofs.Ytdeiinfljfgmeaa
