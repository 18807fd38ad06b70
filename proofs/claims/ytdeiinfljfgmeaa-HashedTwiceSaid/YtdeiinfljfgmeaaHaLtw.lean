/-
  HashedTwice, walked: a projection of a projection is one; the rows picked by all values are all rows.
-/
import Derived.Deep.RegionHeld3
import Derived.Deep.RegionLaw
import Derived.Deep.DeepCutAuto
import Derived.Deep.CutBlock
import Derived.Test.YtdeiinfljfgmeaaHaTwi
import Derived.Test.YtdeiinfljfgmeaaHaTw2
import Derived.Test.YtdeiinfljfgmeaaFix
import Derived.Test.YtdeiinfljfgmeaaHaSpo
namespace Go.Proofs.Ytdeiinfljfgmeaa
open Go.RowKit Go.Maps
set_option linter.unusedVariables false
set_option linter.unusedSimpArgs false

theorem ProjR.bad_or {R : Rl} {o : List Int} {base : Nat} {w' : World} {v1 v2 : Value} {no : Int} (h : ProjR R o base w' v1 v2 no) :
    ((no = 350 ∨ no = 2 ∨ no = 4) ∧ v1 = .slice Option.none 0 0 ∧ v2 = .slice Option.none 0 0) ∨ (rightB R = true ∧ Once o ∧ hasL R.vars o = true ∧ no = 0 ∧ OwnRl base w' v1 v2 (projL R o)) := by
  cases q1 : rightB R with
  | false => obtain ⟨a, b⟩ := h.wrong q1; exact .inl ⟨.inl a, b⟩
  | true =>
    by_cases q2 : Once o
    · cases q3 : hasL R.vars o with
      | false => obtain ⟨a, b⟩ := h.none q1 q2 q3; exact .inl ⟨.inr (.inr a), b⟩
      | true => obtain ⟨a, b⟩ := h.ok q1 q2 q3; exact .inr ⟨rfl, q2, rfl, a, b⟩
    · obtain ⟨a, b⟩ := h.twice q1 q2; exact .inl ⟨.inr (.inl a), b⟩
theorem rb_put {W : World} {X : Nat} {a b : Value} (h : RB W X a b) (c d : Value) : RB ((W.setCell ⟨X, 0, none⟩ c).setCell ⟨X, 1, none⟩ d) X c d := by
  simpa [RB] using box_set (i := 1) (box_set (i := 0) h c) d
theorem rb_put_own {W : World} {X base : Nat} {a b v1 v2 : Value} {R : Rl} (h : RB W X a b) (c d : Value) (hO : OwnRl base W v1 v2 R) : OwnRl base ((W.setCell ⟨X, 0, none⟩ c).setCell ⟨X, 1, none⟩ d) v1 v2 R :=
  (hO.set h (i := 0) c).set (box_set h c) (i := 1) d
theorem rb_put_below {W0 W : World} {B X : Nat} (hb : Below B W0 W) (hX : B ≤ X) (c d : Value) : Below B W0 ((W.setCell ⟨X, 0, none⟩ c).setCell ⟨X, 1, none⟩ d) := below_set (below_set hb hX) hX
theorem OwnRK.above {k : IntKind} {et rt : TypeId} {base : Nat} {W W' : World} {v : Value} {ps : List (Value × List Int)} (h : OwnRK k et rt base W v ps) (hk : ∀ b, base ≤ b → b < W.heap.size → W'.heap[b]? = W.heap[b]?) : OwnRK k et rt base W' v ps :=
  ⟨owns_above2 h.own hk, fun p hp => ⟨owns_above2 (h.rows p hp).1 hk, (h.rows p hp).2⟩⟩
/-- A row of the call's own, as what is appended. -/
theorem own_src {W : World} {base n : Nat} {e : TypeId} {v : Value} {xs : List Value} (h : W.ownsRow base e 1 v n xs) (h0 : 0 < n) : ∃ g c, v = .slice (some ⟨g, 0, none⟩) n c ∧ ∀ j u, xs[j]? = some u → W.cell? ((⟨g, 0, none⟩ : Addr).add j) = some u := by
  have hc := SlC.of_owns h
  rcases h.2 with ⟨rfl, h1⟩ | ⟨g, cap, cur, rfl, _⟩
  · omega
  · exact ⟨g, cap, rfl, hc.cells⟩
theorem OwnRK.one {k : IntKind} {et rt : TypeId} {base : Nat} {W : World} {v : Value} {ps : List (Value × List Int)} (h : OwnRK k et rt base W v ps) : ∀ u ∈ ps.map Prod.fst, u.oneCell' = true := fun u hu => by
  obtain ⟨p, hp, rfl⟩ := List.mem_map.1 hu
  obtain ⟨a, c, e⟩ := owns_shape2 (h.rows p hp).1
  rw [e]
  rfl
theorem OwnRK.join {k : IntKind} {et rt : TypeId} {base : Nat} {W w6 : World} {v vq v6 : Value} {ps qs : List (Value × List Int)} (hne : rt ≠ et) (h : OwnRK k et rt base W v ps) (hq : OwnRK k et rt base W vq qs)
    (hown6 : w6.ownsRow base rt 1 v6 (ps.length + qs.length) (ps.map Prod.fst ++ qs.map Prod.fst)) (hg : W.grownBy w6 v.ownBlock) : OwnRK k et rt base w6 v6 (ps ++ qs) := by
  refine ⟨by simpa using hown6, fun p hp => ?_⟩
  rcases List.mem_append.1 hp with hp | hp
  · exact ⟨own_grown h.own hg (h.rows p hp).1 hne, (h.rows p hp).2⟩
  · exact ⟨own_grown h.own hg (hq.rows p hp).1 hne, (hq.rows p hp).2⟩
theorem MpU.block {w w' : World} {b n : Nat} {l : List Int} (h : MpU w b n l) (hb : w'.heap[b]? = w.heap[b]?) : MpU w' b n l := by
  obtain ⟨D, ⟨es, clock, hh, r⟩, h2⟩ := h
  exact ⟨D, ⟨es, clock, hb.trans hh, r⟩, h2⟩
set_option maxRecDepth 100000 in
set_option maxHeartbeats 8000000 in
theorem lawTwice_any (va ra vo : Value) (A : Rl) (o : List Int) (c : Int) (w : World) (hA : RlR w va ra A) (ho : SlI .i64 w vo o) (hc : (Lit.int .i64 c).wf = true) :
    Calls Try.prog 9 #[relV va ra, vo, .int .i64 c] w fun e w' => e = .returned (.bool true) ∧ Below w.heap.size w w' := by
  obtain ⟨W0, hW0⟩ : ∃ W, W = w.alloc (.cells #[va, ra] 25) := ⟨_, rfl⟩
  have b0 : Below w.heap.size w W0 := by rw [hW0]; exact later_alloc _ _
  have bA : RB W0 w.heap.size va ra := by rw [hW0]; exact box_new _ _ _
  have H0 := Lib.hid (And.intro hA (And.intro ho (And.intro b0 bA)))
  obtain ⟨a1, c1, rfl, -⟩ := hA.vars.open
  obtain ⟨a2, c2, rfl, -⟩ := hA.rows.open
  obtain ⟨ao, co, rfl, o1, o2, -⟩ := ho.open
  have hom : o.length ≤ 9223372036854775807 := by omega
  obtain ⟨q6, hq6⟩ : ∃ x, min o.length 6 = x := ⟨_, rfl⟩
  have hmi : min (o.length : Int) 6 = (q6 : Int) := by omega
  have hqc : q6 ≤ co := by omega
  have hql : q6 ≤ o.length := by omega
  have hq66 : q6 ≤ 6 := by omega
  clear hA ho b0 bA hq6 o1 o2
  obtain ⟨ku, hku⟩ : ∃ k : Int, IntKind.u64.wrap c = k := ⟨_, rfl⟩
  have hku0 : 0 ≤ ku ∧ ku < 18446744073709551616 := by
    rw [← hku]
    constructor
    · simp [IntKind.wrap, IntKind.bits, IntKind.signed]; omega
    · simp [IntKind.wrap, IntKind.bits, IntKind.signed]; omega
  go_enter Try.func9, Try.ntmps9
  go_wp2_with fail
  rw [← hW0]
  clear hW0
  refine (wakes_any W0).mono ?_
  rintro e W1 ⟨rfl, b1⟩
  have hO := ownR_any _ _ A W1 (H0.out.1.later (later_trans H0.out.2.2.1 b1))
  have HO := Lib.hid hO
  obtain ⟨x0, x1, lX⟩ := two_of2 (kept b1 H0.out.2.2.2)
  have H1 := Lib.hid b1
  clear b1 hO
  go_wp2_with fail
  refine HO.out.mono ?_
  rintro e W2 ⟨v1, v2, rfl, hO, b2⟩
  obtain ⟨A', hA'⟩ : ∃ R, cutL A = R := ⟨_, rfl⟩
  have hsA := cutL_small A
  rw [hA'] at hO hsA
  obtain ⟨p1, k1, p2, k2, rfl, rfl⟩ := hO.shape
  obtain ⟨W3, hW3⟩ : ∃ W, W = W2.alloc (.cells #[.slice p1 A'.vars.length k1, .slice p2 A'.rows.length k2] 25) := ⟨_, rfl⟩
  have b3 : Below W2.heap.size W2 W3 := by rw [hW3]; exact later_alloc _ _
  have hX3 : RB W3 W2.heap.size (.slice p1 A'.vars.length k1) (.slice p2 A'.rows.length k2) := by rw [hW3]; exact box_new _ _ _
  have b13 := later_trans b2 b3
  have bw3 := later_trans (later_trans H0.out.2.2.1 H1.out) b13
  obtain ⟨os, hos⟩ : ∃ l, o.take q6 = l := ⟨_, rfl⟩
  have hol : os.length = q6 := by rw [← hos, List.length_take]; omega
  have hC := cloneI_any (.slice ao q6 co) os W3 (by rw [← hos]; exact SlI.later ((SlI.cut2 (k := .i64) H0.out.2.1 hql)) bw3) (by omega)
  rw [hol] at hC
  have HC := Lib.hid hC
  have H3 := Lib.hid (And.intro ((hO.later b3).rlR) (And.intro hX3 (And.intro bw3 (And.intro hsA (And.intro hol (fun x (hx : x ∈ os) => H0.out.2.1.2 x (by rw [← hos] at hx; exact List.mem_of_mem_take hx)))))))
  clear x0 x1 lX hO b2 hX3 b13 bw3 hC hA' hsA hol hos b3
  go_upto_region 4 with fail
  rw [← hW3]
  clear hW3
  go_wp2_with fail
  refine HC.out.mono ?_
  rintro e W4 ⟨vo, rfl, hvo, b4⟩
  obtain ⟨ap, cp, rfl⟩ := owns_shape2 hvo
  have hos4 : SlI .i64 W4 (.slice ap q6 cp) os := SlI.of_owns hvo H3.out.2.2.2.2.2
  have hqcp : q6 ≤ cp := by
    obtain ⟨_, _, e1, h1, _, _⟩ := hos4.open
    injection e1 with _ e2 e3
    have := H3.out.2.2.2.2.1
    omega
  have hX4 := kept b4 H3.out.2.1
  have hA4 := H3.out.1.later b4
  have hP := Project_any _ _ _ A' os W4 hA4 hos4 (by have := H3.out.2.2.2.2.1; omega)
  have HP := Lib.hid hP
  obtain ⟨x0, x1, lX⟩ := two_of2 hX4
  have H4 := Lib.hid (And.intro hA4 (And.intro hX4 (And.intro hos4 (later_trans H3.out.2.2.1 b4))))
  clear hvo hos4 hX4 hA4 hP b4
  go_wp2_with fail
  refine HP.out.mono ?_
  rintro e W5 ⟨b5, g1, g2, no, rfl, hPR⟩
  rcases hPR.bad_or with ⟨hno, rfl, rfl⟩ | ⟨hr, hon, hha, rfl, oP⟩
  · have hb9 := later_trans H4.out.2.2.2 (later_trans b5 (later_alloc W5 (.cells #[.slice none 0 0, .slice none 0 0] 25)))
    have H9 := Lib.hid hb9
    clear hb9 b5 hPR x0 x1 lX
    rcases hno with rfl | rfl | rfl
    all_goals
      go_wp2_with fail
      go_ret
      exact ⟨rfl, H9.out⟩
  · obtain ⟨P, hPp⟩ : ∃ R, projL A' os = R := ⟨_, rfl⟩
    have hPv : P.vars = os := by rw [← hPp]; rfl
    rw [hPp] at oP
    obtain ⟨n1, m1, n2, m2, rfl, rfl⟩ := oP.shape
    obtain ⟨W6, hW6⟩ : ∃ W, W = W5.alloc (.cells #[.slice n1 P.vars.length m1, .slice n2 P.rows.length m2] 25) := ⟨_, rfl⟩
    have b6 : Below W5.heap.size W5 W6 := by rw [hW6]; exact later_alloc _ _
    have hX6 : RB W6 W5.heap.size (.slice n1 P.vars.length m1) (.slice n2 P.rows.length m2) := by rw [hW6]; exact box_new _ _ _
    have b46 := later_trans b5 b6
    obtain ⟨k, hk⟩ : ∃ k : Nat, (k : Int) = ku % ((q6 : Int) + 1) := ⟨(ku % ((q6 : Int) + 1)).toNat, Int.toNat_of_nonneg (Int.emod_nonneg _ (by omega))⟩
    have hkq : k ≤ q6 := by have := Int.emod_lt_of_pos ku (show (0 : Int) < (q6 : Int) + 1 by omega); omega
    have H6 := Lib.hid (And.intro (H4.out.1.later b46) (And.intro (kept b46 H4.out.2.1) (And.intro (SlI.later H4.out.2.2.1 b46) (And.intro (later_trans H4.out.2.2.2 b46) (And.intro (oP.later b6) (And.intro hX6 (And.intro hr (And.intro hon (And.intro hha (And.intro hPp hPv))))))))))
    have hwu : IntKind.u64.wrap ((q6 : Int) + 1) = (q6 : Int) + 1 := by simp [IntKind.wrap, IntKind.bits, IntKind.signed]; omega
    have htm : Int.tmod ku ((q6 : Int) + 1) = (k : Int) := by rw [Int.tmod_eq_emod_of_nonneg hku0.1, hk]
    have hwk : IntKind.i64.wrap (k : Int) = (k : Int) := by simp [IntKind.wrap, IntKind.bits, IntKind.signed]; omega
    have hne : ¬ ((q6 : Int) + 1 = 0) := by omega
    clear b5 hPR x0 x1 lX b6 hX6 b46 hr hon hha hPp hPv oP hk
    go_upto_region 9 with fail
    rw [← hW6]
    clear hW6
    obtain ⟨Q, hQ⟩ : ∃ R, projL A' (os.take k) = R := ⟨_, rfl⟩
    have hol := H3.out.2.2.2.2.1
    have hkl : (os.take k).length ≤ 1048576 := by rw [List.length_take]; omega
    have hko : k ≤ os.length := by omega
    have okA := Ok.of H6.out.2.2.2.2.2.2.1 (U64.of H6.out.1)
    have hon := H6.out.2.2.2.2.2.2.2.1
    have hha := H6.out.2.2.2.2.2.2.2.2.1
    have hPp := H6.out.2.2.2.2.2.2.2.2.2.1
    have honk := once_take hon k
    have rP : rightB P = true := by rw [← hPp]; exact proj_right H6.out.2.2.2.2.2.2.1 (once_iff.1 hon) (has_iff hha)
    have eQ : projL P (os.take k) = Q := by rw [← hPp, ← hQ]; exact proj_proj okA (once_iff.1 hon) (once_iff.1 honk) (fun v hv => List.mem_of_mem_take hv)
    have HPr : Hid (∀ W, Below W6.heap.size W6 W → Calls Try.prog 14 #[relV (.slice n1 P.vars.length m1) (.slice n2 P.rows.length m2), .slice ap k cp] W fun e w' => ∃ v1 v2, e = .returned (.tuple #[relV v1 v2, .int .i64 0]) ∧ OwnRl W.heap.size w' v1 v2 Q ∧ Below W.heap.size W w') := Lib.hid (fun W hb => by
      refine (Project_any _ _ _ P (os.take k) W (H6.out.2.2.2.2.1.rlR.later hb) (SlI.later (SlI.cut2 (k := .i64) H6.out.2.2.1 hko) hb) hkl).mono ?_
      rintro e w' ⟨b, v1, v2, no, rfl, hPR⟩
      obtain ⟨rfl, hO⟩ := hPR.ok rP honk (has_self fun v hv => by rw [H6.out.2.2.2.2.2.2.2.2.2.2]; exact List.mem_of_mem_take hv)
      rw [eQ] at hO
      exact ⟨v1, v2, rfl, hO, b⟩)
    have HPr2 : Hid (∀ W, Below W6.heap.size W6 W → Calls Try.prog 14 #[relV (.slice p1 A'.vars.length k1) (.slice p2 A'.rows.length k2), .slice ap k cp] W fun e w' => ∃ v1 v2, e = .returned (.tuple #[relV v1 v2, .int .i64 0]) ∧ OwnRl W.heap.size w' v1 v2 Q ∧ Below W.heap.size W w') := Lib.hid (fun W hb => by
      refine (Project_any _ _ _ A' (os.take k) W (H6.out.1.later hb) (SlI.later (SlI.cut2 (k := .i64) H6.out.2.2.1 hko) hb) hkl).mono ?_
      rintro e w' ⟨b, v1, v2, no, rfl, hPR⟩
      obtain ⟨rfl, hO⟩ := hPR.ok H6.out.2.2.2.2.2.2.1 honk (has_take hha k)
      rw [hQ] at hO
      exact ⟨v1, v2, rfl, hO, b⟩)
    have HokA := Lib.hid okA
    have hkcp : k ≤ cp := by omega
    clear hQ hol hkl hko okA hon hha hPp honk rP eQ
    go_cut [9, 11] (fun s9 s11 wx => ∃ (X : Nat) (v1 v2 : Value), s9 = .int .i64 0 ∧ s11 = .pointer (some ⟨X, 0, none⟩) ∧ RB wx X v1 v2 ∧ OwnRl W6.heap.size wx v1 v2 Q ∧ Below W6.heap.size W6 wx)
    case first =>
      obtain ⟨x0, x1, lX⟩ := two_of2 H6.out.2.2.2.2.2.1
      go_region_law (first
        | (go_simp; refine (HPr.out _ (later_drew _)).mono ?_; rintro e W9 ⟨v1, v2, rfl, hO, b9⟩; obtain ⟨f1, d1, f2, d2, rfl, rfl⟩ := hO.shape; have hb9 := later_trans (later_drew _) b9; have HO9 := Lib.hid (And.intro hO hb9); clear hO hb9)
        | (go_simp; refine (HPr.out _ (later_trans (later_drew _) (later_alloc _ _))).mono ?_; rintro e W9 ⟨v1, v2, rfl, hO, b9⟩; obtain ⟨f1, d1, f2, d2, rfl, rfl⟩ := hO.shape; have hb9 := later_trans (later_trans (later_drew _) (later_alloc _ _)) b9; have hY : RB W9 W6.heap.size (.slice none 0 0) (.slice none 0 0) := kept b9 (box_new W6.drew _ _); obtain ⟨y0, y1, lY⟩ := two_of2 hY; have fY0 := box_frozen (i := 0) hY; have fY1 := box_frozen (i := 1) hY; have HO9 := Lib.hid (And.intro hO (And.intro hb9 hY)); clear hO hb9 hY))
      all_goals (try go_wp2_with fail)
      all_goals go_meet
      all_goals first
        | exact ⟨_, _, _, rfl, rfl, box_new _ _ _, (HO9.out.1.down (Nat.le_refl _)).later (later_alloc _ _), later_trans HO9.out.2 (later_alloc _ _)⟩
        | exact ⟨_, _, _, rfl, rfl, rb_put HO9.out.2.2 _ _, rb_put_own HO9.out.2.2 _ _ (HO9.out.1.down (by simp)), rb_put_below HO9.out.2.1 (Nat.le_refl _) _ _⟩
    case rest =>
      obtain ⟨X, v1, v2, rfl, rfl, hX, oQ, hb⟩ := hcut
      obtain ⟨W7, rfl⟩ : ∃ W, W = wc := ⟨_, rfl⟩
      obtain ⟨f1, d1, f2, d2, rfl, rfl⟩ := oQ.shape
      have H7 := Lib.hid (And.intro hX (And.intro oQ hb))
      clear hX oQ hb
      refine ‹∀ (a : Act) (w_1 : World), _ → _› _ _ ?_
      go_upto_region 10 with fail
      go_cut [12, 13] (fun s12 s13 wx => ∃ (Y : Nat) (v1 v2 : Value), s12 = .pointer (some ⟨Y, 0, none⟩) ∧ s13 = .int .i64 0 ∧ RB wx Y v1 v2 ∧ OwnRl W7.heap.size wx v1 v2 Q ∧ Below W7.heap.size W7 wx)
      case first =>
        obtain ⟨x0, x1, lX⟩ := two_of2 (kept H7.out.2.2 H6.out.2.1)
        go_region_law (first
          | (go_simp; refine (HPr2.out _ (later_trans H7.out.2.2 (later_drew _))).mono ?_; rintro e W9 ⟨v1, v2, rfl, hO, b9⟩; obtain ⟨f1, d1, f2, d2, rfl, rfl⟩ := hO.shape; have hb9 := later_trans (later_drew _) b9; have HO9 := Lib.hid (And.intro hO hb9); clear hO hb9)
          | (go_simp; refine (HPr2.out _ (later_trans H7.out.2.2 (later_trans (later_drew _) (later_alloc _ _)))).mono ?_; rintro e W9 ⟨v1, v2, rfl, hO, b9⟩; obtain ⟨f1, d1, f2, d2, rfl, rfl⟩ := hO.shape; have hb9 := later_trans (later_trans (later_drew _) (later_alloc _ _)) b9; have hY : RB W9 W7.heap.size (.slice none 0 0) (.slice none 0 0) := kept b9 (box_new W7.drew _ _); obtain ⟨y0, y1, lY⟩ := two_of2 hY; have fY0 := box_frozen (i := 0) hY; have fY1 := box_frozen (i := 1) hY; have HO9 := Lib.hid (And.intro hO (And.intro hb9 hY)); clear hO hb9 hY))
        all_goals (try go_wp2_with fail)
        all_goals go_meet
        all_goals first
          | exact ⟨_, _, _, rfl, rfl, box_new _ _ _, (HO9.out.1.down (Nat.le_refl _)).later (later_alloc _ _), later_trans HO9.out.2 (later_alloc _ _)⟩
          | exact ⟨_, _, _, rfl, rfl, rb_put HO9.out.2.2 _ _, rb_put_own HO9.out.2.2 _ _ (HO9.out.1.down (by simp)), rb_put_below HO9.out.2.1 (Nat.le_refl _) _ _⟩
      case rest =>
        obtain ⟨Y, v1, v2, rfl, rfl, hY, oQ2, hb2⟩ := hcut
        obtain ⟨W8, rfl⟩ : ∃ W, W = wc := ⟨_, rfl⟩
        obtain ⟨f3, d3, f4, d4, rfl, rfl⟩ := oQ2.shape
        have hSm := Same_any _ _ _ _ Q Q W8 (H7.out.2.1.rlR.later hb2) oQ2.rlR
        rw [decide_eq_true rfl] at hSm
        have HSm := Lib.hid hSm
        obtain ⟨x0, x1, lX⟩ := two_of2 (kept hb2 H7.out.1)
        obtain ⟨y0, y1, lY⟩ := two_of2 hY
        have b68 := later_trans H7.out.2.2 hb2
        have H8 := Lib.hid (And.intro (H6.out.1.later b68) (And.intro (kept b68 H6.out.2.1) (later_trans H6.out.2.2.2.1 b68)))
        clear hY oQ2 hb2 hSm b68
        refine ‹∀ (a : Act) (w_1 : World), _ → _› _ _ ?_
        go_wp2_with fail
        refine HSm.out.mono ?_
        rintro e W9 ⟨rfl, b9⟩
        clear x0 x1 lX y0 y1 lY
        obtain ⟨x0, x1, lX⟩ := two_of2 (kept b9 H8.out.2.1)
        have H9 := Lib.hid (And.intro (H8.out.1.later b9) (And.intro (kept b9 H8.out.2.1) (later_trans H8.out.2.2 b9)))
        have hv8 := H3.out.2.2.2.1.1
        have hr20 := H3.out.2.2.2.1.2
        have hrA := H6.out.2.2.2.2.2.2.1
        have hwd := HokA.out.wd
        have HA := Lib.hid (And.intro hrA hwd)
        obtain ⟨i0, hi, hz0, hz1, hz2⟩ := info_parts info_rowU
        have hmm := @run_makeMap Try.prog
        clear b9 hrA hwd
        go_wp2_with fail
        go_loopw [85] (fun i wr => ∃ k : Nat, k ≤ A'.vars.length ∧ i = .int .i64 k ∧ Below W9.heap.size W9 wr) (fun i _ => A'.vars.length - (intOf i).toNat)
        case atStart => exact ⟨0, Nat.zero_le _, rfl, Below.refl _ _⟩
        case round =>
          obtain ⟨i, hi8, rfl, hb⟩ := hrel
          obtain ⟨wi, rfl⟩ : ∃ W, W = wr := ⟨_, rfl⟩
          clear x0 x1 lX
          have Hb := Lib.hid hb
          by_cases hlt : i < A'.vars.length
          · obtain ⟨_, _, e1, _, _, _, g4⟩ := (H9.out.1.vars.later hb).open
            obtain ⟨be, oe, e2, _, gc⟩ := g4 (by omega)
            have ce1 := gc i hlt
            injection e1 with e1a e1b e1c
            subst e1a
            subst e2
            obtain ⟨v, hv⟩ : ∃ v, A'.vars[i] = v := ⟨_, rfl⟩
            rw [hv] at ce1
            obtain ⟨Wm, hWm⟩ : ∃ W, W = wi.alloc (.map #[] 0) := ⟨_, rfl⟩
            have bm : Below wi.heap.size wi Wm := by rw [hWm]; exact later_alloc _ _
            have hM0 : MpU Wm wi.heap.size 0 [] := by rw [hWm]; exact MpU.made wi
            obtain ⟨x0, x1, lX⟩ := two_of2 (kept hb H9.out.2.1)
            have HI := Lib.hid (And.intro hlt (And.intro hv (And.intro bm (And.intro hM0 hM0.lt))))
            clear gc g4 e1b e1c hv bm hM0 hb
            go_wp2_with fail
            rw [← hWm]
            clear hWm
            go_loopw [94, 16] (fun j rv wr => ∃ (n : Nat) (M : List Int) (ps : List (Value × List Int)), n ≤ A'.rows.length ∧ j = .int .i64 n ∧ OwnRK .u64 38 26 (wi.heap.size + 1) wr rv ps ∧ Some1 A' i M (ps.map Prod.snd) ∧ (∀ l, l < n → (rowN A'.rows l).getD i 0 ∈ M) ∧ MpU wr wi.heap.size n M ∧ ps.length ≤ n * 20 ∧ Below wi.heap.size wi wr) (fun j _ _ => A'.rows.length - (intOf j).toNat)
            case atStart => exact ⟨0, [], [], Nat.zero_le _, rfl, OwnRK.nil _ _ _ _ _, Some1.nil _ _, fun l hl => by omega, HI.out.2.2.2.1, Nat.zero_le _, HI.out.2.2.1⟩
            case round =>
              obtain ⟨n, M, ps, hn, rfl, hO, hS, hM, hmp, hpl, hb2⟩ := hrel
              obtain ⟨v7, cv7, rfl⟩ := owns_shape2 hO.own
              have HR := Lib.hid (And.intro hO (And.intro hS (And.intro hM (And.intro hmp (And.intro hpl hb2)))))
              by_cases hlj : n < A'.rows.length
              · obtain ⟨_, _, e1, _, _, _, f4⟩ := (H9.out.1.rows.later Hb.out).open
                obtain ⟨bR, oR, e2, -, fc⟩ := f4 (by omega)
                simp only [Value.slice.injEq] at e1
                obtain ⟨rfl, -, rfl⟩ := e1
                subst e2
                obtain ⟨rv', cr1, hrv⟩ := fc n hlj
                change SlI .u64 wi rv' (rowN A'.rows n) at hrv
                obtain ⟨row, hrow⟩ : ∃ row, rowN A'.rows n = row := ⟨_, rfl⟩
                have hrl : row.length = A'.vars.length := by rw [← hrow]; exact HA.out.2 _ (rowN_mem hlj)
                have hrm : row ∈ A'.rows := by rw [← hrow]; exact rowN_mem hlj
                rw [hrow] at hrv
                obtain ⟨aw, cw, rfl, -, -, -, g4⟩ := hrv.open
                obtain ⟨bb, ob, rfl, -, gc⟩ := g4 (by omega)
                have cr2 := gc i (by omega)
                have hxm := hrv.2 row[i] (List.getElem_mem (by omega))
                have hxd : row.getD i 0 = row[i] := getD_at (by omega)
                obtain ⟨x, hx⟩ : ∃ x, row[i] = x := ⟨_, rfl⟩
                rw [hx] at cr2 hxd hxm
                have cr1' := cell_next hb2 cr1
                have cr2' := cell_next hb2 cr2
                have hL := hmp.look hxm
                have hI := inI_one (l := M) (x := x)
                obtain ⟨qv, hqv⟩ : ∃ q, inI M x = q := ⟨_, rfl⟩
                rw [hqv] at hL hI
                have hir : i < row.length := by omega
                have HRow := Lib.hid (And.intro hlj (And.intro hrow (And.intro hrl (And.intro hrm hxd))))
                clear f4 fc hrow hrl hrm hrv g4 gc hx hxd hqv hO hS hM hmp hpl hb2 x0 x1
                obtain ⟨x0, x1, lX⟩ := two_of2 (kept (later_trans Hb.out HR.out.2.2.2.2.2) H9.out.2.1)
                by_cases hin : x ∈ M
                · have hq1 : (qv == 1) = true := by rw [hI, decide_eq_true hin]
                  have HN := Lib.hid hin
                  clear hI hin
                  go_wp2_with fail
                  go_roundw
                  case rel => exact ⟨n + 1, M, ps, HRow.out.1, by go_num, HR.out.1, HR.out.2.1, fun l hl => by
                    by_cases e : l = n
                    · subst e; rw [HRow.out.2.1, HRow.out.2.2.2.2]; exact HN.out
                    · exact HR.out.2.2.1 l (by omega), HR.out.2.2.2.1.mono (by omega), by have := HR.out.2.2.2.2.1; omega, HR.out.2.2.2.2.2⟩
                  case measure => simp [intOf]; omega
                · have hq1 : (qv == 1) = false := by rw [hI, decide_eq_false hin]
                  have hkm : n < maxLen := by unfold maxLen; omega
                  obtain ⟨D, hD1, hD2⟩ := HR.out.2.2.2.1
                  clear hI hin
                  go_upto_region 23 with (at_mapUpdate; refine wpList_mapUpdate_own _ rfl _ _ _ 53 rfl 38 3 lawU Try.underlying53 _ wi.heap.size n D rfl hD1 hkm _ _ _ rfl rfl (keyOf_int_mk Try.underlying38 hxm) _ [] (plainElem_int Try.underlying3 (by decide)) ?_; intro w1 hown1 hgrow1)
                  go_wp2_with fail
                  have hm1 := MpU.put hD2 hxm hD1 hown1
                  have b1 : Below wi.heap.size wi w1 := HR.out.2.2.2.2.2.grown hgrow1 HR.out.2.2.2.2.2.size (fun k e => by cases e; exact Nat.le_refl _)
                  have hO1 := HR.out.1.above (fun b hb hbl => hgrow1.block b hbl (fun e => by cases e; omega))
                  have h1s := hm1.lt
                  obtain ⟨T, hT⟩ : ∃ T, pickL A' v x = T := ⟨_, rfl⟩
                  have hTl : T.rows.length ≤ 20 := by rw [← hT]; exact Nat.le_trans (pick_len _ _ _) hr20
                  have hTp : 0 < T.rows.length := by rw [← hT, ← HI.out.2.1, ← HRow.out.2.2.2.2]; exact pick_pos HokA.out HI.out.1 HRow.out.2.2.2.1
                  have hTn : Some1 A' i (M ++ [x]) (ps.map Prod.snd ++ T.rows) := by rw [← hT, ← HI.out.2.1]; exact HR.out.2.1.next HokA.out HI.out.1 x
                  have hvm : v ∈ A'.vars := by rw [← HI.out.2.1]; exact List.getElem_mem HI.out.1
                  have HPk : Hid (∀ W, Below w1.heap.size w1 W → Calls Try.prog 19 #[relV (.slice (some ⟨be, oe, none⟩) A'.vars.length k1) (.slice (some ⟨bR, oR, none⟩) A'.rows.length k2), .int .i64 v, .int .u64 x] W fun e w' => ∃ v1 v2, e = .returned (.tuple #[relV v1 v2, .int .i64 0]) ∧ OwnRl W.heap.size w' v1 v2 T ∧ Below W.heap.size W w') := Lib.hid (fun W hbW => by
                    refine (Pick_any _ _ A' v x W (H9.out.1.later (later_trans (later_trans Hb.out b1) hbW))).mono ?_
                    rintro e w' ⟨b, v1, v2, no, rfl, -, -, hp3⟩
                    obtain ⟨rfl, hO⟩ := hp3 HA.out.1 hvm
                    rw [hT] at hO
                    exact ⟨v1, v2, rfl, hO, b⟩)
                  have HM1 := Lib.hid (And.intro hm1 (And.intro b1 (And.intro hO1 (And.intro hTn hTp))))
                  have hbb := later_trans Hb.out b1
                  have cr1'' := cell_next b1 cr1
                  have cr2'' := cell_next b1 cr2
                  have lbb : bb < w1.heap.size := World.block_lt_of_cell? _ _ cr2''
                  clear x0 x1 lX cr1 cr2 cr1' cr2' hL hm1 b1 hO1 hTn hT hgrow1 hown1 hD2 hD1 hvm
                  obtain ⟨x0, x1, lX⟩ := two_of2 (kept hbb H9.out.2.1)
                  clear hbb
                  simp only [show ∀ (a : Act) (v : Value), a.put none v = a from fun _ _ => rfl]
                  go_cut [20, 21] (fun s20 s21 wx => ∃ (Z : Nat) (v1 v2 : Value), s20 = .pointer (some ⟨Z, 0, none⟩) ∧ s21 = .int .i64 0 ∧ RB wx Z v1 v2 ∧ OwnRl w1.heap.size wx v1 v2 T ∧ Below w1.heap.size w1 wx)
                  case first =>
                    go_region_law (first
                      | (go_simp; refine (HPk.out _ (later_drew _)).mono ?_; rintro e W9 ⟨v1, v2, rfl, hO, b9⟩; obtain ⟨f1, d1, f2, d2, rfl, rfl⟩ := hO.shape; have hb9 := later_trans (later_drew _) b9; have HO9 := Lib.hid (And.intro hO hb9); clear hO hb9)
                      | (go_simp; refine (HPk.out _ (later_trans (later_drew _) (later_alloc _ _))).mono ?_; rintro e W9 ⟨v1, v2, rfl, hO, b9⟩; obtain ⟨f1, d1, f2, d2, rfl, rfl⟩ := hO.shape; have hb9 := later_trans (later_trans (later_drew _) (later_alloc _ _)) b9; have hY : RB W9 w1.heap.size (.slice none 0 0) (.slice none 0 0) := kept b9 (box_new w1.drew _ _); obtain ⟨y0, y1, lY⟩ := two_of2 hY; have fY0 := box_frozen (i := 0) hY; have fY1 := box_frozen (i := 1) hY; have HO9 := Lib.hid (And.intro hO (And.intro hb9 hY)); clear hO hb9 hY))
                    all_goals (try go_wp2_with fail)
                    all_goals go_meet
                    all_goals first
                      | exact ⟨_, _, _, rfl, rfl, box_new _ _ _, (HO9.out.1.down (Nat.le_refl _)).later (later_alloc _ _), later_trans HO9.out.2 (later_alloc _ _)⟩
                      | exact ⟨_, _, _, rfl, rfl, rb_put HO9.out.2.2 _ _, rb_put_own HO9.out.2.2 _ _ (HO9.out.1.down (by simp)), rb_put_below HO9.out.2.1 (Nat.le_refl _) _ _⟩
                  case rest =>
                    obtain ⟨Z, v1, v2, rfl, rfl, hZ, oT, hbT⟩ := hcut
                    obtain ⟨wt, rfl⟩ : ∃ W, W = wc := ⟨_, rfl⟩
                    clear x0 x1 lX cr1'' cr2''
                    obtain ⟨qs, hq1', hq2⟩ := oT.rows
                    have hql' : qs.length = T.rows.length := by rw [← hq2, List.length_map]
                    obtain ⟨g, cg, rfl, hgc⟩ := own_src hq1'.own (by have := HM1.out.2.2.2.2; omega)
                    obtain ⟨at_, ct, rfl⟩ := owns_shape2 oT.vars
                    obtain ⟨z0, z1, lZ⟩ := two_of2 hZ
                    have hOt := HM1.out.2.2.1.later hbT
                    have hqt := hq1'.down (show wi.heap.size + 1 ≤ w1.heap.size by omega)
                    have hOw := hOt.own
                    have hsz := hbT.size
                    have HT := Lib.hid (And.intro hOt (And.intro hqt (And.intro hq2 (And.intro hbT hql'))))
                    have hq1c := hq1'.one
                    have hml : (qs.map Prod.fst).length = qs.length * 1 := by simp
                    have hnl : ps.length + qs.length ≤ 1048576 := by have := HR.out.2.2.2.2.1; omega
                    clear hq1' hq2 hql' hOt hqt hbT hZ oT
                    refine ‹∀ (a : Act) (w_1 : World), _ → _› _ _ ?_
                    go_wp2_with (at_builtin; refine wpList_append_own _ rfl (.tmp 122) (.tmp 124) 23 rfl (wi.heap.size + 1) 26 i0 _ 1 24 Try.underlying23 hi hz0 hz1 hz2 rfl (by decide) _ _ _ rfl hOw ⟨g, 0, none⟩ qs.length cg (qs.map Prod.fst) rfl hml hgc hq1c (by unfold maxLen; omega) (by omega) (by omega) ?_; intro v6 w6 hown6 hgrow6 _)
                    have hb6 : Below wi.heap.size wt w6 := (Below.refl _ wt).grown hgrow6 (by omega) (fun k e => by have := owns_above hOw k e; omega)
                    have hb6' := (later_trans HM1.out.2.1 (HT.out.2.2.2.1.mono (by omega))).trans hb6
                    have hm6 : MpU w6 wi.heap.size (n + 1) (M ++ [x]) := (HM1.out.1.later HT.out.2.2.2.1).block (hgrow6.block _ (by omega) (fun e => by have h7 : (Value.slice v7 ps.length cv7).ownBlock = some wi.heap.size := e.symm; have := owns_above hOw _ h7; omega))
                    have HF := Lib.hid (And.intro (HT.out.1.join (by decide) HT.out.2.1 hown6 hgrow6) (And.intro hm6 hb6'))
                    clear hown6 hgrow6 hb6 hb6' hm6 z0 z1 lZ
                    go_roundw
                    case rel => exact ⟨n + 1, M ++ [x], ps ++ qs, HRow.out.1, by go_num, HF.out.1, by rw [List.map_append, HT.out.2.2.1]; exact HM1.out.2.2.2.1, fun l hl => by
                      by_cases e : l = n
                      · subst e; rw [HRow.out.2.1, HRow.out.2.2.2.2]; exact List.mem_append_right _ (List.mem_singleton.2 rfl)
                      · exact List.mem_append_left _ (HR.out.2.2.1 l (by omega)), HF.out.2.1, by have h1 := HR.out.2.2.2.2.1; have h2 := HT.out.2.2.2.2; rw [List.length_append]; omega, HF.out.2.2⟩
                    case measure => simp [intOf]; omega
              · obtain rfl : n = A'.rows.length := by omega
                have hall := hS.all HokA.out (fun r hr => by
                  obtain ⟨l, hl, e⟩ := List.getElem_of_mem hr
                  have := hM l hl
                  rwa [rowN_at hl, e] at this)
                have hlen : (ps.map Prod.snd).length ≤ 1048576 := by
                  rw [List.length_map]
                  have : A'.rows.length * 20 ≤ 20 * 20 := Nat.mul_le_mul_right _ hr20
                  omega
                have hvr := (H9.out.1.vars.later (later_trans Hb.out hb2))
                have hOf := Of_any _ _ A'.vars (ps.map Prod.snd) wr hvr hO.slR (by omega) hlen
                rw [hS.bad HA.out.1] at hOf
                have HOf := Lib.hid hOf
                have HX := Lib.hid (And.intro hall (later_trans Hb.out hb2))
                clear x0 x1 lX
                obtain ⟨x0, x1, lX⟩ := two_of2 (kept HX.out.2 H9.out.2.1)
                clear hall hlen hvr hOf hO hS hM hmp hpl hb2
                go_wp2_with fail
                refine HOf.out.mono ?_
                rintro e Wo ⟨bo, v1, v2, no, rfl, hok, -⟩
                obtain ⟨rfl, oW⟩ := hok trivial
                rw [HX.out.1] at oW
                obtain ⟨r1, s1, r2, s2, rfl, rfl⟩ := oW.shape
                obtain ⟨Wp, hWp⟩ : ∃ W, W = Wo.alloc (.cells #[.slice r1 A'.vars.length s1, .slice r2 A'.rows.length s2] 25) := ⟨_, rfl⟩
                have bp : Below Wo.heap.size Wo Wp := by rw [hWp]; exact later_alloc _ _
                have hX22 : RB Wp Wo.heap.size (.slice r1 A'.vars.length s1) (.slice r2 A'.rows.length s2) := by rw [hWp]; exact box_new _ _ _
                have b9p := later_trans HX.out.2 (later_trans bo bp)
                have hSm := Same_any _ _ _ _ A' A' Wp (oW.rlR.later bp) (H9.out.1.later b9p)
                rw [decide_eq_true rfl] at hSm
                have HSm := Lib.hid hSm
                clear x0 x1 lX
                obtain ⟨x0, x1, lX⟩ := two_of2 (kept b9p H9.out.2.1)
                obtain ⟨y0, y1, lY⟩ := two_of2 hX22
                have HP9 := Lib.hid b9p
                clear hok oW bo bp hX22 b9p hSm
                go_upto_region 29 with fail
                rw [← hWp]
                clear hWp
                go_wp2_with fail
                refine HSm.out.mono ?_
                rintro e Wq ⟨rfl, bq⟩
                have HQ := Lib.hid (later_trans HP9.out bq)
                clear bq x0 x1 lX y0 y1 lY
                go_wp2_with fail
                go_roundw
                case rel => exact ⟨i + 1, HI.out.1, by go_num, HQ.out⟩
                case measure => simp [intOf]; omega
          · go_wp2_with fail
            go_ret
            exact ⟨rfl, later_trans H9.out.2.2 Hb.out⟩
end Go.Proofs.Ytdeiinfljfgmeaa
