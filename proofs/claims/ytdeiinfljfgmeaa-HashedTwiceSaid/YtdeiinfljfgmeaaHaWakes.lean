/-
  The law's wakes, walked.
-/
import Derived.Test.YtdeiinfljfgmeaaHaWak
namespace Go.Proofs.Ytdeiinfljfgmeaa
open Go.RowKit
set_option linter.unusedVariables false
set_option linter.unusedSimpArgs false

set_option maxRecDepth 100000 in
set_option maxHeartbeats 4000000 in
theorem wakes_any (w : World) :
    Calls Try.prog 10 #[] w fun e w' => e = .returned (.bool true) ∧ Below w.heap.size w w' := by
  go_enter Try.func10, Try.ntmps10
  go_wp2_with fail
  refine (small_any w).mono ?_
  rintro e W1 ⟨v1, v2, u1, u2, rfl, oA, oB, b1⟩
  obtain ⟨a1, c1, a2, c2, rfl, rfl⟩ := oA.shape
  obtain ⟨a3, c3, a4, c4, rfl, rfl⟩ := oB.shape
  obtain ⟨W2, hW2⟩ : ∃ W, W = (W1.alloc (.cells #[.slice a1 smallA.vars.length c1, .slice a2 smallA.rows.length c2] 25)).alloc (.cells #[.slice a3 smallB.vars.length c3, .slice a4 smallB.rows.length c4] 25) := ⟨_, rfl⟩
  have b2 : Below W1.heap.size W1 W2 := by rw [hW2]; exact later_trans (later_alloc _ _) (later_alloc _ _)
  have s2 : W2.heap.size = W1.heap.size + 1 + 1 := by rw [hW2, World.size_alloc, World.size_alloc]
  have bA2 : RB W2 W1.heap.size (.slice a1 smallA.vars.length c1) (.slice a2 smallA.rows.length c2) := by rw [hW2]; exact box_alloc (box_new _ _ _) _
  have bB2 : RB W2 (W1.heap.size + 1) (.slice a3 smallB.vars.length c3) (.slice a4 smallB.rows.length c4) := by
    rw [hW2]
    have h := box_new (W1.alloc (.cells #[.slice a1 smallA.vars.length c1, .slice a2 smallA.rows.length c2] 25)) #[.slice a3 smallB.vars.length c3, .slice a4 smallB.rows.length c4] 25
    rw [World.size_alloc] at h
    exact h
  have H2 := Lib.hid (And.intro (oA.rlR.later b2) (And.intro (oB.rlR.later b2) (And.intro (later_trans b1 b2) (And.intro bA2 (And.intro bB2 s2)))))
  clear oA oB b1 b2 bA2 bB2
  go_wp2_with fail
  rw [← hW2]
  clear hW2
  refine (Join_any _ _ _ _ smallA smallB W2 H2.out.1 H2.out.2.1 (by decide) (by decide)).mono ?_
  rintro e W3 ⟨b3, v1, v2, no, rfl, hJ⟩
  obtain ⟨e0, oJ⟩ := hJ.ok right_small.1 right_small.2.1
  rw [join_small] at oJ
  subst e0
  obtain ⟨a5, c5, a6, c6, rfl, rfl⟩ := oJ.shape
  obtain ⟨W4, hW4⟩ : ∃ W, W = W3.alloc (.cells #[.slice a5 joinA.vars.length c5, .slice a6 joinA.rows.length c6] 25) := ⟨_, rfl⟩
  have b4 : Below W3.heap.size W3 W4 := by rw [hW4]; exact later_alloc _ _
  have bJ : RB W4 W3.heap.size (.slice a5 joinA.vars.length c5) (.slice a6 joinA.rows.length c6) := by rw [hW4]; exact box_new _ _ _
  have b24 := later_trans b3 b4
  have bA4 := kept b24 H2.out.2.2.2.1
  have bB4 := kept b24 H2.out.2.2.2.2.1
  have H4 := Lib.hid (And.intro (H2.out.1.later b24) (And.intro (H2.out.2.1.later b24) (And.intro (later_trans H2.out.2.2.1 b24) (And.intro bA4 (And.intro bB4 (And.intro bJ (oJ.later b4)))))))
  obtain ⟨x0, x1, lA⟩ := two_of2 (kept b3 H2.out.2.2.2.1)
  have s3 := b3.size
  clear oJ b3 b4 b24 bA4 bB4 bJ hJ
  go_wp2_with fail
  rw [← hW4]
  clear hW4 x0 x1 lA
  refine (Pick_any _ _ smallA 0 4 W4 H4.out.1).mono ?_
  rintro e W5 ⟨b5, v1, v2, no, rfl, -, -, hP⟩
  obtain ⟨e0, oP⟩ := hP right_small.1 (by decide)
  rw [pick_small] at oP
  subst e0
  obtain ⟨a7, c7, a8, c8, rfl, rfl⟩ := oP.shape
  obtain ⟨W6, hW6⟩ : ∃ W, W = W5.alloc (.cells #[.slice a7 pickA.vars.length c7, .slice a8 pickA.rows.length c8] 25) := ⟨_, rfl⟩
  have b6 : Below W5.heap.size W5 W6 := by rw [hW6]; exact later_alloc _ _
  have bP : RB W6 W5.heap.size (.slice a7 pickA.vars.length c7) (.slice a8 pickA.rows.length c8) := by rw [hW6]; exact box_new _ _ _
  have b46 := later_trans b5 b6
  have H6 := Lib.hid (And.intro (H4.out.1.later b46) (And.intro (H4.out.2.1.later b46) (And.intro (later_trans H4.out.2.2.1 b46) (And.intro (kept b46 H4.out.2.2.2.1) (And.intro (kept b46 H4.out.2.2.2.2.1) (And.intro (kept b46 H4.out.2.2.2.2.2.1) (And.intro (H4.out.2.2.2.2.2.2.later b46) (oP.rlR.later b6))))))))
  obtain ⟨y0, y1, lB⟩ := two_of2 (kept b5 H4.out.2.2.2.2.1)
  have s5 := b5.size
  clear oP b5 b6 b46 bP hP
  go_wp2_with fail
  rw [← hW6]
  clear hW6 y0 y1 lB
  refine (Semi_any _ _ _ _ smallB pickA W6 H6.out.2.1 H6.out.2.2.2.2.2.2.2).mono ?_
  rintro e W7 ⟨b7, v1, v2, no, rfl, hS⟩
  obtain ⟨e0, oS⟩ := hS.ok right_small.2.1 right_small.2.2
  rw [semi_small] at oS
  subst e0
  obtain ⟨a9, c9, a10, c10, rfl, rfl⟩ := oS.shape
  obtain ⟨W8, hW8⟩ : ∃ W, W = (W7.alloc (.cells #[.slice a9 semiA.vars.length c9, .slice a10 semiA.rows.length c10] 25)).alloc (.cells #[.int .i64 2] 3) := ⟨_, rfl⟩
  have b8 : Below W7.heap.size W7 W8 := by rw [hW8]; exact later_trans (later_alloc _ _) (later_alloc _ _)
  have bS : RB W8 W7.heap.size (.slice a9 semiA.vars.length c9) (.slice a10 semiA.rows.length c10) := by rw [hW8]; exact box_alloc (box_new _ _ _) _
  have hI8 : SlI .i64 W8 (.slice (some ⟨W7.heap.size + 1, 0, none⟩) 1 1) [2] := by
    rw [hW8]
    exact SlI.of_owns (base := 0) (lit_at (by simp) (Nat.zero_le _) rfl (Nat.le_of_ble_eq_true rfl)) (fun x hx => by obtain rfl := List.mem_singleton.1 hx; decide)
  have b68 := later_trans b7 b8
  have H8 := Lib.hid (And.intro (H6.out.1.later b68) (And.intro (later_trans H6.out.2.2.1 b68) (And.intro (kept b68 H6.out.2.2.2.2.2.1) (And.intro (H6.out.2.2.2.2.2.2.1.later b68) (And.intro bS hI8)))))
  obtain ⟨x0, x1, lA⟩ := two_of2 (kept b7 H6.out.2.2.2.1)
  have s7 := b7.size
  clear oS b7 b8 b68 bS hS hI8
  go_wp2_with fail
  rw [← hW8]
  clear hW8 x0 x1 lA
  refine (Project_any _ _ _ smallA [2] W8 H8.out.1 H8.out.2.2.2.2.2 (by decide)).mono ?_
  rintro e W9 ⟨b9, v1, v2, no, rfl, hN⟩
  obtain ⟨e0, rfl, rfl⟩ := hN.none right_small.1 (fun j hj => by
    have : j = 0 := by simp at hj; omega
    subst this
    decide) (by decide)
  subst e0
  have bJ9 := kept b9 H8.out.2.2.1
  have bS9 := kept b9 H8.out.2.2.2.2.1
  obtain ⟨z0, z1, lJ⟩ := two_of2 bJ9
  obtain ⟨q0, q1, lS⟩ := two_of2 bS9
  have oJ9 := (H8.out.2.2.2.1.later b9).rlR
  obtain ⟨_, _, e1, _, _, _, g4⟩ := oJ9.rows.open
  obtain ⟨be, oe, e2, _, gc⟩ := g4 (by decide)
  obtain ⟨rv, ce1, hrv⟩ := gc 1 (by decide)
  injection e1 with e1a e1b e1c
  subst e1a
  subst e2
  change SlI .u64 W9 rv [1, 3, 8] at hrv
  obtain ⟨ar, cr, rfl, -⟩ := hrv.open
  have lbe := World.block_lt_of_cell? _ _ ce1
  simp only at lbe
  have hj3 : joinA.vars.length = 3 := rfl
  have hj4 : joinA.rows.length = 4 := rfl
  have hs1 : semiA.rows.length = 1 := rfl
  rw [hj3] at z0
  rw [hj4] at z1
  rw [hs1] at q1
  obtain ⟨W10, hW10⟩ : ∃ W, W = (W9.alloc (.cells #[.slice none 0 0, .slice none 0 0] 25)).alloc (.cells #[.int .i64 0, .int .i64 1, .int .i64 2] 3) := ⟨_, rfl⟩
  have b10 : Below W9.heap.size W9 W10 := by rw [hW10]; exact later_trans (later_alloc _ _) (later_alloc _ _)
  have s10 : W10.heap.size = W9.heap.size + 1 + 1 := by rw [hW10, World.size_alloc, World.size_alloc]
  have hI10 : SlI .i64 W10 (.slice (some ⟨W9.heap.size + 1, 0, none⟩) 3 3) [0, 1, 2] := by
    rw [hW10]
    exact SlI.of_owns (base := 0) (lit_at (by simp) (Nat.zero_le _) rfl (Nat.le_of_ble_eq_true rfl)) (by decide)
  have HE1 := Lib.hid (equalI_any _ _ joinA.vars [0, 1, 2] W10 (SlI.later oJ9.vars b10) hI10)
  have H9 := Lib.hid (And.intro (SlI.later hrv b10) (later_trans (later_trans H8.out.2.1 b9) b10))
  have z0' := cell_next b10 z0
  have z1' := cell_next b10 z1
  have q0' := cell_next b10 q0
  have q1' := cell_next b10 q1
  have ce1' := cell_next b10 ce1
  have s9 := b9.size
  rw [hj3] at HE1
  simp only [hj3, hj4, hs1]
  clear b9 hN bJ9 bS9 oJ9 g4 gc hrv hI10 b10 e1b e1c
  go_wp2_with fail
  rw [← hW10]
  clear hW10 z0 z1 q0 q1 ce1
  refine HE1.out.mono ?_
  rintro e W11 ⟨rfl, nn, h11⟩
  rw [show decide (joinA.vars = [0, 1, 2]) = true from rfl]
  have b11 : Below W10.heap.size W10 W11 := by rw [h11]; exact later_drewN _ _
  clear h11
  have z0 := cell_next b11 z0'
  have z1 := cell_next b11 z1'
  have q0 := cell_next b11 q0'
  have q1 := cell_next b11 q1'
  have ce1 := cell_next b11 ce1'
  have s11 := b11.size
  obtain ⟨W12, hW12⟩ : ∃ W, W = W11.alloc (.cells #[.int .u64 1, .int .u64 3, .int .u64 8] 38) := ⟨_, rfl⟩
  have b12 : Below W11.heap.size W11 W12 := by rw [hW12]; exact later_alloc _ _
  have hI12 : SlI .u64 W12 (.slice (some ⟨W11.heap.size, 0, none⟩) 3 3) [1, 3, 8] := by
    rw [hW12]
    exact SlI.of_owns (base := 0) (lit_at (by simp) (Nat.zero_le _) rfl (Nat.le_of_ble_eq_true rfl)) (by decide)
  have hE2 := equal_any _ _ [1, 3, 8] [1, 3, 8] W12 ((SlI.later H9.out.1 b11).later b12) hI12
  rw [show decide (([1, 3, 8] : List Int) = [1, 3, 8]) = true from rfl] at hE2
  have HE2 := Lib.hid hE2
  clear hE2
  have H12 := Lib.hid (later_trans (later_trans H9.out.2 b11) b12)
  have q0'' := cell_next b12 q0
  have q1'' := cell_next b12 q1
  have s12 := b12.size
  clear b11 b12 hI12 z0' z1' q0' q1' ce1'
  go_wp2_with fail
  rw [← hW12]
  clear hW12 z0 z1 q0 q1 ce1
  refine HE2.out.mono ?_
  rintro e W13 ⟨rfl, nn2, h13⟩
  have b13 : Below W12.heap.size W12 W13 := by rw [h13]; exact later_drewN _ _
  clear h13
  have q0 := cell_next b13 q0''
  have q1 := cell_next b13 q1''
  have H13 := Lib.hid (later_trans H12.out b13)
  clear b13 q0'' q1''
  go_wp2_with fail
  go_ret
  exact ⟨rfl, H13.out⟩
end Go.Proofs.Ytdeiinfljfgmeaa
