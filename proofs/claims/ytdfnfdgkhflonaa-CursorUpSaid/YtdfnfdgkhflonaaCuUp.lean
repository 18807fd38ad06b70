/-
  CursorUp, walked.
-/
import Derived.Test.YtdfnfdgkhflonaaCuQ
namespace Go.Proofs.Ytdfnfdgkhflonaa
open Go.RowKit
set_option linter.unusedVariables false

theorem up_back {bs : List Br} {ls : List Int} {ats : List Nat} : moved bs ls 2 0 (ats ++ [0]) = ats := by simp [moved]
theorem up_may (bs : List Br) (ls : List Int) (ats : List Nat) : whyQ bs ls (ats ++ [0]) 2 = 0 := by simp [whyQ]
theorem whyM_range {bs : List Br} {ls : List Int} {ats : List Nat} {kind : Int} (h : 1 ≤ kind ∧ kind ≤ 4) : whyM bs ls ats kind = whyQ bs ls ats kind := if_neg (by omega)

/-- What the loop keeps. -/
def UpAt (n0 : Nat) (w : World) (c : Nat) (bs : List Br) (ls : List Int) (i : Nat) (last : Int) (wr : World) : Prop :=
  ∃ ats, Cur1 n0 wr c bs ls ats last ∧ Below n0 w wr ∧ 0 ≤ last ∧ last ≤ i * 3000 ∧ i ≤ 20

/-- A cursor, and a move in a box beside it. -/
def UpW (n0 : Nat) (w : World) (c : Nat) (bs : List Br) (ls : List Int) (ats : List Nat) (st : Int) (kind key : Int) (X : Nat) (W : World) : Prop :=
  Cur1 n0 W c bs ls ats st ∧ Below n0 w W ∧ W.heap[X]? = some (.cells #[.int .i64 kind, .int .u64 key] 42 (0, 0))
section
variable {n0 : Nat} {w : World} {c : Nat} {bs : List Br} {ls : List Int} {ats : List Nat} {st : Int} {kind key : Int} {X : Nat} {W W' : World}
theorem UpW.start (h : Cur1 n0 W c bs ls ats st) (hb : Below n0 w W) (kind key : Int) : UpW n0 w c bs ls ats st kind key W.heap.size (W.alloc (.cells #[.int .i64 kind, .int .u64 key] 42)) :=
  ⟨h.later (later_alloc W _), hb.alloc h.low _, box_new W _ _⟩
theorem UpW.later (h : UpW n0 w c bs ls ats st kind key X W) (hb : Below W.heap.size W W') : UpW n0 w c bs ls ats st kind key X W' :=
  ⟨h.1.later hb, h.2.1.trans (hb.mono h.1.low), (hb.block X (lt_of_block h.2.2)).trans h.2.2⟩
theorem UpW.move {ats' : List Nat} {st' : Int} (h : UpW n0 w c bs ls ats st kind key X W) (hc : Cur1 n0 W' c bs ls ats' st') (hb : Below n0 W W') (hk : Keeps W W') : UpW n0 w c bs ls ats' st' kind key X W' :=
  ⟨hc, h.2.1.trans hb, hk _ _ _ _ h.2.2 (by decide) (by decide)⟩
theorem UpW.cells (h : UpW n0 w c bs ls ats st kind key X W) : W.cell? ⟨X, 0, none⟩ = some (.int .i64 kind) ∧ W.cell? ⟨X, 1, none⟩ = some (.int .u64 key) :=
  ⟨by simpa using box_cell (i := 0) h.2.2, by simpa using box_cell (i := 1) h.2.2⟩
end
/-- A path that was handed back. -/
def PathIs (W : World) (v : Value) (xs : List Int) : Prop := (∃ base, W.ownsRow base 38 1 v xs.length (xs.map (.int .u64))) ∧ ∀ x ∈ xs, (Lit.int .u64 x).wf = true
theorem PathIs.mk {W : World} {base : Nat} {v : Value} {xs : List Int} (h : W.ownsRow base 38 1 v xs.length (xs.map (.int .u64))) (hw : ∀ x ∈ xs, (Lit.int .u64 x).wf = true) : PathIs W v xs := ⟨⟨_, h⟩, hw⟩
theorem PathIs.later {W W' : World} {v : Value} {xs : List Int} (h : PathIs W v xs) (hb : Below W.heap.size W W') : PathIs W' v xs := by
  obtain ⟨⟨base, h1⟩, h2⟩ := h; exact ⟨⟨base, owns_later h1 hb⟩, h2⟩
theorem PathIs.keeps {W W' : World} {v : Value} {xs : List Int} (h : PathIs W v xs) (hk : Keeps W W') : PathIs W' v xs := by
  obtain ⟨⟨base, h1⟩, h2⟩ := h; exact ⟨⟨base, sli_keeps h1 hk⟩, h2⟩
theorem PathIs.sli {W : World} {v : Value} {xs : List Int} (h : PathIs W v xs) : SlI .u64 W v xs := by
  obtain ⟨⟨base, h1⟩, h2⟩ := h; exact sli_path h1 h2

set_option maxRecDepth 100000 in
set_option maxHeartbeats 8000000 in
theorem lawUp_walk (vb vl vm : Value) (B0 : List Br) (L0 : List Int) (ms : List Mv) (w : World) (hB : SlB w vb B0) (hL : SlI .u64 w vl L0) (hM : SlM w vm ms) :
    Calls Try.prog 4 #[.agg #[vb, vl], vm] w fun e w' => e = .returned (.bool true) ∧ Below w.heap.size w w' := by
  have HB0 := Lib.hid hB.2
  have HL0 := Lib.hid hL.2
  have HOwn := Lib.hid (fun V (hV : Below w.heap.size w V) => own8_any _ _ B0 L0 V (hB.later hV) (hL.later hV))
  obtain ⟨a, c, rfl, -, -, -, -⟩ := hB.open
  obtain ⟨a', c', rfl, -, -, -, -⟩ := hL.open
  obtain ⟨am, cm, rfl, m1, m2, m3, m4⟩ := hM.open
  have hmm : ms.length ≤ 9223372036854775807 := by omega
  have HM := Lib.hid m4
  clear hB hL hM m1 m2 m3 m4
  go_enter Try.func4, Try.ntmps4
  go_wp2_with fail
  refine (wakes8_any _).mono ?_
  rintro e w1 ⟨rfl, hb1⟩
  have hbw1 := later_trans (later_alloc w _) hb1
  have hx := (hb1.block w.heap.size (by simp)).trans (box_new w _ _)
  have x0 := box_cell (i := 0) hx
  have x1 := box_cell (i := 1) hx
  simp only [List.getElem?_toArray, List.getElem?_cons_zero, List.getElem?_cons_succ] at x0 x1
  clear hx hb1
  go_wp2_with fail
  refine (HOwn.out _ hbw1).mono ?_
  rintro e w2 ⟨vb2, vl2, rfl, ob, ol, hb2⟩
  obtain ⟨bs, hbs⟩ : ∃ bs, B0.take (min B0.length 40) = bs := ⟨_, rfl⟩
  obtain ⟨ls, hls⟩ : ∃ ls, L0.take (min L0.length 80) = ls := ⟨_, rfl⟩
  rw [hbs] at ob
  rw [hls] at ol
  have hfew : bs.length ≤ 40 := by rw [← hbs]; simp; omega
  have sB : SlB w2 vb2 bs := ⟨SlT.of_owns ob, fun b hb => HB0.out b (List.mem_of_mem_take (hbs ▸ hb))⟩
  have sL : SlI .u64 w2 vl2 ls := SlI.of_owns ol (fun x hx => HL0.out x (List.mem_of_mem_take (hls ▸ hx)))
  have hbw2 := later_trans hbw1 hb2
  clear ob ol hbs hls hb2 hbw1 x0 x1
  by_cases hok : TrieOk bs ls
  · have hT : TrieS bs ls := ⟨hok, by omega⟩
    go_wp2_with fail
    refine (New1 _ _ bs ls w2 sB sL hT).mono ?_
    rintro e w3 ⟨cc, rfl, hb3, hc3⟩
    have hc3 := Lib.hid (hc3.down hbw2.size)
    have hbw3 := later_trans hbw2 hb3
    have HT := Lib.hid hT
    clear hT hok sB sL hb3 hbw2
    go_wp2_with fail
    go_loopw [7, 29] (fun last i wr => ∃ (k : Nat) (st : Int), k ≤ ms.length ∧ i = .int .i64 k ∧ last = .int .i64 st ∧ UpAt w.heap.size w cc bs ls k st wr) (fun _ i _ => ms.length - (intOf i).toNat)
    case atStart => exact ⟨0, 0, Nat.zero_le _, rfl, rfl, [], hc3.out, hbw3, by omega, by omega, by omega⟩
    case round =>
      obtain ⟨k, st, hk, rfl, rfl, ats, hc, hb, hs0, hs1, hk20⟩ := hrel
      have hC := Lib.hid hc
      have HB := Lib.hid hb
      clear hc hb hc3 hbw3
      by_cases hlt : k < ms.length
      · obtain ⟨bb, o, rfl, hbb, hcs⟩ := HM.out (by omega)
        obtain ⟨q0, q1⟩ := hcs k hlt
        have q0 := ((bcell HB.out).1 bb (o + k * 2) hbb).trans q0
        have q1 := ((bcell HB.out).1 bb (o + k * 2 + 1) hbb).trans q1
        obtain ⟨m, hm⟩ : ∃ m, ms[k] = m := ⟨_, rfl⟩
        obtain ⟨kind, key⟩ := m
        rw [hm] at q0 q1
        clear hcs hm
        by_cases h20 : k = 20
        · have e20 : ((k : Int) == 20) = true := by rw [h20]; rfl
          clear hk20 h20
          go_wp2_with fail
          try rw [Exit.noGoto_ret]
          go_ret
          exact ⟨rfl, HB.out.alloc (HB.out.size) _⟩
        · have e20 : ((k : Int) == 20) = false := by rw [beq_eq_false_iff_ne]; omega
          have h0 := Lib.hid (UpW.start hC.out HB.out kind key)
          have hs2 : st ≤ 4611686018427387904 := by omega
          clear hC
          go_wp2_with fail
          refine (Path1 h0.out.1).mono ?_
          rintro e p1 ⟨v10, rfl, o10, g⟩
          have h1 := Lib.hid (h0.out.later g)
          have r1 := Lib.hid (PathIs.mk o10 (path_wf h0.out.1))
          clear h0 o10 g
          go_wp2_with fail
          refine (Depth1 h1.out.1).mono ?_
          rintro e p ⟨rfl, rfl⟩
          go_wp2_with fail
          refine (Left1 h1.out.1 HT.out).mono ?_
          rintro e p2 ⟨rfl, j, hw⟩
          have g : Below p1.heap.size p1 p2 := by rw [hw]; exact later_drewN p1 j
          have h2 := Lib.hid (h1.out.later g)
          have r2 := Lib.hid (r1.out.later g)
          obtain ⟨y0, y1⟩ := h2.out.cells
          clear h1 r1 g hw
          go_wp2_with fail
          refine (Move1 h2.out.1 HT.out hs0 hs2).mono ?_
          rintro e p3 ⟨rfl, ⟨gb, gk⟩, gy, gn⟩
          by_cases hq : whyM bs ls ats kind = 0
          · obtain ⟨hk1, hk4, n, hn, hc3⟩ := gy hq
            have e1 : (whyM bs ls ats kind != 0) = false := by rw [hq]; rfl
            obtain ⟨hn0, hn1⟩ := steps_bound hn (h2.out.1.bound HT.out)
            have h3 := Lib.hid (h2.out.move hc3 gb gk)
            have r3 := Lib.hid (r2.out.keeps gk)
            obtain ⟨y0, y1⟩ := h3.out.cells
            have HQ := Lib.hid hq
            obtain ⟨s3, hs3⟩ : ∃ s3, st + n = s3 := ⟨_, rfl⟩
            rw [hs3] at h3
            have hs4 : ¬ s3 < st := by omega
            have hs5 : s3 ≤ 4611686018427387000 := by omega
            have hs6 : 0 ≤ s3 := by omega
            have HS3 := Lib.hid (show s3 ≤ k * 3000 + 2000 by omega)
            clear h2 r2 gb gk gy gn hc3 hn hq hs3 hs1
            go_wp2_with fail
            refine (Steps1 h3.out.1).mono ?_
            rintro e p ⟨rfl, rfl⟩
            go_wp2_with fail
            refine (Steps1 h3.out.1).mono ?_
            rintro e p ⟨rfl, rfl⟩
            by_cases hkd : kind = 1
            · subst hkd
              have hw1 : whyQ bs ls ats 1 = 0 := by have := HQ.out; rwa [whyM_range (by decide)] at this
              have HW1 := Lib.hid hw1
              have hm1 : moved bs ls 1 key ats = ats ++ [0] := by simp [moved]
              rw [hm1] at h3
              clear hm1 hw1 hk1 hk4
              go_wp2_with fail
              refine (Path1 h3.out.1).mono ?_
              rintro e p4 ⟨v13, rfl, o13, g⟩
              have h4 := Lib.hid (h3.out.later g)
              have r4 := Lib.hid (r3.out.later g)
              have t4 := Lib.hid (PathIs.mk o13 (path_wf h3.out.1))
              clear h3 r3 o13 g
              go_wp2_with fail
              refine (Left1 h4.out.1 HT.out).mono ?_
              rintro e p5 ⟨rfl, j, hw⟩
              have g : Below p4.heap.size p4 p5 := by rw [hw]; exact later_drewN p4 j
              have h5 := Lib.hid (h4.out.later g)
              have r5 := Lib.hid (r4.out.later g)
              have t5 := Lib.hid (t4.out.later g)
              clear h4 r4 t4 g hw
              go_wp2_with fail
              refine (Up1 h5.out.1 HT.out hs6 (by omega)).mono ?_
              rintro e p6 ⟨rfl, ⟨gb, gk⟩, gy, gn⟩
              rw [up_may]
              obtain ⟨n2, hn2, hc6⟩ := gy (up_may _ _ _)
              rw [up_back] at hc6
              obtain rfl : n2 = 0 := by simpa [Steps] using hn2
              rw [Int.add_zero] at hc6
              have h6 := Lib.hid (h5.out.move hc6 gb gk)
              have r6 := Lib.hid (r5.out.keeps gk)
              have t6 := Lib.hid (t5.out.keeps gk)
              clear h5 r5 t5 gb gk gy gn hc6 hn2
              go_wp2_with fail
              refine (Path1 h6.out.1).mono ?_
              rintro e p7 ⟨v87, rfl, o87, g⟩
              have h7 := Lib.hid (h6.out.later g)
              have r7 := Lib.hid (r6.out.later g)
              have t7 := Lib.hid (t6.out.later g)
              have u7 := Lib.hid (PathIs.mk o87 (path_wf h6.out.1))
              clear h6 r6 t6 o87 g
              go_wp2_with fail
              refine (equal_any _ _ _ _ p7 u7.out.sli r7.out.sli).mono ?_
              rintro e p8 ⟨rfl, j, hw⟩
              rw [decide_eq_true (rfl : pathOf bs ls ats = pathOf bs ls ats)]
              have g : Below p7.heap.size p7 p8 := by rw [hw]; exact later_drewN p7 j
              have h8 := Lib.hid (h7.out.later g)
              have t8 := Lib.hid (t7.out.later g)
              clear h7 r7 t7 u7 g hw
              go_wp2_with fail
              refine (Left1 h8.out.1 HT.out).mono ?_
              rintro e p9 ⟨rfl, j, hw⟩
              have g : Below p8.heap.size p8 p9 := by rw [hw]; exact later_drewN p8 j
              have h9 := Lib.hid (h8.out.later g)
              have t9 := Lib.hid (t8.out.later g)
              clear h8 t8 g hw
              go_wp2_with fail
              refine (Open1 h9.out.1 HT.out hs6 (by omega)).mono ?_
              rintro e pa ⟨rfl, ⟨gb, gk⟩, gy, gn⟩
              rw [HW1.out]
              obtain ⟨n2, hn2, hca⟩ := gy HW1.out
              have hma : moved bs ls 1 0 ats = ats ++ [0] := by simp [moved]
              rw [hma] at hca
              obtain rfl : n2 = 1 := by simpa [Steps] using hn2
              have ha := Lib.hid (h9.out.move hca gb gk)
              have ta := Lib.hid (t9.out.keeps gk)
              clear h9 t9 gb gk gy gn hca hn2 hma
              go_wp2_with fail
              refine (Path1 ha.out.1).mono ?_
              rintro e pb ⟨v105, rfl, o105, g⟩
              have hb := Lib.hid (ha.out.later g)
              have tb := Lib.hid (ta.out.later g)
              have ub := Lib.hid (PathIs.mk o105 (path_wf ha.out.1))
              clear ha ta o105 g
              go_wp2_with fail
              refine (equal_any _ _ _ _ pb ub.out.sli tb.out.sli).mono ?_
              rintro e pc ⟨rfl, j, hw⟩
              rw [decide_eq_true (rfl : pathOf bs ls (ats ++ [0]) = pathOf bs ls (ats ++ [0]))]
              have g : Below pb.heap.size pb pc := by rw [hw]; exact later_drewN pb j
              have hc := Lib.hid (hb.out.later g)
              clear hb tb ub g hw
              go_wp2_with fail
              refine (Left1 hc.out.1 HT.out).mono ?_
              rintro e pd ⟨rfl, j, hw⟩
              have g : Below pc.heap.size pc pd := by rw [hw]; exact later_drewN pc j
              have hd := Lib.hid (hc.out.later g)
              clear hc g hw
              go_wp2_with fail
              refine (Steps1 hd.out.1).mono ?_
              rintro e p ⟨rfl, rfl⟩
              go_wp2_with fail
              go_roundw
              case rel => exact ⟨k + 1, s3 + 1, by omega, by go_num, rfl, _, hd.out.1, hd.out.2.1, by omega, by have := HS3.out; omega, by omega⟩
              case measure => simp [intOf]; omega
            · have hkd' : (kind != 1) = true := by simpa using hkd
              go_wp2_with fail
              go_roundw
              case rel => exact ⟨k + 1, s3, by omega, by go_num, rfl, _, h3.out.1, h3.out.2.1, by omega, by have := HS3.out; omega, by omega⟩
              case measure => simp [intOf]; omega
          · have e1 : (whyM bs ls ats kind != 0) = true := by simpa using hq
            have h3 := Lib.hid (h2.out.move (gn hq) gb gk)
            have r3 := Lib.hid (r2.out.keeps gk)
            clear h2 r2 gb gk gy gn hq
            go_wp2_with fail
            refine (Path1 h3.out.1).mono ?_
            rintro e p4 ⟨v47, rfl, o47, g⟩
            have h4 := Lib.hid (h3.out.later g)
            have r4 := Lib.hid (r3.out.later g)
            have u4 := Lib.hid (PathIs.mk o47 (path_wf h3.out.1))
            clear h3 r3 o47 g
            go_wp2_with fail
            refine (equal_any _ _ _ _ p4 u4.out.sli r4.out.sli).mono ?_
            rintro e p5 ⟨rfl, j, hw⟩
            rw [decide_eq_true (rfl : pathOf bs ls ats = pathOf bs ls ats)]
            have g : Below p4.heap.size p4 p5 := by rw [hw]; exact later_drewN p4 j
            have h5 := Lib.hid (h4.out.later g)
            clear h4 r4 u4 g hw
            go_wp2_with fail
            refine (Depth1 h5.out.1).mono ?_
            rintro e p ⟨rfl, rfl⟩
            go_wp2_with fail
            refine (Left1 h5.out.1 HT.out).mono ?_
            rintro e p6 ⟨rfl, j, hw⟩
            have g : Below p5.heap.size p5 p6 := by rw [hw]; exact later_drewN p5 j
            have h6 := Lib.hid (h5.out.later g)
            clear h5 g hw
            go_wp2_with fail
            refine (Steps1 h6.out.1).mono ?_
            rintro e p ⟨rfl, rfl⟩
            go_wp2_with fail
            go_roundw
            case rel => exact ⟨k + 1, st, by omega, by go_num, rfl, _, h6.out.1, h6.out.2.1, hs0, by omega, by omega⟩
            case measure => simp [intOf]; omega
      · go_wp2_with fail
        try rw [Exit.noGoto_ret]
        go_ret
        exact ⟨rfl, HB.out⟩
  · go_wp2_with fail
    refine (New_no _ _ bs ls w2 sB sL hok).mono ?_
    rintro e w3 ⟨rfl, hb3⟩
    go_wp2_with fail
    go_ret
    exact ⟨rfl, later_trans hbw2 hb3⟩
end Go.Proofs.Ytdfnfdgkhflonaa
