/-
  CursorKinds, walked. (Printed by mkkinds.py out of kinds.head.txt.)
-/
import Derived.Test.YtdfnfdgkhflonaaCuTwo
namespace Go.Proofs.Ytdfnfdgkhflonaa
open Go.RowKit
set_option linter.unusedVariables false

/-- Where a move of any kind leads, be it made or not. -/
def nextAts (bs : List Br) (ls : List Int) (ats : List Nat) (kind key : Int) : List Nat := if whyM bs ls ats kind = 0 then moved bs ls kind key ats else ats
/-- .. and its steps. -/
def StepsM (bs : List Br) (ls : List Int) (kind key : Int) (ats : List Nat) (n : Int) : Prop := (whyM bs ls ats kind = 0 → Steps bs ls kind key ats n) ∧ (whyM bs ls ats kind ≠ 0 → n = 0)
theorem steps_one {bs : List Br} {ls : List Int} {kind key n m : Int} {ats : List Nat} (h : Steps bs ls kind key ats n) (h' : Steps bs ls kind key ats m) : n = m := by
  unfold Steps at h h'
  split at h
  · rename_i h2; rw [if_pos h2] at h'; omega
  · rename_i h2
    rw [if_neg h2] at h'
    split at h
    · rename_i h4
      rw [if_pos h4] at h'
      obtain ⟨a, ⟨_, ha⟩, rfl⟩ := h
      obtain ⟨b, ⟨_, hb⟩, rfl⟩ := h'
      rw [looks_one ha hb]
    · rename_i h4; rw [if_neg h4] at h'; omega
theorem stepsM_one {bs : List Br} {ls : List Int} {kind key n m : Int} {ats : List Nat} (h : StepsM bs ls kind key ats n) (h' : StepsM bs ls kind key ats m) : n = m := by
  by_cases hq : whyM bs ls ats kind = 0
  · exact steps_one (h.1 hq) (h'.1 hq)
  · rw [h.2 hq, h'.2 hq]
theorem stepsM_bound {bs : List Br} {ls : List Int} {kind key n : Int} {ats : List Nat} (h : StepsM bs ls kind key ats n) (hb : lastAt ats ≤ (rowAt bs ls ats).length ∧ (rowAt bs ls ats).length ≤ 1048576) : 0 ≤ n ∧ n ≤ 2000 := by
  by_cases hq : whyM bs ls ats kind = 0
  · exact steps_bound (h.1 hq) hb
  · have := h.2 hq; omega
theorem whyM_in {bs : List Br} {ls : List Int} {ats : List Nat} {kind : Int} (h : 1 ≤ kind ∧ kind ≤ 4) : whyM bs ls ats kind = whyQ bs ls ats kind := if_neg (by omega)

/-- Two cursors, and a move in a box beside them. -/
def KdW (n0 N : Nat) (w : World) (a b : Nat) (bs : List Br) (ls : List Int) (atsA : List Nat) (stA : Int) (atsB : List Nat) (stB : Int) (kind key : Int) (X : Nat) (W : World) : Prop :=
  Two n0 N W a b bs ls atsA stA atsB stB ∧ Below n0 w W ∧ W.heap[X]? = some (.cells #[.int .i64 kind, .int .u64 key] 42 (0, 0))
section
variable {n0 N : Nat} {w : World} {a b : Nat} {bs : List Br} {ls : List Int} {atsA atsB : List Nat} {stA stB kind key : Int} {X : Nat} {W W' : World}
theorem KdW.later (h : KdW n0 N w a b bs ls atsA stA atsB stB kind key X W) (hb : Below W.heap.size W W') : KdW n0 N w a b bs ls atsA stA atsB stB kind key X W' :=
  ⟨h.1.later hb, h.2.1.trans (hb.mono h.1.low), (hb.block X (lt_of_block h.2.2)).trans h.2.2⟩
theorem KdW.cells (h : KdW n0 N w a b bs ls atsA stA atsB stB kind key X W) : W.cell? ⟨X, 0, none⟩ = some (.int .i64 kind) ∧ W.cell? ⟨X, 1, none⟩ = some (.int .u64 key) :=
  ⟨by simpa using box_cell (i := 0) h.2.2, by simpa using box_cell (i := 1) h.2.2⟩
/-- The second cursor's move by its name. -/
theorem kd_named {mkey k0 : Int} (h : KdW n0 N w a b bs ls atsA stA atsB stB kind mkey X W) (g : Gone2 n0 N W b a bs ls atsB stB atsA stA (whyQ bs ls atsB kind) kind k0 W') (hk : 1 ≤ kind ∧ kind ≤ 4) (hkey : k0 = mkey ∨ kind ≠ 4) :
    ∃ n, StepsM bs ls kind mkey atsB n ∧ KdW n0 N w a b bs ls atsA stA (nextAts bs ls atsB kind mkey) (stB + n) kind mkey X W' := by
  have hw := whyM_in (bs := bs) (ls := ls) (ats := atsB) hk
  have hX := g.1.2 _ _ _ _ h.2.2 (by decide) (by decide)
  have hb := h.2.1.trans g.1.1
  by_cases hq : whyQ bs ls atsB kind = 0
  · obtain ⟨_, _, n, hn, h2⟩ := g.2.1 hq
    have hm : moved bs ls kind k0 atsB = moved bs ls kind mkey atsB := by
      rcases hkey with rfl | hk4
      · rfl
      · have hc : kind = 1 ∨ kind = 2 ∨ kind = 3 := by omega
        rcases hc with rfl | rfl | rfl <;> simp [moved]
    have hs : Steps bs ls kind mkey atsB n := by
      rcases hkey with rfl | hk4
      · exact hn
      · have hc : kind = 1 ∨ kind = 2 ∨ kind = 3 := by omega
        rcases hc with rfl | rfl | rfl <;> simpa [Steps] using hn
    refine ⟨n, ⟨fun _ => hs, fun h => absurd (hw ▸ hq) h⟩, ?_, hb, hX⟩
    rw [nextAts, if_pos (by rw [hw]; exact hq), ← hm]
    exact h2.symm
  · refine ⟨0, ⟨fun h => absurd (hw ▸ h) hq, fun _ => rfl⟩, ?_, hb, hX⟩
    rw [nextAts, if_neg (by rw [hw]; exact hq), Int.add_zero]
    exact (g.2.2 hq).symm
/-- The first one's. -/
theorem kd_next (h : KdW n0 N w a b bs ls atsA stA atsB stB kind key X W) (g : Gone2 n0 N W a b bs ls atsA stA atsB stB (whyM bs ls atsA kind) kind key W') :
    ∃ n, StepsM bs ls kind key atsA n ∧ KdW n0 N w a b bs ls (nextAts bs ls atsA kind key) (stA + n) atsB stB kind key X W' := by
  have hX := g.1.2 _ _ _ _ h.2.2 (by decide) (by decide)
  have hb := h.2.1.trans g.1.1
  by_cases hq : whyM bs ls atsA kind = 0
  · obtain ⟨_, _, n, hn, h2⟩ := g.2.1 hq
    exact ⟨n, ⟨fun _ => hn, fun h => absurd hq h⟩, by rw [nextAts, if_pos hq]; exact h2, hb, hX⟩
  · exact ⟨0, ⟨fun h => absurd h hq, fun _ => rfl⟩, by rw [nextAts, if_neg hq, Int.add_zero]; exact g.2.2 hq, hb, hX⟩
theorem two_wf (h : Two n0 N W a b bs ls atsA stA atsB stB) : ∀ x ∈ pathOf bs ls atsA, (Lit.int .u64 x).wf = true := by
  obtain ⟨rva, rvb, ⟨kv, bv, lv, rs, hS, hC, h1, h2, h3, l1, l2, l3, hR⟩, _⟩ := h
  have hk := h1.2
  have hl := h3.2
  have hkx : ∀ (i : Nat), ∀ x ∈ ((keysOf bs).drop i).take 1, (Lit.int .u64 x).wf = true := fun i x hx => hk x (List.mem_of_mem_drop (List.mem_of_mem_take hx))
  have hlx : ∀ (b : Br) (j : Nat), ∀ x ∈ ((leavesOf ls b).drop j).take 1, (Lit.int .u64 x).wf = true := fun b j x hx => hl x (List.mem_of_mem_drop (List.mem_of_mem_take (List.mem_of_mem_drop (List.mem_of_mem_take hx))))
  match atsA, hR with
  | [], _ => intro x hx; simp [pathOf, rowsR, pathR] at hx
  | [i], _ => intro x hx; exact hkx i x (by simpa [pathOf, rowsR, pathR] using hx)
  | [i, j], _ =>
    intro x hx
    have : x ∈ ((keysOf bs).drop i).take 1 ∨ x ∈ ((leavesOf ls (bs.getD i Br.no)).drop j).take 1 := by simpa [pathOf, rowsR, pathR] using hx
    rcases this with h | h
    · exact hkx i x h
    · exact hlx _ j x h
end

set_option maxRecDepth 100000 in
set_option maxHeartbeats 8000000 in
theorem lawKinds_walk (vb vl vm : Value) (B0 : List Br) (L0 : List Int) (ms : List Mv) (w : World) (hB : SlB w vb B0) (hL : SlI .u64 w vl L0) (hM : SlM w vm ms) :
    Calls Try.prog 5 #[.agg #[vb, vl], vm] w fun e w' => e = .returned (.bool true) ∧ Below w.heap.size w w' := by
  have HB0 := Lib.hid hB.2
  have HL0 := Lib.hid hL.2
  have HOwn := Lib.hid (fun V (hV : Below w.heap.size w V) => own8_any _ _ B0 L0 V (hB.later hV) (hL.later hV))
  obtain ⟨a, c, rfl, -, -, -, -⟩ := hB.open
  obtain ⟨a', c', rfl, -, -, -, -⟩ := hL.open
  obtain ⟨am, cm, rfl, m1, m2, m3, m4⟩ := hM.open
  have hmm : ms.length ≤ 9223372036854775807 := by omega
  have HM := Lib.hid m4
  clear hB hL hM m1 m2 m3 m4
  go_enter Try.func5, Try.ntmps5
  go_wp2_with fail
  refine (wakes8_any _).mono ?_
  rintro e w1 ⟨rfl, hb1⟩
  have hbw1 := later_trans (later_alloc w _) hb1
  have hx := (hb1.block w.heap.size (by simp)).trans (box_new w _ _)
  have x0 := box_cell (i := 0) hx
  have x1 := box_cell (i := 1) hx
  simp only [List.getElem?_toArray, List.getElem?_cons_zero, List.getElem?_cons_succ] at x0 x1
  have HXX := Lib.hid hx
  clear hx hb1
  go_wp2_with fail
  refine (HOwn.out _ hbw1).mono ?_
  rintro e w2 ⟨vb2, vl2, rfl, ob, ol, hb2⟩
  obtain ⟨bs, hbs⟩ : ∃ bs, B0.take (min B0.length 40) = bs := ⟨_, rfl⟩
  obtain ⟨ls, hls⟩ : ∃ ls, L0.take (min L0.length 80) = ls := ⟨_, rfl⟩
  rw [hbs] at ob HOwn
  rw [hls] at ol HOwn
  have hfew : bs.length ≤ 40 := by rw [← hbs]; simp; omega
  have hwB : ∀ b ∈ bs, b.wf := fun b hb => HB0.out b (List.mem_of_mem_take (hbs ▸ hb))
  have hwL : ∀ x ∈ ls, (Lit.int .u64 x).wf = true := fun x hx => HL0.out x (List.mem_of_mem_take (hls ▸ hx))
  have HWB := Lib.hid hwB
  have HWL := Lib.hid hwL
  have sB := Lib.hid (show SlB w2 vb2 bs from ⟨SlT.of_owns ob, hwB⟩)
  have sL := Lib.hid (show SlI .u64 w2 vl2 ls from SlI.of_owns ol hwL)
  have hbw2 := later_trans hbw1 hb2
  have HX2 := Lib.hid ((hb2.block _ (lt_of_block HXX.out)).trans HXX.out)
  clear ob ol hbs hls hb2 hbw1 x0 x1 hwB hwL HXX
  by_cases hok : TrieOk bs ls
  · have HT := Lib.hid (TrieS.mk hok (by omega))
    clear hok
    go_wp2_with fail
    refine (New_ok _ _ bs ls w2 sB.out sL.out HT.out).mono ?_
    rintro e w3 ⟨ca, rfl, hb3, hca, hA⟩
    have HA := Lib.hid hA
    have hbw3 := later_trans hbw2 hb3
    have hx := (hb3.block _ (lt_of_block HX2.out)).trans HX2.out
    have x0 := box_cell (i := 0) hx
    have x1 := box_cell (i := 1) hx
    simp only [List.getElem?_toArray, List.getElem?_cons_zero, List.getElem?_cons_succ] at x0 x1
    have HCA := Lib.hid (And.intro hca (And.intro hb3 hbw2))
    clear hA hx hb3 hca hbw2
    go_wp2_with fail
    refine (HOwn.out _ hbw3).mono ?_
    rintro e w4 ⟨vb4, vl4, rfl, ob, ol, hb4⟩
    have sB4 := Lib.hid (show SlB w4 vb4 bs from ⟨SlT.of_owns ob, HWB.out⟩)
    have sL4 := Lib.hid (show SlI .u64 w4 vl4 ls from SlI.of_owns ol HWL.out)
    clear ob ol x0 x1
    go_wp2_with fail
    refine (New_ok _ _ bs ls w4 sB4.out sL4.out HT.out).mono ?_
    rintro e w5 ⟨cb2, rfl, hb5, hcb, hBB⟩
    have h0 := Lib.hid (show Two w.heap.size w5.heap.size w5 ca cb2 bs ls [] 0 [] 0 from two_new HCA.out.2.2.size HCA.out.1 HA.out hb4 hb5 hcb hBB HCA.out.2.1.size)
    have hbw5 := Lib.hid (later_trans hbw3 (later_trans hb4 hb5))
    obtain ⟨N, hN⟩ : ∃ N, w5.heap.size = N := ⟨_, rfl⟩
    rw [hN] at h0
    clear hb5 hb4 hcb hBB HA hN HCA hbw3
    go_wp2_with fail
    go_loopw [34] (fun i wr => ∃ (k : Nat) (ats : List Nat) (st : Int), k ≤ ms.length ∧ i = .int .i64 k ∧ Two w.heap.size N wr ca cb2 bs ls ats st ats st ∧ Below w.heap.size w wr ∧ 0 ≤ st ∧ st ≤ 3000 * k ∧ k ≤ 20) (fun i _ => ms.length - (intOf i).toNat)
    case atStart => exact ⟨0, [], 0, Nat.zero_le _, rfl, h0.out, hbw5.out, by omega, by omega, by omega⟩
    case round =>
      obtain ⟨k, ats, st, hk, rfl, hS, hb, hst0, hst1, hk20⟩ := hrel
      have HS := Lib.hid hS
      have HB := Lib.hid hb
      have HS1 := Lib.hid hst1
      have hst2 : st ≤ 60000 := by omega
      clear hS hb h0 hbw5 hst1
      by_cases hlt : k < ms.length
      · obtain ⟨bb, o, rfl, hbb, hcs⟩ := HM.out (by omega)
        obtain ⟨q0, q1⟩ := hcs k hlt
        have q0 := ((bcell HB.out).1 bb (o + k * 2) hbb).trans q0
        have q1 := ((bcell HB.out).1 bb (o + k * 2 + 1) hbb).trans q1
        obtain ⟨m, hm⟩ : ∃ m, ms[k] = m := ⟨_, rfl⟩
        obtain ⟨kind, mkey⟩ := m
        rw [hm] at q0 q1
        clear hcs hm
        by_cases h20 : k = 20
        · have e20 : ((k : Int) == 20) = true := by rw [h20]; rfl
          have HBW := Lib.hid (HB.out.alloc HB.out.size (.cells #[.int .i64 kind, .int .u64 mkey] 42))
          clear hk20 h20
          go_wp2_with fail
          refine (@Key_nil _).mono ?_
          rintro e q ⟨rfl, rfl⟩
          go_wp2_with fail
          refine (@Open_nil _).mono ?_
          rintro e n1 ⟨rfl, g1⟩
          have hb1 := HBW.out.trans (g1.mono HBW.out.size)
          go_wp2_with fail
          refine (@Up_nil _).mono ?_
          rintro e n2 ⟨rfl, g2⟩
          have hb2 := hb1.trans (g2.mono hb1.size)
          go_wp2_with fail
          refine (@Next_nil _).mono ?_
          rintro e n3 ⟨rfl, g3⟩
          have hb3 := hb2.trans (g3.mono hb2.size)
          go_wp2_with fail
          refine (@Seek_nil _ _).mono ?_
          rintro e n4 ⟨rfl, g4⟩
          have hb4 := hb3.trans (g4.mono hb3.size)
          go_wp2_with fail
          refine (@Move_nil _ _ _).mono ?_
          rintro e n5 ⟨rfl, g5⟩
          have hb5 := hb4.trans (g5.mono hb4.size)
          go_wp2_with fail
          refine (@Depth_nil _).mono ?_
          rintro e q ⟨rfl, rfl⟩
          go_wp2_with fail
          refine (@Left_nil _).mono ?_
          rintro e q ⟨rfl, rfl⟩
          go_wp2_with fail
          refine (@Steps_nil _).mono ?_
          rintro e q ⟨rfl, rfl⟩
          go_wp2_with fail
          refine (@Path_nil _).mono ?_
          rintro e q ⟨rfl, rfl⟩
          go_wp2_with fail
          go_ret
          exact ⟨rfl, hb5⟩
        · have e20 : ((k : Int) == 20) = false := by rw [beq_eq_false_iff_ne]; omega
          have h1 := Lib.hid (show KdW w.heap.size N w ca cb2 bs ls ats st ats st kind mkey wr.heap.size (wr.alloc (.cells #[.int .i64 kind, .int .u64 mkey] 42)) from ⟨HS.out.later (later_alloc wr _), HB.out.alloc HB.out.size _, box_new wr _ _⟩)
          have hX1 := True.intro
          have hkc : kind = 1 ∨ kind = 2 ∨ kind = 3 ∨ kind = 4 ∨ (kind ≠ 1 ∧ kind ≠ 2 ∧ kind ≠ 3 ∧ kind ≠ 4) := by omega
          rcases hkc with hk1 | hk2 | hk3 | hk4 | ⟨hk1, hk2, hk3, hk4⟩
          · subst hk1
            clear hX1
            go_wp2_with fail
            refine (Open2 h1.out.1.symm HT.out hst0 (by omega)).mono ?_
            rintro e pb ⟨rfl, g⟩
            have hN := kd_named (kind := 1) (mkey := mkey) h1.out g (by decide) (.inr (by decide))
            rw [show whyQ bs ls ats 1 = whyM bs ls ats 1 from (whyM_in (by decide)).symm]
            clear h1 g
            obtain ⟨n1, hst1, h2⟩ := hN
            have h2 := Lib.hid (show KdW w.heap.size N w ca cb2 bs ls ats st (nextAts bs ls ats 1 mkey) (st + n1) 1 mkey wr.heap.size pb from h2)
            have HST1 := Lib.hid hst1
            obtain ⟨y0, y1⟩ := h2.out.cells
            clear hst1
            go_wp2_with fail
            refine (Move2 h2.out.1 HT.out hst0 (by omega)).mono ?_
            rintro e p3 ⟨rfl, g⟩
            obtain ⟨n2, hst2, h3⟩ := kd_next h2.out g
            obtain rfl := stepsM_one HST1.out hst2
            have h3 := Lib.hid h3
            have hnb := Lib.hid (stepsM_bound hst2 (h2.out.1.bound HT.out))
            clear h2 g hst2 y0 y1
            go_wp2_with fail
            refine (Steps2 h3.out.1).mono ?_
            rintro e q ⟨rfl, rfl⟩
            go_wp2_with fail
            refine (Steps2 h3.out.1.symm).mono ?_
            rintro e q ⟨rfl, rfl⟩
            go_wp2_with fail
            refine (Path2 h3.out.1).mono ?_
            rintro e p4 ⟨v4, rfl, o4, g⟩
            have h4 := Lib.hid (h3.out.later g)
            have wf4 := Lib.hid (two_wf h3.out.1)
            have r4 := Lib.hid o4
            clear h3 g o4
            go_wp2_with fail
            refine (Path2 h4.out.1.symm).mono ?_
            rintro e p5 ⟨v5, rfl, o5, g⟩
            have h5 := Lib.hid (h4.out.later g)
            have r5 := Lib.hid (owns_later r4.out g)
            have s5 := Lib.hid o5
            clear h4 g o5 r4
            go_wp2_with fail
            refine (equal_any _ _ _ _ p5 (sli_path r5.out wf4.out) (sli_path s5.out wf4.out)).mono ?_
            rintro e p6 ⟨rfl, j, hw⟩
            rw [decide_eq_true (rfl : pathOf bs ls (nextAts bs ls ats 1 mkey) = pathOf bs ls (nextAts bs ls ats 1 mkey))]
            have g : Below p5.heap.size p5 p6 := by rw [hw]; exact later_drewN p5 j
            have h6 := Lib.hid (h5.out.later g)
            clear h5 g hw r5 s5 wf4
            go_wp2_with fail
            refine (Depth2 h6.out.1).mono ?_
            rintro e q ⟨rfl, rfl⟩
            go_wp2_with fail
            refine (Depth2 h6.out.1.symm).mono ?_
            rintro e q ⟨rfl, rfl⟩
            go_wp2_with fail
            refine (Left2 h6.out.1 HT.out).mono ?_
            rintro e p7 ⟨rfl, j, hw⟩
            have g : Below p6.heap.size p6 p7 := by rw [hw]; exact later_drewN p6 j
            have h7 := Lib.hid (h6.out.later g)
            clear h6 g hw
            go_wp2_with fail
            refine (Left2 h7.out.1.symm HT.out).mono ?_
            rintro e p8 ⟨rfl, j, hw⟩
            have g : Below p7.heap.size p7 p8 := by rw [hw]; exact later_drewN p7 j
            have h8 := Lib.hid (h7.out.later g)
            clear h7 g hw
            go_wp2_with fail
            go_roundw
            case rel => exact ⟨k + 1, nextAts bs ls ats 1 mkey, st + n1, by omega, by go_num, h8.out.1, h8.out.2.1, by have := hnb.out; omega, by have := hnb.out; have := HS1.out; omega, by omega⟩
            case measure => simp [intOf]; omega
          · subst hk2
            clear hX1
            go_wp2_with fail
            refine (Up2 h1.out.1.symm HT.out hst0 (by omega)).mono ?_
            rintro e pb ⟨rfl, g⟩
            have hN := kd_named (kind := 2) (mkey := mkey) h1.out g (by decide) (.inr (by decide))
            rw [show whyQ bs ls ats 2 = whyM bs ls ats 2 from (whyM_in (by decide)).symm]
            clear h1 g
            obtain ⟨n1, hst1, h2⟩ := hN
            have h2 := Lib.hid (show KdW w.heap.size N w ca cb2 bs ls ats st (nextAts bs ls ats 2 mkey) (st + n1) 2 mkey wr.heap.size pb from h2)
            have HST1 := Lib.hid hst1
            obtain ⟨y0, y1⟩ := h2.out.cells
            clear hst1
            go_wp2_with fail
            refine (Move2 h2.out.1 HT.out hst0 (by omega)).mono ?_
            rintro e p3 ⟨rfl, g⟩
            obtain ⟨n2, hst2, h3⟩ := kd_next h2.out g
            obtain rfl := stepsM_one HST1.out hst2
            have h3 := Lib.hid h3
            have hnb := Lib.hid (stepsM_bound hst2 (h2.out.1.bound HT.out))
            clear h2 g hst2 y0 y1
            go_wp2_with fail
            refine (Steps2 h3.out.1).mono ?_
            rintro e q ⟨rfl, rfl⟩
            go_wp2_with fail
            refine (Steps2 h3.out.1.symm).mono ?_
            rintro e q ⟨rfl, rfl⟩
            go_wp2_with fail
            refine (Path2 h3.out.1).mono ?_
            rintro e p4 ⟨v4, rfl, o4, g⟩
            have h4 := Lib.hid (h3.out.later g)
            have wf4 := Lib.hid (two_wf h3.out.1)
            have r4 := Lib.hid o4
            clear h3 g o4
            go_wp2_with fail
            refine (Path2 h4.out.1.symm).mono ?_
            rintro e p5 ⟨v5, rfl, o5, g⟩
            have h5 := Lib.hid (h4.out.later g)
            have r5 := Lib.hid (owns_later r4.out g)
            have s5 := Lib.hid o5
            clear h4 g o5 r4
            go_wp2_with fail
            refine (equal_any _ _ _ _ p5 (sli_path r5.out wf4.out) (sli_path s5.out wf4.out)).mono ?_
            rintro e p6 ⟨rfl, j, hw⟩
            rw [decide_eq_true (rfl : pathOf bs ls (nextAts bs ls ats 2 mkey) = pathOf bs ls (nextAts bs ls ats 2 mkey))]
            have g : Below p5.heap.size p5 p6 := by rw [hw]; exact later_drewN p5 j
            have h6 := Lib.hid (h5.out.later g)
            clear h5 g hw r5 s5 wf4
            go_wp2_with fail
            refine (Depth2 h6.out.1).mono ?_
            rintro e q ⟨rfl, rfl⟩
            go_wp2_with fail
            refine (Depth2 h6.out.1.symm).mono ?_
            rintro e q ⟨rfl, rfl⟩
            go_wp2_with fail
            refine (Left2 h6.out.1 HT.out).mono ?_
            rintro e p7 ⟨rfl, j, hw⟩
            have g : Below p6.heap.size p6 p7 := by rw [hw]; exact later_drewN p6 j
            have h7 := Lib.hid (h6.out.later g)
            clear h6 g hw
            go_wp2_with fail
            refine (Left2 h7.out.1.symm HT.out).mono ?_
            rintro e p8 ⟨rfl, j, hw⟩
            have g : Below p7.heap.size p7 p8 := by rw [hw]; exact later_drewN p7 j
            have h8 := Lib.hid (h7.out.later g)
            clear h7 g hw
            go_wp2_with fail
            go_roundw
            case rel => exact ⟨k + 1, nextAts bs ls ats 2 mkey, st + n1, by omega, by go_num, h8.out.1, h8.out.2.1, by have := hnb.out; omega, by have := hnb.out; have := HS1.out; omega, by omega⟩
            case measure => simp [intOf]; omega
          · subst hk3
            clear hX1
            go_wp2_with fail
            refine (Next2 h1.out.1.symm HT.out hst0 (by omega)).mono ?_
            rintro e pb ⟨rfl, g⟩
            have hN := kd_named (kind := 3) (mkey := mkey) h1.out g (by decide) (.inr (by decide))
            rw [show whyQ bs ls ats 3 = whyM bs ls ats 3 from (whyM_in (by decide)).symm]
            clear h1 g
            obtain ⟨n1, hst1, h2⟩ := hN
            have h2 := Lib.hid (show KdW w.heap.size N w ca cb2 bs ls ats st (nextAts bs ls ats 3 mkey) (st + n1) 3 mkey wr.heap.size pb from h2)
            have HST1 := Lib.hid hst1
            obtain ⟨y0, y1⟩ := h2.out.cells
            clear hst1
            go_wp2_with fail
            refine (Move2 h2.out.1 HT.out hst0 (by omega)).mono ?_
            rintro e p3 ⟨rfl, g⟩
            obtain ⟨n2, hst2, h3⟩ := kd_next h2.out g
            obtain rfl := stepsM_one HST1.out hst2
            have h3 := Lib.hid h3
            have hnb := Lib.hid (stepsM_bound hst2 (h2.out.1.bound HT.out))
            clear h2 g hst2 y0 y1
            go_wp2_with fail
            refine (Steps2 h3.out.1).mono ?_
            rintro e q ⟨rfl, rfl⟩
            go_wp2_with fail
            refine (Steps2 h3.out.1.symm).mono ?_
            rintro e q ⟨rfl, rfl⟩
            go_wp2_with fail
            refine (Path2 h3.out.1).mono ?_
            rintro e p4 ⟨v4, rfl, o4, g⟩
            have h4 := Lib.hid (h3.out.later g)
            have wf4 := Lib.hid (two_wf h3.out.1)
            have r4 := Lib.hid o4
            clear h3 g o4
            go_wp2_with fail
            refine (Path2 h4.out.1.symm).mono ?_
            rintro e p5 ⟨v5, rfl, o5, g⟩
            have h5 := Lib.hid (h4.out.later g)
            have r5 := Lib.hid (owns_later r4.out g)
            have s5 := Lib.hid o5
            clear h4 g o5 r4
            go_wp2_with fail
            refine (equal_any _ _ _ _ p5 (sli_path r5.out wf4.out) (sli_path s5.out wf4.out)).mono ?_
            rintro e p6 ⟨rfl, j, hw⟩
            rw [decide_eq_true (rfl : pathOf bs ls (nextAts bs ls ats 3 mkey) = pathOf bs ls (nextAts bs ls ats 3 mkey))]
            have g : Below p5.heap.size p5 p6 := by rw [hw]; exact later_drewN p5 j
            have h6 := Lib.hid (h5.out.later g)
            clear h5 g hw r5 s5 wf4
            go_wp2_with fail
            refine (Depth2 h6.out.1).mono ?_
            rintro e q ⟨rfl, rfl⟩
            go_wp2_with fail
            refine (Depth2 h6.out.1.symm).mono ?_
            rintro e q ⟨rfl, rfl⟩
            go_wp2_with fail
            refine (Left2 h6.out.1 HT.out).mono ?_
            rintro e p7 ⟨rfl, j, hw⟩
            have g : Below p6.heap.size p6 p7 := by rw [hw]; exact later_drewN p6 j
            have h7 := Lib.hid (h6.out.later g)
            clear h6 g hw
            go_wp2_with fail
            refine (Left2 h7.out.1.symm HT.out).mono ?_
            rintro e p8 ⟨rfl, j, hw⟩
            have g : Below p7.heap.size p7 p8 := by rw [hw]; exact later_drewN p7 j
            have h8 := Lib.hid (h7.out.later g)
            clear h7 g hw
            go_wp2_with fail
            go_roundw
            case rel => exact ⟨k + 1, nextAts bs ls ats 3 mkey, st + n1, by omega, by go_num, h8.out.1, h8.out.2.1, by have := hnb.out; omega, by have := hnb.out; have := HS1.out; omega, by omega⟩
            case measure => simp [intOf]; omega
          · subst hk4
            clear hX1
            go_wp2_with fail
            refine (Seek2 (key := mkey) h1.out.1.symm HT.out hst0 (by omega)).mono ?_
            rintro e pb ⟨rfl, g⟩
            have hN := kd_named (kind := 4) (mkey := mkey) h1.out g (by decide) (.inl rfl)
            rw [show whyQ bs ls ats 4 = whyM bs ls ats 4 from (whyM_in (by decide)).symm]
            clear h1 g
            obtain ⟨n1, hst1, h2⟩ := hN
            have h2 := Lib.hid (show KdW w.heap.size N w ca cb2 bs ls ats st (nextAts bs ls ats 4 mkey) (st + n1) 4 mkey wr.heap.size pb from h2)
            have HST1 := Lib.hid hst1
            obtain ⟨y0, y1⟩ := h2.out.cells
            clear hst1
            go_wp2_with fail
            refine (Move2 h2.out.1 HT.out hst0 (by omega)).mono ?_
            rintro e p3 ⟨rfl, g⟩
            obtain ⟨n2, hst2, h3⟩ := kd_next h2.out g
            obtain rfl := stepsM_one HST1.out hst2
            have h3 := Lib.hid h3
            have hnb := Lib.hid (stepsM_bound hst2 (h2.out.1.bound HT.out))
            clear h2 g hst2 y0 y1
            go_wp2_with fail
            refine (Steps2 h3.out.1).mono ?_
            rintro e q ⟨rfl, rfl⟩
            go_wp2_with fail
            refine (Steps2 h3.out.1.symm).mono ?_
            rintro e q ⟨rfl, rfl⟩
            go_wp2_with fail
            refine (Path2 h3.out.1).mono ?_
            rintro e p4 ⟨v4, rfl, o4, g⟩
            have h4 := Lib.hid (h3.out.later g)
            have wf4 := Lib.hid (two_wf h3.out.1)
            have r4 := Lib.hid o4
            clear h3 g o4
            go_wp2_with fail
            refine (Path2 h4.out.1.symm).mono ?_
            rintro e p5 ⟨v5, rfl, o5, g⟩
            have h5 := Lib.hid (h4.out.later g)
            have r5 := Lib.hid (owns_later r4.out g)
            have s5 := Lib.hid o5
            clear h4 g o5 r4
            go_wp2_with fail
            refine (equal_any _ _ _ _ p5 (sli_path r5.out wf4.out) (sli_path s5.out wf4.out)).mono ?_
            rintro e p6 ⟨rfl, j, hw⟩
            rw [decide_eq_true (rfl : pathOf bs ls (nextAts bs ls ats 4 mkey) = pathOf bs ls (nextAts bs ls ats 4 mkey))]
            have g : Below p5.heap.size p5 p6 := by rw [hw]; exact later_drewN p5 j
            have h6 := Lib.hid (h5.out.later g)
            clear h5 g hw r5 s5 wf4
            go_wp2_with fail
            refine (Depth2 h6.out.1).mono ?_
            rintro e q ⟨rfl, rfl⟩
            go_wp2_with fail
            refine (Depth2 h6.out.1.symm).mono ?_
            rintro e q ⟨rfl, rfl⟩
            go_wp2_with fail
            refine (Left2 h6.out.1 HT.out).mono ?_
            rintro e p7 ⟨rfl, j, hw⟩
            have g : Below p6.heap.size p6 p7 := by rw [hw]; exact later_drewN p6 j
            have h7 := Lib.hid (h6.out.later g)
            clear h6 g hw
            go_wp2_with fail
            refine (Left2 h7.out.1.symm HT.out).mono ?_
            rintro e p8 ⟨rfl, j, hw⟩
            have g : Below p7.heap.size p7 p8 := by rw [hw]; exact later_drewN p7 j
            have h8 := Lib.hid (h7.out.later g)
            clear h7 g hw
            go_wp2_with fail
            go_roundw
            case rel => exact ⟨k + 1, nextAts bs ls ats 4 mkey, st + n1, by omega, by go_num, h8.out.1, h8.out.2.1, by have := hnb.out; omega, by have := hnb.out; have := HS1.out; omega, by omega⟩
            case measure => simp [intOf]; omega
          · have c1 : (kind == 1) = false := by rw [beq_eq_false_iff_ne]; omega
            have c2 : (kind == 2) = false := by rw [beq_eq_false_iff_ne]; omega
            have c3 : (kind == 3) = false := by rw [beq_eq_false_iff_ne]; omega
            have c4 : (kind == 4) = false := by rw [beq_eq_false_iff_ne]; omega
            have hkr : kind < 1 ∨ 4 < kind := by omega
            have hwm : whyM bs ls ats kind = 180 := if_pos hkr
            have hN : ∃ n, StepsM bs ls kind mkey ats n ∧ KdW w.heap.size N w ca cb2 bs ls ats st (nextAts bs ls ats kind mkey) (st + n) kind mkey wr.heap.size (wr.alloc (.cells #[.int .i64 kind, .int .u64 mkey] 42)) :=
              ⟨0, ⟨fun h => (by rw [hwm] at h; cases h), fun _ => rfl⟩, by rw [nextAts, if_neg (by rw [hwm]; decide), Int.add_zero]; exact h1.out⟩
            have HN1 := Lib.hid hN
            have HWM := Lib.hid hwm
            clear h1 hk1 hk2 hk3 hk4 hX1 hN hkr hwm
            go_wp2_with fail
            have hN := HN1.out
            obtain ⟨n1, hst1, h2⟩ := hN
            have h2 := Lib.hid (show KdW w.heap.size N w ca cb2 bs ls ats st (nextAts bs ls ats kind mkey) (st + n1) kind mkey wr.heap.size (wr.alloc (.cells #[.int .i64 kind, .int .u64 mkey] 42)) from h2)
            have HST1 := Lib.hid hst1
            obtain ⟨y0, y1⟩ := h2.out.cells
            clear hst1
            go_wp2_with fail
            refine (Move2 h2.out.1 HT.out hst0 (by omega)).mono ?_
            rintro e p3 ⟨rfl, g⟩
            rw [HWM.out]
            obtain ⟨n2, hst2, h3⟩ := kd_next h2.out g
            obtain rfl := stepsM_one HST1.out hst2
            have h3 := Lib.hid h3
            have hnb := Lib.hid (stepsM_bound hst2 (h2.out.1.bound HT.out))
            clear h2 g hst2 y0 y1
            go_wp2_with fail
            refine (Steps2 h3.out.1).mono ?_
            rintro e q ⟨rfl, rfl⟩
            go_wp2_with fail
            refine (Steps2 h3.out.1.symm).mono ?_
            rintro e q ⟨rfl, rfl⟩
            go_wp2_with fail
            refine (Path2 h3.out.1).mono ?_
            rintro e p4 ⟨v4, rfl, o4, g⟩
            have h4 := Lib.hid (h3.out.later g)
            have wf4 := Lib.hid (two_wf h3.out.1)
            have r4 := Lib.hid o4
            clear h3 g o4
            go_wp2_with fail
            refine (Path2 h4.out.1.symm).mono ?_
            rintro e p5 ⟨v5, rfl, o5, g⟩
            have h5 := Lib.hid (h4.out.later g)
            have r5 := Lib.hid (owns_later r4.out g)
            have s5 := Lib.hid o5
            clear h4 g o5 r4
            go_wp2_with fail
            refine (equal_any _ _ _ _ p5 (sli_path r5.out wf4.out) (sli_path s5.out wf4.out)).mono ?_
            rintro e p6 ⟨rfl, j, hw⟩
            rw [decide_eq_true (rfl : pathOf bs ls (nextAts bs ls ats kind mkey) = pathOf bs ls (nextAts bs ls ats kind mkey))]
            have g : Below p5.heap.size p5 p6 := by rw [hw]; exact later_drewN p5 j
            have h6 := Lib.hid (h5.out.later g)
            clear h5 g hw r5 s5 wf4
            go_wp2_with fail
            refine (Depth2 h6.out.1).mono ?_
            rintro e q ⟨rfl, rfl⟩
            go_wp2_with fail
            refine (Depth2 h6.out.1.symm).mono ?_
            rintro e q ⟨rfl, rfl⟩
            go_wp2_with fail
            refine (Left2 h6.out.1 HT.out).mono ?_
            rintro e p7 ⟨rfl, j, hw⟩
            have g : Below p6.heap.size p6 p7 := by rw [hw]; exact later_drewN p6 j
            have h7 := Lib.hid (h6.out.later g)
            clear h6 g hw
            go_wp2_with fail
            refine (Left2 h7.out.1.symm HT.out).mono ?_
            rintro e p8 ⟨rfl, j, hw⟩
            have g : Below p7.heap.size p7 p8 := by rw [hw]; exact later_drewN p7 j
            have h8 := Lib.hid (h7.out.later g)
            clear h7 g hw
            go_wp2_with fail
            go_roundw
            case rel => exact ⟨k + 1, nextAts bs ls ats kind mkey, st + n1, by omega, by go_num, h8.out.1, h8.out.2.1, by have := hnb.out; omega, by have := hnb.out; have := HS1.out; omega, by omega⟩
            case measure => simp [intOf]; omega
      · have HBW := Lib.hid HB.out
        go_wp2_with fail
        refine (@Key_nil _).mono ?_
        rintro e q ⟨rfl, rfl⟩
        go_wp2_with fail
        refine (@Open_nil _).mono ?_
        rintro e n1 ⟨rfl, g1⟩
        have hb1 := HBW.out.trans (g1.mono HBW.out.size)
        go_wp2_with fail
        refine (@Up_nil _).mono ?_
        rintro e n2 ⟨rfl, g2⟩
        have hb2 := hb1.trans (g2.mono hb1.size)
        go_wp2_with fail
        refine (@Next_nil _).mono ?_
        rintro e n3 ⟨rfl, g3⟩
        have hb3 := hb2.trans (g3.mono hb2.size)
        go_wp2_with fail
        refine (@Seek_nil _ _).mono ?_
        rintro e n4 ⟨rfl, g4⟩
        have hb4 := hb3.trans (g4.mono hb3.size)
        go_wp2_with fail
        refine (@Move_nil _ _ _).mono ?_
        rintro e n5 ⟨rfl, g5⟩
        have hb5 := hb4.trans (g5.mono hb4.size)
        go_wp2_with fail
        refine (@Depth_nil _).mono ?_
        rintro e q ⟨rfl, rfl⟩
        go_wp2_with fail
        refine (@Left_nil _).mono ?_
        rintro e q ⟨rfl, rfl⟩
        go_wp2_with fail
        refine (@Steps_nil _).mono ?_
        rintro e q ⟨rfl, rfl⟩
        go_wp2_with fail
        refine (@Path_nil _).mono ?_
        rintro e q ⟨rfl, rfl⟩
        go_wp2_with fail
        go_ret
        exact ⟨rfl, hb5⟩
  · have HK := Lib.hid hok
    clear hok
    go_wp2_with fail
    refine (New_no _ _ bs ls w2 sB.out sL.out HK.out).mono ?_
    rintro e w3 ⟨rfl, hb3⟩
    have hbw3 := later_trans hbw2 hb3
    have hx := (hb3.block _ (lt_of_block HX2.out)).trans HX2.out
    have x0 := box_cell (i := 0) hx
    have x1 := box_cell (i := 1) hx
    simp only [List.getElem?_toArray, List.getElem?_cons_zero, List.getElem?_cons_succ] at x0 x1
    clear hx hb3 hbw2
    go_wp2_with fail
    refine (HOwn.out _ hbw3).mono ?_
    rintro e w4 ⟨vb4, vl4, rfl, ob, ol, hb4⟩
    have sB4 := Lib.hid (show SlB w4 vb4 bs from ⟨SlT.of_owns ob, HWB.out⟩)
    have sL4 := Lib.hid (show SlI .u64 w4 vl4 ls from SlI.of_owns ol HWL.out)
    have hbw4 := later_trans hbw3 hb4
    clear ob ol x0 x1 hbw3 hb4
    go_wp2_with fail
    refine (New_no _ _ bs ls w4 sB4.out sL4.out HK.out).mono ?_
    rintro e w5 ⟨rfl, hb5⟩
    have HB := Lib.hid (later_trans hbw4 hb5)
    clear hbw4 hb5
    go_wp2_with fail
    go_loopw [34] (fun i wr => ∃ k : Nat, k ≤ ms.length ∧ i = .int .i64 k ∧ Below w.heap.size w wr) (fun i _ => ms.length - (intOf i).toNat)
    case atStart => exact ⟨0, Nat.zero_le _, rfl, HB.out⟩
    case round =>
      obtain ⟨k, hk, rfl, hb⟩ := hrel
      have HB := Lib.hid hb
      clear hb
      by_cases hlt : k < ms.length
      · obtain ⟨bb, o, rfl, hbb, hcs⟩ := HM.out (by omega)
        obtain ⟨q0, q1⟩ := hcs k hlt
        have q0 := ((bcell HB.out).1 bb (o + k * 2) hbb).trans q0
        have q1 := ((bcell HB.out).1 bb (o + k * 2 + 1) hbb).trans q1
        obtain ⟨m, hm⟩ : ∃ m, ms[k] = m := ⟨_, rfl⟩
        obtain ⟨kind, mkey⟩ := m
        rw [hm] at q0 q1
        have HBW := Lib.hid (HB.out.alloc HB.out.size (.cells #[.int .i64 kind, .int .u64 mkey] 42))
        clear hcs hm
        obtain ⟨e20, he20⟩ : ∃ e20, ((k : Int) == 20) = e20 := ⟨_, rfl⟩
        cases e20
        · go_wp2_with fail
          refine (@Key_nil _).mono ?_
          rintro e q ⟨rfl, rfl⟩
          go_wp2_with fail
          refine (@Open_nil _).mono ?_
          rintro e n1 ⟨rfl, g1⟩
          have hb1 := HBW.out.trans (g1.mono HBW.out.size)
          go_wp2_with fail
          refine (@Up_nil _).mono ?_
          rintro e n2 ⟨rfl, g2⟩
          have hb2 := hb1.trans (g2.mono hb1.size)
          go_wp2_with fail
          refine (@Next_nil _).mono ?_
          rintro e n3 ⟨rfl, g3⟩
          have hb3 := hb2.trans (g3.mono hb2.size)
          go_wp2_with fail
          refine (@Seek_nil _ _).mono ?_
          rintro e n4 ⟨rfl, g4⟩
          have hb4 := hb3.trans (g4.mono hb3.size)
          go_wp2_with fail
          refine (@Move_nil _ _ _).mono ?_
          rintro e n5 ⟨rfl, g5⟩
          have hb5 := hb4.trans (g5.mono hb4.size)
          go_wp2_with fail
          refine (@Depth_nil _).mono ?_
          rintro e q ⟨rfl, rfl⟩
          go_wp2_with fail
          refine (@Left_nil _).mono ?_
          rintro e q ⟨rfl, rfl⟩
          go_wp2_with fail
          refine (@Steps_nil _).mono ?_
          rintro e q ⟨rfl, rfl⟩
          go_wp2_with fail
          refine (@Path_nil _).mono ?_
          rintro e q ⟨rfl, rfl⟩
          go_wp2_with fail
          go_ret
          exact ⟨rfl, hb5⟩
        · go_wp2_with fail
          refine (@Key_nil _).mono ?_
          rintro e q ⟨rfl, rfl⟩
          go_wp2_with fail
          refine (@Open_nil _).mono ?_
          rintro e n1 ⟨rfl, g1⟩
          have hb1 := HBW.out.trans (g1.mono HBW.out.size)
          go_wp2_with fail
          refine (@Up_nil _).mono ?_
          rintro e n2 ⟨rfl, g2⟩
          have hb2 := hb1.trans (g2.mono hb1.size)
          go_wp2_with fail
          refine (@Next_nil _).mono ?_
          rintro e n3 ⟨rfl, g3⟩
          have hb3 := hb2.trans (g3.mono hb2.size)
          go_wp2_with fail
          refine (@Seek_nil _ _).mono ?_
          rintro e n4 ⟨rfl, g4⟩
          have hb4 := hb3.trans (g4.mono hb3.size)
          go_wp2_with fail
          refine (@Move_nil _ _ _).mono ?_
          rintro e n5 ⟨rfl, g5⟩
          have hb5 := hb4.trans (g5.mono hb4.size)
          go_wp2_with fail
          refine (@Depth_nil _).mono ?_
          rintro e q ⟨rfl, rfl⟩
          go_wp2_with fail
          refine (@Left_nil _).mono ?_
          rintro e q ⟨rfl, rfl⟩
          go_wp2_with fail
          refine (@Steps_nil _).mono ?_
          rintro e q ⟨rfl, rfl⟩
          go_wp2_with fail
          refine (@Path_nil _).mono ?_
          rintro e q ⟨rfl, rfl⟩
          go_wp2_with fail
          go_ret
          exact ⟨rfl, hb5⟩
      · have HBW := Lib.hid HB.out
        go_wp2_with fail
        refine (@Key_nil _).mono ?_
        rintro e q ⟨rfl, rfl⟩
        go_wp2_with fail
        refine (@Open_nil _).mono ?_
        rintro e n1 ⟨rfl, g1⟩
        have hb1 := HBW.out.trans (g1.mono HBW.out.size)
        go_wp2_with fail
        refine (@Up_nil _).mono ?_
        rintro e n2 ⟨rfl, g2⟩
        have hb2 := hb1.trans (g2.mono hb1.size)
        go_wp2_with fail
        refine (@Next_nil _).mono ?_
        rintro e n3 ⟨rfl, g3⟩
        have hb3 := hb2.trans (g3.mono hb2.size)
        go_wp2_with fail
        refine (@Seek_nil _ _).mono ?_
        rintro e n4 ⟨rfl, g4⟩
        have hb4 := hb3.trans (g4.mono hb3.size)
        go_wp2_with fail
        refine (@Move_nil _ _ _).mono ?_
        rintro e n5 ⟨rfl, g5⟩
        have hb5 := hb4.trans (g5.mono hb4.size)
        go_wp2_with fail
        refine (@Depth_nil _).mono ?_
        rintro e q ⟨rfl, rfl⟩
        go_wp2_with fail
        refine (@Left_nil _).mono ?_
        rintro e q ⟨rfl, rfl⟩
        go_wp2_with fail
        refine (@Steps_nil _).mono ?_
        rintro e q ⟨rfl, rfl⟩
        go_wp2_with fail
        refine (@Path_nil _).mono ?_
        rintro e q ⟨rfl, rfl⟩
        go_wp2_with fail
        go_ret
        exact ⟨rfl, hb5⟩
end Go.Proofs.Ytdfnfdgkhflonaa
