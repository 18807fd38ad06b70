/-
  CursorSeeks, walked. (Printed by mkseeks.py out of seeks.head.txt.)
-/
import Derived.Test.YtdfnfdgkhflonaaCuTwo
namespace Go.Proofs.Ytdfnfdgkhflonaa
open Go.RowKit
set_option linter.unusedVariables false

/-- Where a move of any kind leads, be it made or not. -/
def nextAts (bs : List Br) (ls : List Int) (ats : List Nat) (kind key : Int) : List Nat := if whyM bs ls ats kind = 0 then moved bs ls kind key ats else ats
theorem gone2_next {B N : Nat} {w w' : World} {a b : Nat} {bs : List Br} {ls : List Int} {atsA atsB : List Nat} {stA stB kind key : Int} (h : Gone2 B N w a b bs ls atsA stA atsB stB (whyM bs ls atsA kind) kind key w') (hb : lastAt atsA ≤ (rowAt bs ls atsA).length ∧ (rowAt bs ls atsA).length ≤ 1048576) :
    ∃ n : Int, 0 ≤ n ∧ n ≤ 2000 ∧ Two B N w' a b bs ls (nextAts bs ls atsA kind key) (stA + n) atsB stB := by
  by_cases hq : whyM bs ls atsA kind = 0
  · obtain ⟨_, _, n, hn, h2⟩ := h.2.1 hq
    have := steps_bound hn hb
    exact ⟨n, by omega, by omega, by rw [nextAts, if_pos hq]; exact h2⟩
  · exact ⟨0, by omega, by omega, by rw [nextAts, if_neg hq, Int.add_zero]; exact h.2.2 hq⟩

/-- Two cursors, and a move in a box beside them. -/
def SkW (n0 N : Nat) (w : World) (a b : Nat) (bs : List Br) (ls : List Int) (atsA : List Nat) (stA : Int) (atsB : List Nat) (stB : Int) (W : World) : Prop := Two n0 N W a b bs ls atsA stA atsB stB ∧ Below n0 w W
section
variable {n0 N : Nat} {w : World} {a b : Nat} {bs : List Br} {ls : List Int} {atsA atsB : List Nat} {stA stB : Int} {W W' : World}
theorem SkW.later (h : SkW n0 N w a b bs ls atsA stA atsB stB W) (hb : Below W.heap.size W W') : SkW n0 N w a b bs ls atsA stA atsB stB W' := ⟨h.1.later hb, h.2.trans (hb.mono h.1.low)⟩
theorem SkW.symm (h : SkW n0 N w a b bs ls atsA stA atsB stB W) : SkW n0 N w b a bs ls atsB stB atsA stA W := ⟨h.1.symm, h.2⟩
end
theorem skw_next {n0 N : Nat} {w W W' : World} {a b : Nat} {bs : List Br} {ls : List Int} {atsA atsB : List Nat} {stA stB kind key : Int} (h : SkW n0 N w a b bs ls atsA stA atsB stB W) (g : Gone2 n0 N W a b bs ls atsA stA atsB stB (whyM bs ls atsA kind) kind key W') (hb : lastAt atsA ≤ (rowAt bs ls atsA).length ∧ (rowAt bs ls atsA).length ≤ 1048576) :
    ∃ n : Int, 0 ≤ n ∧ n ≤ 2000 ∧ SkW n0 N w a b bs ls (nextAts bs ls atsA kind key) (stA + n) atsB stB W' := by
  obtain ⟨n, h1, h2, h3⟩ := gone2_next g hb
  exact ⟨n, h1, h2, h3, h.2.trans g.1.1⟩
theorem path_wf2 {w : World} {C : Nat → Prop} {c N : Nat} {rv : Value} {bs : List Br} {ls : List Int} {ats : List Nat} {st : Int} (h : CuM w C c N rv bs ls ats st) : ∀ x ∈ pathOf bs ls ats, (Lit.int .u64 x).wf = true := by
  obtain ⟨kv, bv, lv, rs, hS, hC, h1, h2, h3, l1, l2, l3, hR⟩ := h
  have hk := h1.2
  have hl := h3.2
  have hkx : ∀ (i : Nat), ∀ x ∈ ((keysOf bs).drop i).take 1, (Lit.int .u64 x).wf = true := fun i x hx => hk x (List.mem_of_mem_drop (List.mem_of_mem_take hx))
  have hlx : ∀ (b : Br) (j : Nat), ∀ x ∈ ((leavesOf ls b).drop j).take 1, (Lit.int .u64 x).wf = true := fun b j x hx => hl x (List.mem_of_mem_drop (List.mem_of_mem_take (List.mem_of_mem_drop (List.mem_of_mem_take hx))))
  match ats, hR with
  | [], _ => intro x hx; simp [pathOf, rowsR, pathR] at hx
  | [i], _ => intro x hx; exact hkx i x (by simpa [pathOf, rowsR, pathR] using hx)
  | [i, j], _ =>
    intro x hx
    have : x ∈ ((keysOf bs).drop i).take 1 ∨ x ∈ ((leavesOf ls (bs.getD i Br.no)).drop j).take 1 := by simpa [pathOf, rowsR, pathR] using hx
    rcases this with h | h
    · exact hkx i x h
    · exact hlx _ j x h
theorem row_any (bs : List Br) (ls : List Int) (l : List Nat) (r r' : Nat) : rowAt bs ls (l ++ [r]) = rowAt bs ls (l ++ [r']) := by
  match l with
  | [] => rfl
  | [i] => rfl
  | i :: j :: l => cases l <;> rfl
theorem last_snoc (l : List Nat) (r : Nat) : lastAt (l ++ [r]) = r := by simp [lastAt]
/-- A place in a row that is not its end. -/
theorem on_row {bs : List Br} {ls : List Int} {l : List Nat} {r r0 : Nat} {xs : List Int} (hx : rowAt bs ls (l ++ [r0]) = xs) : leftOf bs ls (l ++ [r]) = xs.length - r ∧ isKey bs ls (l ++ [r]) = decide (r < xs.length) ∧ (∀ h : r < xs.length, keyOf bs ls (l ++ [r]) = xs[r] ∧ whyQ bs ls (l ++ [r]) 3 = 0) ∧ moved bs ls 3 0 (l ++ [r]) = l ++ [r + 1] := by
  have e : rowAt bs ls (l ++ [r]) = xs := by rw [row_any bs ls l r r0]; exact hx
  refine ⟨by rw [leftOf, e, last_snoc], by rw [isKey, e, last_snoc], fun h => ⟨?_, ?_⟩, by simp [moved, last_snoc]⟩
  · rw [keyOf, e, last_snoc, if_pos h]
    simp [List.getD, List.getElem?_eq_getElem h]
  · rw [why_last (by decide) rfl, e, last_snoc, if_neg (fun h' => by omega)]

set_option maxRecDepth 100000 in
set_option maxHeartbeats 8000000 in
theorem lawSeeks_walk (vb vl vm : Value) (B0 : List Br) (L0 : List Int) (ms : List Mv) (key : Int) (w : World) (hB : SlB w vb B0) (hL : SlI .u64 w vl L0) (hM : SlM w vm ms) :
    Calls Try.prog 6 #[.agg #[vb, vl], vm, .int .u64 key] w fun e w' => e = .returned (.bool true) ∧ Below w.heap.size w w' := by
  have HB0 := Lib.hid hB.2
  have HL0 := Lib.hid hL.2
  have HOwn := Lib.hid (fun V (hV : Below w.heap.size w V) => own8_any _ _ B0 L0 V (hB.later hV) (hL.later hV))
  obtain ⟨a, c, rfl, -, -, -, -⟩ := hB.open
  obtain ⟨a', c', rfl, -, -, -, -⟩ := hL.open
  obtain ⟨am, cm, rfl, m1, m2, m3, m4⟩ := hM.open
  have hmm : ms.length ≤ 9223372036854775807 := by omega
  have HM := Lib.hid m4
  clear hB hL hM m1 m2 m3 m4
  go_enter Try.func6, Try.ntmps6
  go_wp2_with fail
  refine (wakes8_any _).mono ?_
  rintro e w1 ⟨rfl, hb1⟩
  have hbw1 := later_trans (later_alloc w _) hb1
  have hx := (hb1.block w.heap.size (by simp)).trans (box_new w _ _)
  have x0 := box_cell (i := 0) hx
  have x1 := box_cell (i := 1) hx
  simp only [List.getElem?_toArray, List.getElem?_cons_zero, List.getElem?_cons_succ] at x0 x1
  clear hx hb1
  go_wp2_with fail
  refine (HOwn.out _ hbw1).mono ?_
  rintro e w2 ⟨vb2, vl2, rfl, ob, ol, hb2⟩
  obtain ⟨bs, hbs⟩ : ∃ bs, B0.take (min B0.length 40) = bs := ⟨_, rfl⟩
  obtain ⟨ls, hls⟩ : ∃ ls, L0.take (min L0.length 80) = ls := ⟨_, rfl⟩
  rw [hbs] at ob
  rw [hls] at ol
  have hfew : bs.length ≤ 40 := by rw [← hbs]; simp; omega
  have sB2 : SlB w2 vb2 bs := ⟨SlT.of_owns ob, fun b hb => HB0.out b (List.mem_of_mem_take (hbs ▸ hb))⟩
  have sL2 : SlI .u64 w2 vl2 ls := SlI.of_owns ol (fun x hx => HL0.out x (List.mem_of_mem_take (hls ▸ hx)))
  have hbw2 := later_trans hbw1 hb2
  obtain ⟨ab, cb, rfl⟩ := owns_shape2 ob
  obtain ⟨al, cl, rfl⟩ := owns_shape2 ol
  have HW3 := Lib.hid (later_trans hbw2 (later_alloc w2 (.cells #[.slice ab bs.length cb, .slice al ls.length cl] 25)))
  have HX3 := Lib.hid (box_new w2 #[.slice ab bs.length cb, .slice al ls.length cl] 25)
  have sB := Lib.hid (sB2.later (later_alloc w2 (.cells #[.slice ab bs.length cb, .slice al ls.length cl] 25)))
  have sL := Lib.hid (sL2.later (later_alloc w2 (.cells #[.slice ab bs.length cb, .slice al ls.length cl] 25)))
  clear ob ol hbs hls hb2 hbw1 x0 x1 hbw2 sB2 sL2
  by_cases hok : TrieOk bs ls
  · have HT := Lib.hid (TrieS.mk hok (by omega))
    clear hok
    go_wp2_with fail
    refine (New_ok _ _ bs ls _ sB.out sL.out HT.out).mono ?_
    rintro e w3 ⟨ca, rfl, hb3, hca, hA⟩
    have hx := (hb3.block w2.heap.size (by simp)).trans HX3.out
    have y0 := box_cell (i := 0) hx
    have y1 := box_cell (i := 1) hx
    simp only [List.getElem?_toArray, List.getElem?_cons_zero, List.getElem?_cons_succ] at y0 y1
    have HA := Lib.hid hA
    clear hA hx
    go_wp2_with fail
    refine (New_ok _ _ bs ls w3 (sB.out.later hb3) (sL.out.later hb3) HT.out).mono ?_
    rintro e w4 ⟨cb2, rfl, hb4, hcb, hBB⟩
    have h0 := Lib.hid (SkW.later (W := w4) (W' := w4) (⟨two_new HW3.out.size hca HA.out (Below.refl _ _) hb4 hcb hBB hb3.size, later_trans HW3.out (later_trans hb3 hb4)⟩ : SkW w.heap.size w4.heap.size w ca cb2 bs ls [] 0 [] 0 w4) (Below.refl _ _))
    obtain ⟨N, hN⟩ : ∃ N, w4.heap.size = N := ⟨_, rfl⟩
    rw [hN] at h0
    clear hb3 hb4 hca hcb hBB HA hN y0 y1
    go_wp2_with fail
    go_loopw [46] (fun i wr => ∃ (k : Nat) (ats : List Nat) (stA stB : Int), k ≤ ms.length ∧ i = .int .i64 k ∧ SkW w.heap.size N w ca cb2 bs ls ats stA ats stB wr ∧ 0 ≤ stA ∧ stA ≤ 3000 * (min k 8 : Nat) ∧ 0 ≤ stB ∧ stB ≤ 3000 * (min k 8 : Nat)) (fun i _ => ms.length - (intOf i).toNat)
    case atStart => exact ⟨0, [], 0, 0, Nat.zero_le _, rfl, h0.out, by omega, by omega, by omega, by omega⟩
    case round =>
      obtain ⟨k, ats, stA, stB, hk, rfl, hS, hsA0, hsA, hsB0, hsB⟩ := hrel
      have HS := Lib.hid hS
      have HSt := Lib.hid (And.intro hsA hsB)
      have hsA2 : stA ≤ 24000 := by omega
      have hsB2 : stB ≤ 24000 := by omega
      clear hS h0 hsA hsB
      by_cases hlt : k < ms.length
      · obtain ⟨bb, o, rfl, hbb, hcs⟩ := HM.out (by omega)
        obtain ⟨q0, q1⟩ := hcs k hlt
        have q0 := ((bcell HS.out.2).1 bb (o + k * 2) hbb).trans q0
        have q1 := ((bcell HS.out.2).1 bb (o + k * 2 + 1) hbb).trans q1
        obtain ⟨m, hm⟩ : ∃ m, ms[k] = m := ⟨_, rfl⟩
        obtain ⟨kind, mkey⟩ := m
        rw [hm] at q0 q1
        clear hcs hm
        have h1 := Lib.hid (HS.out.later (later_alloc wr (.cells #[.int .i64 kind, .int .u64 mkey] 42)))
        have hX1 := box_new wr #[.int .i64 kind, .int .u64 mkey] 42
        by_cases h8 : k < 8
        · have e8 : decide ((k : Int) < 8) = true := by rw [decide_eq_true_eq]; omega
          have hc : ∀ W : World, W.heap[wr.heap.size]? = some (.cells #[.int .i64 kind, .int .u64 mkey] 42 (0, 0)) → W.cell? ⟨wr.heap.size, 0, none⟩ = some (.int .i64 kind) ∧ W.cell? ⟨wr.heap.size, 1, none⟩ = some (.int .u64 mkey) := fun W hn =>
            ⟨by simpa using box_cell (i := 0) hn, by simpa using box_cell (i := 1) hn⟩
          have HC := Lib.hid hc
          have HX1 := Lib.hid hX1
          clear hc hX1
          go_wp2_with fail
          go_region_held3 (fun W => W.cell? ⟨wr.heap.size, 0, none⟩ = some (.int .i64 kind) ∧ W.cell? ⟨wr.heap.size, 1, none⟩ = some (.int .u64 mkey))
            (first | exact HC.out _ HX1.out | exact HC.out _ hX3 | exact HC.out _ hX2 | assumption)
            (first
              | (go_at_call 20; have hq := h2; refine (Move2 h2.out.symm.1 HT.out hsB0 (by omega)).mono ?_; rintro e p3 ⟨rfl, g3⟩; have hX3 := g3.1.2 _ _ _ _ hX2 (by decide) (by decide); have h3 := Lib.hid (skw_next h2.out.symm g3 (h2.out.symm.1.bound HT.out)); clear g3)
              | (go_at_call 20; refine (Move2 (h1.out.1.later (later_drew _)) HT.out hsA0 (by omega)).mono ?_; rintro e p2 ⟨rfl, g2⟩; have hX2 := g2.1.2 _ _ _ _ HX1.out (by decide) (by decide); obtain ⟨n2, hn2, hn3, h2'⟩ := skw_next (h1.out.later (later_drew _)) g2 (h1.out.1.bound HT.out); have h2 := Lib.hid h2'; clear g2 h2'))
          obtain ⟨n3, hn4, hn5, h3⟩ := h3.out
          have H3 := Lib.hid h3.symm
          clear h3
          go_wp2_with fail
          go_roundw
          case rel => exact ⟨k + 1, _, stA + n2, stB + n3, by omega, by go_num, H3.out, by omega, by have := HSt.out; omega, by omega, by have := HSt.out; omega⟩
          case measure => simp [intOf]; omega
        · have e8 : decide ((k : Int) < 8) = false := by rw [decide_eq_false_iff_not]; omega
          clear hX1
          go_wp2_with fail
          refine wp_region_noPanic ?_
          refine wp_region_held_drew (S := fun W => True) (by kernel_rfl) trivial (fun hHeld => ?_)
          refine wpAnyH_take (i := 0) (v := ?v0) rfl (by kernel_rfl) (by kernel_rfl) (by kernel_rfl) (fun _ _ _ h => h) (Or.inl ⟨by rfl, ?hy0⟩) (by assumption) ?rest0
          case hy0 => (intro w hSw; (try dsimp only at hSw); go_simp; try (with_reducible rfl))
          try simp only [Act.put, List.setIfInBounds_toArray, List.set_cons_zero, List.set_cons_succ, List.getElem_toArray, List.getElem_cons_zero]
          refine wpAnyH_take (i := 1) (v := ?v1) rfl (by kernel_rfl) (by kernel_rfl) (by kernel_rfl) (fun _ _ _ h => h) (Or.inl ⟨by rfl, ?hy1⟩) (by assumption) ?rest1
          case hy1 => (intro w hSw; (try dsimp only at hSw); go_simp; try (with_reducible rfl))
          try simp only [Act.put, List.setIfInBounds_toArray, List.set_cons_zero, List.set_cons_succ, List.getElem_toArray, List.getElem_cons_zero, List.getElem_cons_succ]
          refine wpAnyH_take (i := 2) (v := ?v2) rfl (by kernel_rfl) (by kernel_rfl) (by kernel_rfl) (fun _ _ _ h => h) (Or.inl ⟨by rfl, ?hy2⟩) (by assumption) ?rest2
          case hy2 => (intro w hSw; (try dsimp only at hSw); go_simp; try (with_reducible rfl))
          try simp only [Act.put, List.setIfInBounds_toArray, List.set_cons_zero, List.set_cons_succ, List.getElem_toArray, List.getElem_cons_zero, List.getElem_cons_succ]
          refine wpAnyH_take (i := 3) (v := undef) rfl (by kernel_rfl) (by kernel_rfl) (by kernel_rfl) (fun _ _ _ h => h) (Or.inr ⟨by rfl, rfl⟩) (by assumption) ?_
          try simp only [Act.put, List.setIfInBounds_toArray, List.set_cons_zero, List.set_cons_succ, List.getElem_toArray, List.getElem_cons_zero, List.getElem_cons_succ]
          refine wpAnyH_take (i := 4) (v := undef) rfl (by kernel_rfl) (by kernel_rfl) (by kernel_rfl) (fun _ _ _ h => h) (Or.inr ⟨by rfl, rfl⟩) (by assumption) ?_
          try simp only [Act.put, List.setIfInBounds_toArray, List.set_cons_zero, List.set_cons_succ, List.getElem_toArray, List.getElem_cons_zero, List.getElem_cons_succ]
          refine wpAnyH_take (i := 5) (v := undef) rfl (by kernel_rfl) (by kernel_rfl) (by kernel_rfl) (fun _ _ _ h => h) (Or.inr ⟨by rfl, rfl⟩) (by assumption) ?_
          try simp only [Act.put, List.setIfInBounds_toArray, List.set_cons_zero, List.set_cons_succ, List.getElem_toArray, List.getElem_cons_zero, List.getElem_cons_succ]
          refine wpAnyH_take (i := 6) (v := undef) rfl (by kernel_rfl) (by kernel_rfl) (by kernel_rfl) (fun _ _ _ h => h) (Or.inr ⟨by rfl, rfl⟩) (by assumption) ?_
          try simp only [Act.put, List.setIfInBounds_toArray, List.set_cons_zero, List.set_cons_succ, List.getElem_toArray, List.getElem_cons_zero, List.getElem_cons_succ]
          refine wpAnyH_take (i := 7) (v := undef) rfl (by kernel_rfl) (by kernel_rfl) (by kernel_rfl) (fun _ _ _ h => h) (Or.inr ⟨by rfl, rfl⟩) (by assumption) ?_
          try simp only [Act.put, List.setIfInBounds_toArray, List.set_cons_zero, List.set_cons_succ, List.getElem_toArray, List.getElem_cons_zero, List.getElem_cons_succ]
          refine wpAnyH_take (i := 8) (v := undef) rfl (by kernel_rfl) (by kernel_rfl) (by kernel_rfl) (fun _ _ _ h => h) (Or.inr ⟨by rfl, rfl⟩) (by assumption) ?_
          try simp only [Act.put, List.setIfInBounds_toArray, List.set_cons_zero, List.set_cons_succ, List.getElem_toArray, List.getElem_cons_zero, List.getElem_cons_succ]
          refine wpAnyH_take (i := 9) (v := undef) rfl (by kernel_rfl) (by kernel_rfl) (by kernel_rfl) (fun _ _ _ h => h) (Or.inr ⟨by rfl, rfl⟩) (by assumption) ?_
          try simp only [Act.put, List.setIfInBounds_toArray, List.set_cons_zero, List.set_cons_succ, List.getElem_toArray, List.getElem_cons_zero, List.getElem_cons_succ]
          refine wpAnyH_take (i := 10) (v := ?v10) rfl (by kernel_rfl) (by kernel_rfl) (by kernel_rfl) (fun _ _ _ h => h) (Or.inl ⟨by rfl, ?hy10⟩) (by assumption) ?rest10
          case hy10 => (intro w hSw; (try dsimp only at hSw); go_simp; try (with_reducible rfl))
          try simp only [Act.put, List.setIfInBounds_toArray, List.set_cons_zero, List.set_cons_succ, List.getElem_toArray, List.getElem_cons_zero, List.getElem_cons_succ]
          refine wpAnyH_done (by kernel_rfl) ?_ _
          refine NoPanic.normal ?_
          go_wp2_with fail
          go_roundw
          case rel => exact ⟨k + 1, ats, stA, stB, by omega, by go_num, h1.out.later (later_drew _), by omega, by have := HSt.out; omega, by omega, by have := HSt.out; omega⟩
          case measure => simp [intOf]; omega
      · have h1 := Lib.hid (HS.out)
        clear HS HSt
        go_wp2_with fail
        refine (Steps2 h1.out.1).mono ?_
        rintro e p ⟨rfl, rfl⟩
        go_wp2_with fail
        refine (Left2 h1.out.1 HT.out).mono ?_
        rintro e p1 ⟨rfl, j, hw⟩
        have g : Below wr.heap.size wr p1 := by rw [hw]; exact later_drewN wr j
        have h2 := Lib.hid (h1.out.later g)
        obtain ⟨lf, hlf⟩ : ∃ lf, leftOf bs ls ats = lf := ⟨_, rfl⟩
        rw [hlf]
        have HLF := Lib.hid hlf
        clear h1 g hw hlf
        go_wp2_with fail
        refine (Seek2 h2.out.1 HT.out hsA0 (by omega)).mono ?_
        rintro e p2 ⟨rfl, ⟨gb, gk⟩, gy, gn⟩
        by_cases hq : whyQ bs ls ats 4 = 0
        · have hne : ats ≠ [] := fun h => by rw [h, why_none _ _ (by decide)] at hq; cases hq
          obtain ⟨-, -, n, hn, h3⟩ := gy hq
          have hats := h2.out.1.ats HT.out hne
          obtain ⟨l, hl⟩ : ∃ l, ats.dropLast = l := ⟨_, rfl⟩
          obtain ⟨r0, hr0⟩ : ∃ r0, lastAt ats = r0 := ⟨_, rfl⟩
          obtain ⟨xs, hxs⟩ : ∃ xs, rowAt bs ls ats = xs := ⟨_, rfl⟩
          have hbd := h2.out.1.bound HT.out
          obtain ⟨pl, hpl⟩ : ∃ pl, place xs r0 (geB key) = pl := ⟨_, rfl⟩
          obtain ⟨looks, hfew, rfl⟩ : ∃ looks : Nat, FewLooks (rowAt bs ls ats).length (lastAt ats) (place (rowAt bs ls ats) (lastAt ats) (geB key)) looks ∧ n = looks := hn
          have hm : moved bs ls 4 key ats = l ++ [pl] := by simp [moved, hl, hr0, hxs, hpl]
          rw [hm] at h3
          rw [hl, hr0] at hats
          rw [hxs, hr0] at hbd hfew
          rw [hpl] at hfew
          have hlt0 : r0 < xs.length := by
            have h5 := why_last (bs := bs) (ls := ls) (kind := 4) (by decide) hats
            rw [hq, hxs, hr0] at h5
            by_cases he : r0 = xs.length
            · rw [if_pos ⟨by decide, he⟩] at h5; cases h5
            · omega
          have hple : pl ≤ xs.length := by rw [← hpl]; exact place_le (by omega)
          have hplg : r0 ≤ pl := by rw [← hpl]; exact place_ge
          have hxr : rowAt bs ls (l ++ [r0]) = xs := by rw [← hats]; exact hxs
          have hlf : lf = xs.length - r0 := by have := HLF.out; rw [← this, leftOf, hxs, hr0]
          have hlk := hfew.2 hlt0
          rw [hats] at h2
          have h3 := Lib.hid (show SkW w.heap.size N w ca cb2 bs ls (l ++ [pl]) (stA + looks) (l ++ [r0]) stB p2 from ⟨by rw [← hats]; exact h3, h2.out.2.trans gb⟩)
          have hlk1 : (1 : Int) ≤ looks := by omega
          have hlg := lg_le (1 + (pl : Int) - r0) (by omega)
          have HPL := Lib.hid hpl
          have HXR := Lib.hid hxr
          have HLK := Lib.hid hlk.2
          have hlk2 : (looks : Int) ≤ 2000 := by have := hlk.2; omega
          have HLF2 := Lib.hid hlf
          have hn0 := Lib.hid (noneTo_start xs r0 (geB key))
          have hxl := hbd.2
          rw [hq]
          clear h2 gb gk gy gn hq hats hl hr0 hxs hpl hfew hm hxr hlk hlf hne HLF hbd hlg
          go_wp2_with fail
          have hlf3 : lf ≤ 1048576 := by have := HLF2.out; omega
          go_loopw [86] (fun cnt wr => ∃ (q : Nat) (st : Int), q ≤ lf ∧ cnt = .int .i64 q ∧ SkW w.heap.size N w ca cb2 bs ls (l ++ [pl]) (stA + looks) (l ++ [r0 + q]) st wr ∧ NoneTo xs r0 (r0 + q) (geB key) ∧ 0 ≤ st ∧ st ≤ 24000 + q) (fun cnt _ => lf - (intOf cnt).toNat)
          case atStart => exact ⟨0, stB, Nat.zero_le _, rfl, h3.out, hn0.out, hsB0, by omega⟩
          case round =>
            obtain ⟨q, st, hq', rfl, hS, hNo, hst0, hst1⟩ := hrel
            have HS := Lib.hid hS
            have HNo := Lib.hid hNo
            clear hS hNo h3 hn0
            by_cases hlt : q < lf
            · have hrq : r0 + q < xs.length := by have := HLF2.out; omega
              obtain ⟨o1, o2, o3, o4⟩ := on_row (bs := bs) (ls := ls) (l := l) (r := r0 + q) HXR.out
              obtain ⟨o5, o6⟩ := o3 hrq
              rw [decide_eq_true hrq] at o2
              have HO6 := Lib.hid o6
              have HO4 := Lib.hid o4
              clear o1 o3 o4 o6
              go_wp2_with fail
              refine (Key2 HS.out.symm.1 HT.out).mono ?_
              rintro e p3 ⟨rfl, j, hw⟩
              rw [o5, o2]
              have g : Below wr.heap.size wr p3 := by rw [hw]; exact later_drewN wr j
              have h4 := Lib.hid (HS.out.later g)
              have HXX := Lib.hid (show ∃ h : r0 + q < xs.length, xs[r0 + q] = xs[r0 + q] from ⟨hrq, rfl⟩)
              obtain ⟨x, hx⟩ : ∃ x, xs[r0 + q] = x := ⟨_, rfl⟩
              rw [hx]
              have HX := Lib.hid hx
              clear HS g hw o5 o2 hx
              by_cases hge : key ≤ x
              · have hpq : r0 + q = pl := by rw [← HPL.out]; exact (noneTo_place HNo.out (by omega) hrq (by rw [HX.out]; simp [geB]; exact hge)).symm
                rw [hpq] at h4
                clear hpq
                have o1 := (on_row (bs := bs) (ls := ls) (l := l) (r := pl) HXR.out).1
                have hxl2 : xs.length ≤ 1048576 := hxl
                obtain ⟨lA, hlA⟩ : ∃ lA, xs.length - pl = lA := ⟨_, rfl⟩
                rw [hlA] at o1
                have hfr : (lf : Int) - lA = (pl : Int) - r0 := by have := HLF2.out; omega
                obtain ⟨fr, hfr2⟩ : ∃ fr : Int, (pl : Int) - r0 = fr := ⟨_, rfl⟩
                rw [hfr2] at hfr
                have hfr0 : 0 ≤ fr := by omega
                have hfr1 : fr ≤ 1048576 := by omega
                have hwf : IntKind.i64.wrap ((lf : Int) - lA) = fr := by rw [hfr]; exact wrap_i64 (by omega) (by omega)
                have hlk3 : (looks : Int) ≤ 2 + 2 * lg (1 + fr) := by have := HLK.out; rw [← hfr2, show 1 + ((pl : Int) - r0) = 1 + (pl : Int) - r0 by omega]; omega
                have hlg := lg_le (1 + fr) (by omega)
                have hlog := fun W => log_any (1 + fr) (by omega) (by omega) W
                have HO1 := Lib.hid o1
                have HLOG := Lib.hid hlog
                have hlA3 : lA ≤ 1048576 := by omega
                clear o1 hlA hfr2 hlog
                go_wp2_with fail
                refine (Left2 h4.out.1 HT.out).mono ?_
                rintro e pa ⟨rfl, j, hw⟩
                rw [HO1.out]
                have g : Below p3.heap.size p3 pa := by rw [hw]; exact later_drewN p3 j
                have h5 := Lib.hid (h4.out.later g)
                clear h4 g hw
                go_wp2_with fail
                refine (Steps2 h5.out.1).mono ?_
                rintro e pp ⟨rfl, rfl⟩
                go_wp2_with fail
                refine (Path2 h5.out.1).mono ?_
                rintro e pb ⟨va, rfl, oa, g⟩
                have h6 := Lib.hid (h5.out.later g)
                obtain ⟨Na, rva, hca1, hca2⟩ := h5.out.1.one
                have wf6 := Lib.hid (path_wf2 hca1)
                have ra := Lib.hid oa
                clear h5 g oa hca1
                go_wp2_with fail
                refine (Path2 h6.out.symm.1).mono ?_
                rintro e pc ⟨vb3, rfl, ob3, g⟩
                have h7 := Lib.hid (h6.out.later g)
                have ra2 := Lib.hid (owns_later ra.out g)
                have rb := Lib.hid ob3
                clear h6 g ob3 ra
                go_wp2_with fail
                refine (equal_any _ _ _ _ pc (sli_path ra2.out wf6.out) (sli_path rb.out wf6.out)).mono ?_
                rintro e pd ⟨rfl, j, hw⟩
                rw [decide_eq_true (rfl : pathOf bs ls (l ++ [pl]) = pathOf bs ls (l ++ [pl]))]
                have g : Below pc.heap.size pc pd := by rw [hw]; exact later_drewN pc j
                have h8 := Lib.hid (h7.out.later g)
                clear h7 g hw ra2 rb wf6
                go_wp2_with fail
                refine (Left2 h8.out.1 HT.out).mono ?_
                rintro e pe ⟨rfl, j, hw⟩
                rw [HO1.out]
                have g : Below pd.heap.size pd pe := by rw [hw]; exact later_drewN pd j
                have h9 := Lib.hid (h8.out.later g)
                clear h8 g hw
                go_wp2_with fail
                refine (Left2 h9.out.symm.1 HT.out).mono ?_
                rintro e pf ⟨rfl, j, hw⟩
                rw [HO1.out]
                have g : Below pe.heap.size pe pf := by rw [hw]; exact later_drewN pe j
                have h10 := Lib.hid (h9.out.later g)
                clear h9 g hw
                go_wp2_with fail
                refine (HLOG.out _).mono ?_
                rintro e pg ⟨rfl, rfl⟩
                go_wp2_with fail
                go_ret
                exact ⟨ret_bool (by rw [decide_eq_true_eq]; omega), h10.out.2⟩
              · have hge' : x < key := by omega
                go_wp2_with fail
                refine (Next2 h4.out.symm.1 HT.out hst0 (by omega)).mono ?_
                rintro e p4 ⟨rfl, ⟨gb, gk⟩, gy, gn⟩
                obtain ⟨-, -, n, hn, h5⟩ := gy HO6.out
                rw [HO6.out]
                rw [HO4.out] at h5
                obtain rfl : n = 1 := by simpa [Steps] using hn
                have h6 := Lib.hid (show SkW w.heap.size N w ca cb2 bs ls (l ++ [pl]) (stA + looks) (l ++ [r0 + q + 1]) (st + 1) p4 from ⟨h5.symm, h4.out.2.trans gb⟩)
                clear h4 gb gk gy gn hn h5
                go_wp2_with fail
                go_roundw
                case rel => exact ⟨q + 1, st + 1, by omega, by go_num, h6.out, noneTo_step HNo.out hrq (by show geB key xs[r0 + q] = false; rw [HX.out]; simp [geB]; omega), by omega, by omega⟩
                case measure => simp [intOf]; omega
            · have hpq : r0 + q = pl := by
                have h5 := HLF2.out
                rw [← HPL.out, noneTo_all HNo.out (by omega) (by omega)]
                omega
              have h4 := Lib.hid HS.out
              rw [hpq] at h4
              clear HS hpq
              have o1 := (on_row (bs := bs) (ls := ls) (l := l) (r := pl) HXR.out).1
              have hxl2 : xs.length ≤ 1048576 := hxl
              obtain ⟨lA, hlA⟩ : ∃ lA, xs.length - pl = lA := ⟨_, rfl⟩
              rw [hlA] at o1
              have hfr : (lf : Int) - lA = (pl : Int) - r0 := by have := HLF2.out; omega
              obtain ⟨fr, hfr2⟩ : ∃ fr : Int, (pl : Int) - r0 = fr := ⟨_, rfl⟩
              rw [hfr2] at hfr
              have hfr0 : 0 ≤ fr := by omega
              have hfr1 : fr ≤ 1048576 := by omega
              have hwf : IntKind.i64.wrap ((lf : Int) - lA) = fr := by rw [hfr]; exact wrap_i64 (by omega) (by omega)
              have hlk3 : (looks : Int) ≤ 2 + 2 * lg (1 + fr) := by have := HLK.out; rw [← hfr2, show 1 + ((pl : Int) - r0) = 1 + (pl : Int) - r0 by omega]; omega
              have hlg := lg_le (1 + fr) (by omega)
              have hlog := fun W => log_any (1 + fr) (by omega) (by omega) W
              have HO1 := Lib.hid o1
              have HLOG := Lib.hid hlog
              have hlA3 : lA ≤ 1048576 := by omega
              clear o1 hlA hfr2 hlog
              go_wp2_with fail
              refine (Left2 h4.out.1 HT.out).mono ?_
              rintro e pa ⟨rfl, j, hw⟩
              rw [HO1.out]
              have g : Below wr.heap.size wr pa := by rw [hw]; exact later_drewN wr j
              have h5 := Lib.hid (h4.out.later g)
              clear h4 g hw
              go_wp2_with fail
              refine (Steps2 h5.out.1).mono ?_
              rintro e pp ⟨rfl, rfl⟩
              go_wp2_with fail
              refine (Path2 h5.out.1).mono ?_
              rintro e pb ⟨va, rfl, oa, g⟩
              have h6 := Lib.hid (h5.out.later g)
              obtain ⟨Na, rva, hca1, hca2⟩ := h5.out.1.one
              have wf6 := Lib.hid (path_wf2 hca1)
              have ra := Lib.hid oa
              clear h5 g oa hca1
              go_wp2_with fail
              refine (Path2 h6.out.symm.1).mono ?_
              rintro e pc ⟨vb3, rfl, ob3, g⟩
              have h7 := Lib.hid (h6.out.later g)
              have ra2 := Lib.hid (owns_later ra.out g)
              have rb := Lib.hid ob3
              clear h6 g ob3 ra
              go_wp2_with fail
              refine (equal_any _ _ _ _ pc (sli_path ra2.out wf6.out) (sli_path rb.out wf6.out)).mono ?_
              rintro e pd ⟨rfl, j, hw⟩
              rw [decide_eq_true (rfl : pathOf bs ls (l ++ [pl]) = pathOf bs ls (l ++ [pl]))]
              have g : Below pc.heap.size pc pd := by rw [hw]; exact later_drewN pc j
              have h8 := Lib.hid (h7.out.later g)
              clear h7 g hw ra2 rb wf6
              go_wp2_with fail
              refine (Left2 h8.out.1 HT.out).mono ?_
              rintro e pe ⟨rfl, j, hw⟩
              rw [HO1.out]
              have g : Below pd.heap.size pd pe := by rw [hw]; exact later_drewN pd j
              have h9 := Lib.hid (h8.out.later g)
              clear h8 g hw
              go_wp2_with fail
              refine (Left2 h9.out.symm.1 HT.out).mono ?_
              rintro e pf ⟨rfl, j, hw⟩
              rw [HO1.out]
              have g : Below pe.heap.size pe pf := by rw [hw]; exact later_drewN pe j
              have h10 := Lib.hid (h9.out.later g)
              clear h9 g hw
              go_wp2_with fail
              refine (HLOG.out _).mono ?_
              rintro e pg ⟨rfl, rfl⟩
              go_wp2_with fail
              go_ret
              exact ⟨ret_bool (by rw [decide_eq_true_eq]; omega), h10.out.2⟩
        · have e1 : (whyQ bs ls ats 4 != 0) = true := by simpa using hq
          have h3 := Lib.hid (show SkW w.heap.size N w ca cb2 bs ls ats stA ats stB p2 from ⟨gn hq, h2.out.2.trans gb⟩)
          by_cases hne : ats = []
          · subst hne
            clear h2 gb gk gy gn hq
            go_wp2_with fail
            refine (Steps2 h3.out.1).mono ?_
            rintro e p ⟨rfl, rfl⟩
            go_wp2_with fail
            refine (Depth2 h3.out.1).mono ?_
            rintro e p ⟨rfl, rfl⟩
            go_wp2_with fail
            go_ret
            exact ⟨rfl, h3.out.2⟩
          · have hats := h2.out.1.ats HT.out hne
            have hl0 : lf = 0 := by
              have h5 := why_last (bs := bs) (ls := ls) (kind := 4) (by decide) hats
              rw [← HLF.out, leftOf]
              by_cases he : lastAt ats = (rowAt bs ls ats).length
              · omega
              · rw [if_neg (fun h => he h.2)] at h5; exact absurd h5 hq
            have hd0 : ((ats.length : Int) == 0) = false := by rw [beq_eq_false_iff_ne]; intro h; exact hne (List.eq_nil_of_length_eq_zero (by omega))
            subst hl0
            clear h2 gb gk gy gn hq hats hne
            go_wp2_with fail
            refine (Steps2 h3.out.1).mono ?_
            rintro e p ⟨rfl, rfl⟩
            go_wp2_with fail
            refine (Depth2 h3.out.1).mono ?_
            rintro e p ⟨rfl, rfl⟩
            go_wp2_with fail
            go_ret
            exact ⟨rfl, h3.out.2⟩
  · have HK := Lib.hid hok
    clear hok
    go_wp2_with fail
    refine (New_no _ _ bs ls _ sB.out sL.out HK.out).mono ?_
    rintro e w3 ⟨rfl, hb3⟩
    have hx := (hb3.block w2.heap.size (by simp)).trans HX3.out
    have y0 := box_cell (i := 0) hx
    have y1 := box_cell (i := 1) hx
    simp only [List.getElem?_toArray, List.getElem?_cons_zero, List.getElem?_cons_succ] at y0 y1
    clear hx
    go_wp2_with fail
    refine (New_no _ _ bs ls w3 (sB.out.later hb3) (sL.out.later hb3) HK.out).mono ?_
    rintro e w4 ⟨rfl, hb4⟩
    go_wp2_with fail
    go_ret
    exact ⟨rfl, later_trans HW3.out (later_trans hb3 hb4)⟩
end Go.Proofs.Ytdfnfdgkhflonaa
