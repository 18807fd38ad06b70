/-
  CursorAll, walked.
-/
import Derived.Test.YtdfnfdgkhflonaaCuQ
import Derived.Test.YtdfnfdgkhflonaaCuN2
import Derived.Test.YtdfnfdgkhflonaaTRun
import Derived.Test.YtdfnfdgkhflonaaTEq
namespace Go.Proofs.Ytdfnfdgkhflonaa
open Go.RowKit
set_option linter.unusedVariables false

theorem CurN.grown {B N : Nat} {w w' : World} {c : Nat} {bs : List Br} {ls : List Int} {ats : List Nat} {st : Int} {T : TypeId} {size : Nat} {v : Value} {n : Nat} {xs : List Value} (h : CurN B N w c bs ls ats st) (ho : w.ownsRow N T size v n xs) (hg : w.grownBy w' v.ownBlock) (hT : T ≠ 112) : CurN B N w' c bs ls ats st := by
  obtain ⟨rv, h1, h2⟩ := h
  obtain ⟨hC, hcN, hN, hrv⟩ := h1.rows
  have hlow : ∀ b, b < N → w'.heap[b]? = w.heap[b]? := fun b hb => hg.block b (by omega) (fun e => by have := (ho.lt b e.symm).1; omega)
  refine ⟨rv, h1.agree ⟨hg.size, fun b hb _ => hlow b hb⟩ (hlow c hcN) (fun b hb => ?_), h2⟩
  obtain ⟨kv, bv, lv, rs, hS, _⟩ := h1
  obtain ⟨g, cap, cur, hv, hg', hh, _⟩ : ∃ g cap cur, rv = .slice (some ⟨g, 0, none⟩) rs.length cap ∧ N ≤ g ∧ w.heap[g]? = some (.cells cur 112 (0, 0)) ∧ True := by
    rcases hS.own.2 with ⟨hv, _⟩ | ⟨g, cap, cur, hv, hg', hh, _⟩
    · rw [hv] at hb; cases hb
    · exact ⟨g, cap, cur, hv, hg', hh, trivial⟩
  have e : b = g := by rw [hv] at hb; simp [Value.ownBlock] at hb; omega
  subst e
  exact hg.block b (lt_of_block hh) (own_ne ho hh hT)

/-- Another row stays where a row grows. -/
theorem own_keptC {w w' : World} {base base' : Nat} {e e' : TypeId} {size size' : Nat} {v v' : Value} {n n' : Nat} {xs xs' : List Value} (h : w.ownsRow base e size v n xs) (hg : w.grownBy w' v.ownBlock) (h' : w.ownsRow base' e' size' v' n' xs') (hne : e ≠ e') : w'.ownsRow base' e' size' v' n' xs' := by
  obtain ⟨h1, h2⟩ := h'
  refine ⟨h1, ?_⟩
  rcases h2 with h2 | ⟨g, cap, cur, hv, hg', hh, r⟩
  · exact .inl h2
  · exact .inr ⟨g, cap, cur, hv, hg', box_grown h hg hh hne, r⟩

section
variable {bs : List Br} {ls : List Int} {i q : Nat}
theorem at_i (hi : i < bs.length) : keyOf bs ls [i] = bs[i].k ∧ isKey bs ls [i] = true ∧ whyQ bs ls [i] 1 = 0 ∧ whyQ bs ls [i] 3 = 0 := by
  have hl : lastAt [i] < (rowAt bs ls [i]).length := by show i < (keysOf bs).length; rw [keysOf_len]; exact hi
  have hne : ¬ lastAt [i] = (rowAt bs ls [i]).length := by omega
  refine ⟨?_, decide_eq_true hl, by simp [whyQ, atEnd, hne], by simp [whyQ, atEnd, hne]⟩
  rw [keyOf, if_pos hl]
  show (keysOf bs).getD i 0 = _
  simp [keysOf, List.getD, List.getElem?_eq_getElem hi]
theorem at_n : keyOf bs ls [bs.length] = 0 ∧ isKey bs ls [bs.length] = false ∧ leftOf bs ls [bs.length] = 0 := by
  have hl : ¬ lastAt [bs.length] < (rowAt bs ls [bs.length]).length := by show ¬ bs.length < (keysOf bs).length; rw [keysOf_len]; omega
  exact ⟨if_neg hl, decide_eq_false hl, by show (keysOf bs).length - bs.length = 0; rw [keysOf_len]; omega⟩
theorem at_iq (hT : TrieS bs ls) (hi : i < bs.length) {f t : Nat} (hf : bs[i].f = f) (ht : bs[i].t = t) (hft : f < t) (htl : t ≤ ls.length) (hq : q < t - f) : keyOf bs ls [i, q] = ls[f + q] ∧ isKey bs ls [i, q] = true ∧ whyQ bs ls [i, q] 3 = 0 := by
  obtain ⟨f', t', hf', ht', _, _, hle, hll⟩ := hT.at hi
  obtain rfl : f' = f := by omega
  obtain rfl : t' = t := by omega
  have hl : lastAt [i, q] < (rowAt bs ls [i, q]).length := by show q < (leavesOf ls (bs.getD i Br.no)).length; omega
  have hne : ¬ lastAt [i, q] = (rowAt bs ls [i, q]).length := by omega
  refine ⟨?_, decide_eq_true hl, by simp [whyQ, atEnd, hne]⟩
  rw [keyOf, if_pos hl]
  show (leavesOf ls (bs.getD i Br.no)).getD q 0 = _
  rw [hle]
  simp [List.getD, List.getElem?_take_of_lt hq, List.getElem?_drop, List.getElem?_eq_getElem (show f' + q < ls.length by omega)]
theorem at_ie (hT : TrieS bs ls) (hi : i < bs.length) {f t : Nat} (hf : bs[i].f = f) (ht : bs[i].t = t) : keyOf bs ls [i, t - f] = 0 ∧ isKey bs ls [i, t - f] = false := by
  obtain ⟨f', t', hf', ht', _, _, hle, hll⟩ := hT.at hi
  obtain rfl : f' = f := by omega
  obtain rfl : t' = t := by omega
  have hl : ¬ lastAt [i, t' - f'] < (rowAt bs ls [i, t' - f']).length := by show ¬ t' - f' < (leavesOf ls (bs.getD i Br.no)).length; omega
  exact ⟨if_neg hl, decide_eq_false hl⟩
theorem at_up : whyQ bs ls [i, q] 2 = 0 ∧ moved bs ls 2 0 [i, q] = [i] ∧ moved bs ls 3 0 [i, q] = [i, q + 1] ∧ moved bs ls 3 0 [i] = [i + 1] ∧ moved bs ls 1 0 [i] = [i, 0] := by simp [whyQ, moved, lastAt]
end

/-- What CursorAll keeps: its cursor; its trie, in a box; the pairs so far. -/
def AllAt (n0 N X : Nat) (w : World) (c : Nat) (vb vl : Value) (bs : List Br) (ls : List Int) (ats : List Nat) (st : Int) (v : Value) (l : List Pr) (W : World) : Prop :=
  CurN n0 N W c bs ls ats st ∧ Below n0 w W ∧ W.heap[X]? = some (.cells #[vb, vl] 25 (0, 0)) ∧ (∃ base, W.ownsRow base 40 3 vb bs.length (bs.flatMap Br.cells)) ∧ (∃ base, W.ownsRow base 38 1 vl ls.length (ls.map (.int .u64))) ∧
    W.ownsRow N 59 2 v l.length (l.flatMap Pr.cells) ∧ n0 ≤ N
section
variable {n0 N X : Nat} {w : World} {c : Nat} {vb vl : Value} {bs : List Br} {ls : List Int} {ats : List Nat} {st : Int} {v : Value} {l : List Pr} {W W' : World}
theorem AllAt.later (h : AllAt n0 N X w c vb vl bs ls ats st v l W) (hb : Below W.heap.size W W') : AllAt n0 N X w c vb vl bs ls ats st v l W' := by
  obtain ⟨h1, h2, h3, ⟨b4, h4⟩, ⟨b5, h5⟩, h6, h7⟩ := h
  exact ⟨h1.later hb, h2.trans (hb.mono h1.low), (hb.block X (lt_of_block h3)).trans h3, ⟨b4, owns_later h4 hb⟩, ⟨b5, owns_later h5 hb⟩, owns_later h6 hb, h7⟩
theorem AllAt.move {ats' : List Nat} {st' : Int} (h : AllAt n0 N X w c vb vl bs ls ats st v l W) (hc : CurN n0 N W' c bs ls ats' st') (hb : Below n0 W W') (hk : Keeps W W') : AllAt n0 N X w c vb vl bs ls ats' st' v l W' := by
  obtain ⟨h1, h2, h3, ⟨b4, h4⟩, ⟨b5, h5⟩, h6, h7⟩ := h
  exact ⟨hc, h2.trans hb, hk _ _ _ _ h3 (by decide) (by decide), ⟨b4, owns_keeps h4 hk (by decide) (by decide)⟩, ⟨b5, owns_keeps h5 hk (by decide) (by decide)⟩, owns_keeps h6 hk (by decide) (by decide), h7⟩
theorem AllAt.more {v' : Value} {p : Pr} (h : AllAt n0 N X w c vb vl bs ls ats st v l W) (hg : W.grownBy W' v.ownBlock) (ho : W'.ownsRow N 59 2 v' (l.length + 1) (l.flatMap Pr.cells ++ p.cells)) : AllAt n0 N X w c vb vl bs ls ats st v' (l ++ [p]) W' := by
  obtain ⟨h1, h2, h3, ⟨b4, h4⟩, ⟨b5, h5⟩, h6, h7⟩ := h
  refine ⟨h1.grown h6 hg (by decide), h2.grown hg h1.low (fun k e => by have := (h6.lt k e).1; omega), box_grown h6 hg h3 (by decide), ⟨b4, own_keptC h6 hg h4 (by decide)⟩, ⟨b5, own_keptC h6 hg h5 (by decide)⟩, by simpa using ho, h7⟩
theorem AllAt.cells (h : AllAt n0 N X w c vb vl bs ls ats st v l W) : W.cell? ⟨X, 0, none⟩ = some vb ∧ W.cell? ⟨X, 1, none⟩ = some vl :=
  ⟨by simpa using box_cell (i := 0) h.2.2.1, by simpa using box_cell (i := 1) h.2.2.1⟩
end
theorem run_wf {bs : List Br} {ls : List Int} (hb : ∀ b ∈ bs, b.wf) (hl : ∀ x ∈ ls, (Lit.int .u64 x).wf = true) : ∀ p ∈ runOf bs ls, p.wf := by
  intro p hp
  obtain ⟨b, hb', hp⟩ := List.mem_flatMap.1 hp
  obtain ⟨x, hx, rfl⟩ := List.mem_map.1 hp
  exact ⟨(hb b hb').1, hl x (List.mem_of_mem_drop (List.mem_of_mem_take hx))⟩

set_option maxRecDepth 100000 in
set_option maxHeartbeats 8000000 in
theorem lawAll_walk (vb vl : Value) (B0 : List Br) (L0 : List Int) (w : World) (hB : SlB w vb B0) (hL : SlI .u64 w vl L0) :
    Calls Try.prog 7 #[.agg #[vb, vl]] w fun e w' => e = .returned (.bool true) ∧ Below w.heap.size w w' := by
  obtain ⟨i0, hi, hz0, hz1, hz2⟩ := info_parts info_pair
  have HB0 := Lib.hid hB.2
  have HL0 := Lib.hid hL.2
  have HOwn := Lib.hid (fun V (hV : Below w.heap.size w V) => own8_any _ _ B0 L0 V (hB.later hV) (hL.later hV))
  obtain ⟨a, c, rfl, -, -, -, -⟩ := hB.open
  obtain ⟨a', c', rfl, -, -, -, -⟩ := hL.open
  clear hB hL
  go_enter Try.func7, Try.ntmps7
  go_wp2_with fail
  refine (wakes8_any _).mono ?_
  rintro e w1 ⟨rfl, hb1⟩
  have hbw1 := later_trans (later_alloc w _) hb1
  have hx := (hb1.block w.heap.size (by simp)).trans (box_new w _ _)
  have x0 := box_cell (i := 0) hx
  have x1 := box_cell (i := 1) hx
  simp only [List.getElem?_toArray, List.getElem?_cons_zero, List.getElem?_cons_succ] at x0 x1
  clear hx hb1
  go_wp2_with fail
  refine (HOwn.out _ hbw1).mono ?_
  rintro e w2 ⟨vb2, vl2, rfl, ob, ol, hb2⟩
  obtain ⟨bs, hbs⟩ : ∃ bs, B0.take (min B0.length 40) = bs := ⟨_, rfl⟩
  obtain ⟨ls, hls⟩ : ∃ ls, L0.take (min L0.length 80) = ls := ⟨_, rfl⟩
  rw [hbs] at ob
  rw [hls] at ol
  have hfew : bs.length ≤ 40 := by rw [← hbs]; simp; omega
  have hfewL : ls.length ≤ 80 := by rw [← hls]; simp; omega
  have hwB : ∀ b ∈ bs, b.wf := fun b hb => HB0.out b (List.mem_of_mem_take (hbs ▸ hb))
  have hwL : ∀ x ∈ ls, (Lit.int .u64 x).wf = true := fun x hx => HL0.out x (List.mem_of_mem_take (hls ▸ hx))
  have hbw2 := later_trans hbw1 hb2
  obtain ⟨ab, cb, rfl⟩ := owns_shape2 ob
  obtain ⟨al, cl, rfl⟩ := owns_shape2 ol
  have hbw3 := later_trans hbw2 (later_alloc w2 (.cells #[.slice ab bs.length cb, .slice al ls.length cl] 25))
  have ob3 := ob.alloc (.cells #[.slice ab bs.length cb, .slice al ls.length cl] 25)
  have ol3 := ol.alloc (.cells #[.slice ab bs.length cb, .slice al ls.length cl] 25)
  have hx3 := box_new w2 #[.slice ab bs.length cb, .slice al ls.length cl] 25
  have sB := Lib.hid (show SlB (w2.alloc (.cells #[.slice ab bs.length cb, .slice al ls.length cl] 25)) (.slice ab bs.length cb) bs from ⟨SlT.of_owns ob3, hwB⟩)
  have sL := Lib.hid (show SlI .u64 (w2.alloc (.cells #[.slice ab bs.length cb, .slice al ls.length cl] 25)) (.slice al ls.length cl) ls from SlI.of_owns ol3 hwL)
  have HW3 := Lib.hid hbw3
  have HO3 := Lib.hid (And.intro ob3 ol3)
  have HX3 := Lib.hid hx3
  have HWB := Lib.hid hwB
  have HWL := Lib.hid hwL
  clear ob ol hbs hls hb2 hbw1 x0 x1 ob3 ol3 hx3 hbw2 hbw3 hwB hwL
  by_cases hok : TrieOk bs ls
  · have hT : TrieS bs ls := ⟨hok, by omega⟩
    have HT := Lib.hid hT
    clear hT hok
    go_wp2_with fail
    refine (NewN _ _ bs ls _ sB.out sL.out HT.out).mono ?_
    rintro e w3 ⟨cc, rfl, hb3, hc3⟩
    have h0 := Lib.hid (AllAt.later (W' := w3) (W := w3) (⟨hc3.down HW3.out.size, (later_trans HW3.out hb3), (hb3.block w2.heap.size (by simp)).trans HX3.out, ⟨_, owns_later HO3.out.1 hb3⟩, ⟨_, owns_later HO3.out.2 hb3⟩, World.ownsRow_nil _ _ _ _, (later_trans HW3.out hb3).size⟩ : AllAt w.heap.size w3.heap.size w2.heap.size w cc (.slice ab bs.length cb) (.slice al ls.length cl) bs ls [] 0 (.slice none 0 0) [] w3) (Below.refl _ _))
    obtain ⟨N, hN⟩ : ∃ N, w3.heap.size = N := ⟨_, rfl⟩
    rw [hN] at h0
    clear hc3 hb3 hN
    go_wp2_with fail
    refine (OpenN h0.out.1 HT.out (by decide) (by decide)).mono ?_
    rintro e w4 ⟨rfl, ⟨gb, gk⟩, gy, -⟩
    have hq : whyQ bs ls [] 1 = 0 := by simp [whyQ, atEnd]
    obtain ⟨n, hn, hc4⟩ := gy hq
    rw [hq]
    obtain rfl : n = 1 := by simpa [Steps] using hn
    have h1 := Lib.hid (h0.out.move hc4 gb gk)
    obtain ⟨y0, y1⟩ := h1.out.cells
    clear h0 gb gk gy hc4 hn hq
    rw [show moved bs ls 1 0 [] = [0] from by simp [moved]] at h1
    have hnn : (bs.length : Int) ≤ 40 := by omega
    have hll : (ls.length : Int) ≤ 80 := by omega
    go_wp2_with fail
    go_loopw [6, 37] (fun lv j wr => ∃ i : Nat, i ≤ bs.length ∧ j = .int .i64 i ∧ AllAt w.heap.size N w2.heap.size w cc (.slice ab bs.length cb) (.slice al ls.length cl) bs ls [i] (1 + 2 * i + endAt bs i) lv (runTo bs ls i) wr) (fun _ j _ => bs.length + 1 - (intOf j).toNat)
    case atStart => exact ⟨0, Nat.zero_le _, rfl, by simpa [endAt, runTo_zero] using h1.out⟩
    case round =>
      obtain ⟨i, hi', rfl, hA⟩ := hrel
      obtain ⟨la, lc, rfl⟩ := owns_shape2 hA.2.2.2.2.2.1
      have HA := Lib.hid hA
      clear hA h1
      have hlt1 : (i : Int) < (bs.length : Int) + 1 := by omega
      go_wp2_with fail
      refine (KeyN HA.out.1 HT.out).mono ?_
      rintro e p1 ⟨rfl, j, hw⟩
      have g : Below wr.heap.size wr p1 := by rw [hw]; exact later_drewN wr j
      have h2 := Lib.hid (HA.out.later g)
      clear HA g hw
      by_cases hlt : i < bs.length
      · obtain ⟨a1, a2, a3, a4⟩ := at_i (ls := ls) hlt
        rw [a1, a2]
        have HA3 := Lib.hid (And.intro a3 a4)
        obtain ⟨f, t, hf, ht, hft, htl, hle, hlen⟩ := HT.out.at hlt
        have hend : endAt bs i = f := by have := (HT.out.ok.2.1 i hlt).1.1; rw [← this, show bs.getD i Br.no = bs[i] from by simp [List.getD, List.getElem?_eq_getElem hlt]]; exact hf
        have hend2 : endAt bs (i + 1) = t := by show (bs.getD i Br.no).t = _; rw [show bs.getD i Br.no = bs[i] from by simp [List.getD, List.getElem?_eq_getElem hlt]]; exact ht
        have hrun : runTo bs ls (i + 1) = runTo bs ls i ++ segTo ls bs[i].k f (t - f) := by rw [runTo_succ hlt]; congr 1; unfold segOf; rw [hf, ht]; rfl
        have hrl : (runTo bs ls i).length ≤ 80 := by have := runTo_len (B := bs) (L := ls) (fun j hj => (HT.out.ok.2.1 j hj).1) (i := i) (by omega); omega
        rw [hend] at h2
        have HE := Lib.hid (And.intro hend (And.intro hend2 hrun))
        have HF := Lib.hid (And.intro hf (And.intro ht (And.intro hft htl)))
        obtain ⟨kk, hkk⟩ : ∃ kk, bs[i].k = kk := ⟨_, rfl⟩
        rw [hkk] at HE ⊢
        have hn0 : (0 : Int) ≤ 1 + 2 * i + f := by omega
        have hn1 : (1 : Int) + 2 * i + f ≤ 1000 := by omega
        clear a1 a2 a3 a4 hend hend2 hrun hf ht hle hlen hkk
        go_wp2_with fail
        refine (OpenN h2.out.1 HT.out hn0 (by omega)).mono ?_
        rintro e p2 ⟨rfl, ⟨gb, gk⟩, gy, -⟩
        obtain ⟨n, hn, hc⟩ := gy HA3.out.1
        rw [HA3.out.1]
        rw [(at_up (i := i) (q := 0) (bs := bs) (ls := ls)).2.2.2.2] at hc
        obtain rfl : n = 1 := by simpa [Steps] using hn
        have h3 := Lib.hid (h2.out.move hc gb gk)
        obtain ⟨y0, y1⟩ := h3.out.cells
        clear h2 gb gk gy hc hn
        go_wp2_with fail
        go_loopw [6, 53] (fun lv j wi => ∃ q : Nat, q ≤ t - f ∧ j = .int .i64 q ∧ AllAt w.heap.size N w2.heap.size w cc (.slice ab bs.length cb) (.slice al ls.length cl) bs ls [i, q] (1 + 2 * i + f + 1 + q) lv (runTo bs ls i ++ segTo ls kk f q) wi) (fun _ j _ => ls.length + 1 - (intOf j).toNat)
        case atStart => exact ⟨0, Nat.zero_le _, rfl, by simpa [segTo_zero] using h3.out⟩
        case round =>
          obtain ⟨q, hq', rfl, hA⟩ := hrel
          obtain ⟨la, lc, rfl⟩ := owns_shape2 hA.2.2.2.2.2.1
          have HA := Lib.hid hA
          have hlq : (runTo bs ls i ++ segTo ls kk f q).length ≤ 200 := by rw [List.length_append, segTo_len (by omega)]; omega
          obtain ⟨lr, hlr⟩ : ∃ lr, runTo bs ls i ++ segTo ls kk f q = lr := ⟨_, rfl⟩
          rw [hlr] at HA hlq ⊢
          have HR := Lib.hid hlr
          clear hA h3 hlr y0 y1
          have hlt2 : (q : Int) < (ls.length : Int) + 1 := by omega
          go_wp2_with fail
          refine (KeyN HA.out.1 HT.out).mono ?_
          rintro e p3 ⟨rfl, j, hw⟩
          have g : Below wr.heap.size wr p3 := by rw [hw]; exact later_drewN wr j
          have h4 := Lib.hid (HA.out.later g)
          clear HA g hw
          by_cases hqt : q < t - f
          · have hfq : f + q < ls.length := by omega
            obtain ⟨a1, a2, a3⟩ := at_iq HT.out hlt HF.out.1 HF.out.2.1 hft htl hqt
            rw [a1, a2]
            have HA4 := Lib.hid a3
            have HSG := Lib.hid (segTo_succ (L := ls) (k := kk) hfq)
            obtain ⟨xx, hxx⟩ : ∃ xx, ls[f + q] = xx := ⟨_, rfl⟩
            rw [hxx] at HSG ⊢
            have hown := h4.out.2.2.2.2.2.1
            have hNs := hown.1
            have hsz : N ≤ p3.heap.size := by obtain ⟨rv, g1, _⟩ := h4.out.1; exact g1.rows.2.2.1
            obtain ⟨m, hm⟩ : ∃ m, lr.length = m := ⟨_, rfl⟩
            rw [hm] at hown hlq ⊢
            have HM := Lib.hid hm
            have hs3 : (0 : Int) ≤ 1 + 2 * i + f + 1 + q := by omega
            have hs4 : (1 : Int) + 2 * i + f + 1 + q ≤ 1000 := by omega
            clear a1 a2 a3 hxx hm hNs
            go_wp2_with (at_builtin; refine wpList_append_own _ rfl (.tmp 62) (.tmp 66) 57 rfl N 59 i0 _ 2 16 Try.underlying57 hi hz0 hz1 hz2 rfl (by decide) (.slice la m lc) m _ rfl (hown.alloc _) ⟨_, 0, none⟩ 1 1 [.int .u64 kk, .int .u64 xx] rfl rfl (cells_new _ _ _) (by simp [Value.oneCell']) (by unfold maxLen; omega) (by omega) (by simp; omega) ?_; intro v6 w6 hown6 hgrow6 _; obtain ⟨g6, cap6, rfl⟩ := ownsRow_succ hown6)
            have h4a := Lib.hid (h4.out.later (later_alloc p3 (.cells #[.int .u64 kk, .int .u64 xx] 59)))
            have h5 := Lib.hid (AllAt.more (p := ⟨kk, xx⟩) h4a.out (by rw [HM.out]; exact hgrow6) (by rw [HM.out]; exact hown6))
            clear h4 h4a hown hown6 hgrow6
            go_wp2_with fail
            refine (NextN h5.out.1 HT.out hs3 (by omega)).mono ?_
            rintro e p5 ⟨rfl, ⟨gb, gk⟩, gy, -⟩
            obtain ⟨n, hn, hc⟩ := gy HA4.out
            rw [HA4.out]
            rw [(at_up (i := i) (q := q) (bs := bs) (ls := ls)).2.2.1] at hc
            obtain rfl : n = 1 := by simpa [Steps] using hn
            have h6 := Lib.hid (h5.out.move hc gb gk)
            clear h5 gb gk gy hc hn
            go_wp2_with fail
            go_roundw
            case rel =>
              refine ⟨q + 1, by omega, by go_num, ?_⟩
              have := h6.out
              rw [HSG.out, ← List.append_assoc, HR.out]
              rw [show (1 + 2 * (i : Int) + f + 1 + ((q + 1 : Nat) : Int)) = 1 + 2 * i + f + 1 + q + 1 from by omega]
              exact this
            case measure => simp [intOf]; omega
          · obtain rfl : q = t - f := by omega
            obtain ⟨a1, a2⟩ := at_ie HT.out hlt HF.out.1 HF.out.2.1
            rw [a1, a2]
            have hs3 : (0 : Int) ≤ 1 + 2 * i + f + 1 + ((t - f : Nat) : Int) := by omega
            have hs4 : (1 : Int) + 2 * i + f + 1 + ((t - f : Nat) : Int) ≤ 1000 := by omega
            clear a1 a2
            go_wp2_with fail
            refine (UpN h4.out.1 HT.out hs3 (by omega)).mono ?_
            rintro e p5 ⟨rfl, ⟨gb, gk⟩, gy, -⟩
            obtain ⟨b1, b2, b3, b4, b5⟩ := at_up (i := i) (q := t - f) (bs := bs) (ls := ls)
            obtain ⟨n, hn, hc⟩ := gy b1
            rw [b1]
            rw [b2] at hc
            obtain rfl : n = 0 := by simpa [Steps] using hn
            have h5 := Lib.hid (h4.out.move hc gb gk)
            clear h4 gb gk gy hc hn b1 b2 b3 b5
            go_wp2_with fail
            refine (NextN h5.out.1 HT.out (by omega) (by omega)).mono ?_
            rintro e p6 ⟨rfl, ⟨gb, gk⟩, gy, -⟩
            obtain ⟨n, hn, hc⟩ := gy HA3.out.2
            rw [HA3.out.2]
            rw [b4] at hc
            obtain rfl : n = 1 := by simpa [Steps] using hn
            have h6 := Lib.hid (h5.out.move hc gb gk)
            clear h5 gb gk gy hc hn b4
            go_wp2_with fail
            go_roundw
            case rel =>
              refine ⟨i + 1, by omega, by go_num, ?_⟩
              have := h6.out
              rw [HE.out.2.2, HE.out.2.1, HR.out]
              rw [show (1 + 2 * ((i + 1 : Nat) : Int) + t) = 1 + 2 * i + f + 1 + ((t - f : Nat) : Int) + 0 + 1 from by omega]
              exact this
            case measure => simp [intOf]; omega
      · obtain rfl : i = bs.length := by omega
        obtain ⟨a1, a2, a3⟩ := at_n (bs := bs) (ls := ls)
        rw [a1, a2]
        have HA3 := Lib.hid a3
        have hend : endAt bs bs.length = ls.length := HT.out.ok.2.2
        have hrun : runTo bs ls bs.length = runOf bs ls := runTo_all (Nat.le_refl _)
        rw [hend, hrun] at h2
        rw [hrun]
        obtain ⟨y0, y1⟩ := h2.out.cells
        clear a1 a2 a3 hend
        obtain ⟨rl, hrl⟩ : ∃ rl, runOf bs ls = rl := ⟨_, rfl⟩
        have hrw := run_wf HWB.out HWL.out
        have HRun := Lib.hid (fun W (hb : Below p1.heap.size p1 W) => run_any (.slice ab bs.length cb) (.slice al ls.length cl) bs ls W ⟨SlT.of_owns (owns_later h2.out.2.2.2.1.choose_spec hb), HWB.out⟩ (SlI.of_owns (owns_later h2.out.2.2.2.2.1.choose_spec hb) HWL.out) HT.out.ok)
        rw [hrl] at HRun hrw h2 ⊢
        have HRW := Lib.hid hrw
        have hlw := runTo_len (B := bs) (L := ls) (fun j hj => (HT.out.ok.2.1 j hj).1) (i := bs.length) (Nat.le_refl _)
        have hwr1 : IntKind.i64.wrap (2 * (bs.length : Int)) = 2 * bs.length := wrap_i64 (by omega) (by omega)
        have hwr2 : IntKind.i64.wrap (1 + 2 * (bs.length : Int)) = 1 + 2 * bs.length := wrap_i64 (by omega) (by omega)
        have hwr3 : IntKind.i64.wrap (1 + 2 * (bs.length : Int) + ls.length) = 1 + 2 * bs.length + ls.length := wrap_i64 (by omega) (by omega)
        have hwr4 : ((1 + 2 * (bs.length : Int) + ls.length : Int) == 1 + 2 * bs.length + ls.length) = true := by rw [beq_iff_eq]
        clear hrl hrw hrun hlw
        go_wp2_with fail
        go_region_held3 (fun W => W.cell? ⟨w2.heap.size, 0, none⟩ = some (.slice ab bs.length cb) ∧ W.cell? ⟨w2.heap.size, 1, none⟩ = some (.slice al ls.length cl))
          (first | exact ⟨y0, y1⟩ | exact (h2.out.later hbR).cells | exact (h2.out.later hbE).cells | exact (h2.out.later hbL).cells | assumption)
          (first
            | (go_at_call 33; refine (HRun.out _ (later_drew _)).mono ?_; rintro e pR ⟨vR, rfl, oR, hR⟩; have hbR : Below p1.heap.size p1 pR := later_trans (later_drew _) hR)
            | (go_at_call 32; refine (equalP_any _ _ rl rl pR ⟨SlT.of_owns (h2.out.later hbR).2.2.2.2.2.1, HRW.out⟩ ⟨SlT.of_owns oR, HRW.out⟩).mono ?_; rintro e pE ⟨rfl, jE, hE⟩; rw [decide_eq_true (rfl : rl = rl)]; have hbE : Below p1.heap.size p1 pE := (by rw [hE]; exact later_trans hbR (later_drewN _ jE)); clear hE)
            | (go_at_call 19; refine (StepsN (h2.out.later hbE).1).mono ?_; rintro e pS ⟨rfl, rfl⟩)
            | (go_at_call 23; refine (LeftN (h2.out.later hbE).1 HT.out).mono ?_; rintro e pL ⟨rfl, j, hw⟩; rw [HA3.out]; have hbL : Below p1.heap.size p1 pL := (by rw [hw]; exact later_trans hbE (later_drewN _ j)); clear hw))
        go_wp2
        go_ret
        exact ⟨rfl, (h2.out.later hbL).2.1⟩
  · go_wp2_with fail
    refine (New_no _ _ bs ls _ sB.out sL.out hok).mono ?_
    rintro e w3 ⟨rfl, hb3⟩
    have hx := (hb3.block w2.heap.size (by simp)).trans HX3.out
    have y0 := box_cell (i := 0) hx
    have y1 := box_cell (i := 1) hx
    simp only [List.getElem?_toArray, List.getElem?_cons_zero, List.getElem?_cons_succ] at y0 y1
    have HK := Lib.hid hok
    clear hok hx
    go_wp2_with fail
    refine (check_any _ _ bs ls w3 (sB.out.later hb3) (sL.out.later hb3)).mono ?_
    rintro e w4 ⟨rfl, hb4⟩
    rw [if_neg HK.out]
    go_wp2_with fail
    go_ret
    exact ⟨rfl, later_trans HW3.out (later_trans hb3 hb4)⟩
end Go.Proofs.Ytdfnfdgkhflonaa
