/-
  hashed.matches: the iterator over the rows that match, walked.
-/
import Derived.RegionIn
import Derived.Maps.OwnIn
import Derived.Sort.BigQuietIn
import Derived.RangeFuncKeeps
import Derived.RangeFuncOwn
import Derived.RangeFuncFrom
import Derived.Test.YtdeiinfljfgmeaaHaKeep
namespace Go.Proofs.Ytdeiinfljfgmeaa
open Go.RowKit Go.Shelf Go.BigFrame Go.Maps
set_option linter.unusedVariables false
set_option linter.unusedSimpArgs false
attribute [local go_sem] Oper.semAt_some

theorem matchesF_any (va ra vb rb : Value) (w : World) (h1 : ∃ a n c, va = .slice a n c) (h2 : ∃ a n c, ra = .slice a n c) (h3 : ∃ a n c, vb = .slice a n c) (h4 : ∃ a n c, rb = .slice a n c) :
    Calls Try.prog 48 #[relV va ra, relV vb rb] w fun e w' => e = .returned (.func (.func 68) #[] #[.pointer (some ⟨w.heap.size, 0, none⟩), .pointer (some ⟨w.heap.size + 1, 0, none⟩)]) ∧ w' = (w.alloc (.cells #[va, ra] 25)).alloc (.cells #[vb, rb] 25) := by
  obtain ⟨a1, n1, c1, rfl⟩ := h1
  obtain ⟨a2, n2, c2, rfl⟩ := h2
  obtain ⟨a3, n3, c3, rfl⟩ := h3
  obtain ⟨a4, n4, c4, rfl⟩ := h4
  have hmf : ∀ (fn : Fn) (first cap : Array Value) (w : World), (Instr.makeFunc fn first cap).run Try.prog w = .ok (.func fn first cap) w := fun _ _ _ _ => rfl
  go_enter Try.func48, Try.ntmps48
  go_wp2
  go_ret
  exact ⟨rfl, rfl⟩

theorem owns_at {w : World} {base n c : Nat} {e : TypeId} {a : Option Addr} {xs : List Value} (h : w.ownsRow base e 1 (.slice a n c) n xs) {j : Nat} (hj : j < xs.length) : ∃ g, a = some ⟨g, 0, none⟩ ∧ w.cell? ⟨g, j, none⟩ = some xs[j] := by
  rcases id h.2 with ⟨e1, e2⟩ | ⟨g, cap, cur, e1, -⟩
  · have := h.1
    omega
  · injection e1 with e1a e1b e1c
    subst e1a e1c
    exact ⟨g, rfl, (owns_cell h (by simp [hj])).1⟩
set_option maxRecDepth 100000 in
set_option maxHeartbeats 4000000 in
theorem matches_seq (n : Nat) (hn : 1 ≤ n) {va ra vb rb : Value} {A B : Rl} {w0 w : World} {X T : Nat} (hA : RlR w0 va ra A) (hB : RlR w0 vb rb B) (hb0 : Below w0.heap.size w0 w) (hXA : RB w X va ra) (hXB : RB w (X + 1) vb rb)
    (hTb : w.heap[T]? = some (.cells #[.slice none 0 0] 23 (0, 0))) (hT0 : w0.heap.size ≤ T) (hTX : T < X) (hwA : Wd A.vars.length A.rows) (hwB : Wd B.vars.length B.rows) (hAv : A.vars.length ≤ 64) (hBv : B.vars.length ≤ 64) (hAr : A.rows.length ≤ 1048576) (hBr : B.rows.length ≤ 1048576) :
    SeqX n Try.prog 68 #[.pointer (some ⟨X, 0, none⟩), .pointer (some ⟨X + 1, 0, none⟩)] (encP (w0 := w0) (A := A) (B := B)) (KeepT T w0.heap.size) (fun U V => Below U.heap.size U V) (fun xs => xs.map prP = matchL A B) (fun _ => True) (A.rows.length * B.rows.length + 1) (fun _ => True) w := fun l J XX W hW hJa hXa hY h0 => by
  have hJa' : ∀ s U V, J s U → Below U.heap.size U V → J s V := hJa
  have HJA := Lib.hid hJa'
  have HXA := Lib.hid hXa
  have HY := Lib.hid hY
  have hbW := later_trans hb0 hW
  have bA := kept hW hXA
  have bB := kept hW hXB
  have bT := kept hW hTb
  have HCm := Lib.hid (common_any va ra vb rb A B W (hA.later hbW) (hB.later hbW) (by omega) (by omega))
  have hSl : (sharedL A B).length ≤ 1048576 := Nat.le_trans (List.length_filter_le _ _) (by omega)
  have hPA : ∀ x ∈ placesL A.vars (sharedL A B), 0 ≤ x ∧ x < A.vars.length := placesL_in (hasL_sub fun x hx => (List.mem_filter.1 hx).1)
  have hPB : ∀ x ∈ placesL B.vars (sharedL A B), 0 ≤ x ∧ x < B.vars.length := placesL_in (hasL_sub fun x hx => of_decide_eq_true (List.mem_filter.1 hx).2)
  obtain ⟨P, hP⟩ : ∃ P, placesL A.vars (sharedL A B) = P := ⟨_, rfl⟩
  obtain ⟨Q, hQ⟩ : ∃ Q, placesL B.vars (sharedL A B) = Q := ⟨_, rfl⟩
  have hml : matchL A B = mateL P Q A.rows B.rows := by rw [matchL, hP, hQ]
  have hPl : P.length ≤ 1048576 := by rw [← hP, placesL, List.length_map]; exact hSl
  have hQl : Q.length ≤ 1048576 := by rw [← hQ, placesL, List.length_map]; exact hSl
  have hPs : P.length = (sharedL A B).length := by rw [← hP, placesL, List.length_map]
  have hQs : Q.length = (sharedL A B).length := by rw [← hQ, placesL, List.length_map]
  rw [hP] at hPA
  rw [hQ] at hPB
  rw [hP, hQ, ← hPs] at HCm
  have hwP : ∀ x ∈ P, (Lit.int .i64 x).wf = true := fun x hx => WalkArith.wf_i64 ⟨by have := (hPA x hx).1; omega, by have := (hPA x hx).2; omega⟩
  have hwQ : ∀ x ∈ Q, (Lit.int .i64 x).wf = true := fun x hx => WalkArith.wf_i64 ⟨by have := (hPB x hx).1; omega, by have := (hPB x hx).2; omega⟩
  have HW := Lib.hid (And.intro hbW (And.intro bA (And.intro bB (And.intro bT (And.intro hA (And.intro hB (And.intro hml (And.intro hwP (And.intro hwQ (And.intro hPA hPB))))))))))
  have HW2 := Lib.hid (And.intro hwA (And.intro hwB (And.intro hPl (And.intro hQl (And.intro hQs hPs)))))
  have HW3 := Lib.hid (And.intro hT0 (And.intro hTX (And.intro hAr (And.intro hBr (And.intro hAv hBv)))))
  obtain ⟨x0, x1, -⟩ := two_of2 bA
  obtain ⟨y0, y1, lX⟩ := two_of2 bB
  have HJ0 := Lib.hid h0
  obtain ⟨a1, c1, e1, -⟩ := hA.vars.open
  obtain ⟨a2, c2, e2, -⟩ := hA.rows.open
  obtain ⟨a3, c3, e3, -⟩ := hB.vars.open
  obtain ⟨a4, c4, e4, -⟩ := hB.rows.open
  subst e1 e2 e3 e4
  clear hJa hJa' hXa hY hW hbW bA bB bT hml hwP hwQ hPA hPB hwA hwB hPl hQl hQs hPs hP hQ hSl hT0 hTX hAr hBr hAv hBv hXA hXB hTb hb0 hA hB h0
  refine callsIn_of_wp Try.func68 rfl trivial ?_ rfl
  simp only [Try.ntmps68, List.size_toArray, List.length_cons, List.length_nil, Nat.reduceAdd, Nat.reduceSub, Array.replicate_succ, Array.replicate_zero, List.push_toArray, List.append_toArray, List.nil_append, List.cons_append]
  refine wpIn_wide.2 ?_
  go_wp2_with fail
  refine HCm.out.mono ?_
  rintro e wc ⟨pv, qv, rv, rfl, op, oq, orr, bc⟩
  have x0' := cell_next bc x0
  have x1' := cell_next bc x1
  have y0' := cell_next bc y0
  have y1' := cell_next bc y1
  have bcw := later_trans HW.out.1 bc
  have hHs := hashed_any (.slice a4 B.rows.length c4) qv B.rows Q wc HW.out.2.2.2.2.2.1.rows bcw (SlI.of_owns oq HW.out.2.2.2.2.2.2.2.2.1) HW2.out.2.2.2.1 HW3.out.2.2.2.1 (fun r hr x hx => by rw [HW2.out.2.1 r hr]; exact HW.out.2.2.2.2.2.2.2.2.2.2 x hx)
  have HHs := Lib.hid hHs
  have HC := Lib.hid (And.intro op (And.intro bc bcw))
  clear x0 x1 y0 y1 bc bcw oq op orr hHs
  go_wp2_with fail
  refine HHs.out.mono ?_
  rintro e w1 ⟨mb, rfl, hmb, hHash, b1⟩
  have x0 := cell_next b1 x0'
  have x1 := cell_next b1 x1'
  have bW1 := later_trans HC.out.2.1 b1
  have bA1 := kept bW1 HW.out.2.1
  have bT1 := kept bW1 HW.out.2.2.2.1
  have oT1 : ownT T w1 = none := ownT_box bT1
  have op1 := owns_later HC.out.1 b1
  have s1 := HC.out.2.1.size
  have H1 := Lib.hid (And.intro hHash (And.intro (later_trans HC.out.2.2 b1) (And.intro bA1 (And.intro oT1 (And.intro op1 (And.intro (HJA.out _ _ _ HJ0.out bW1) (And.intro hmb (And.intro s1 (And.intro (lt_of_block HW.out.2.2.2.1) (lt_of_block bT1))))))))))
  obtain ⟨ap, cp, rfl⟩ := owns_shape2 op1
  clear x0' x1' y0' y1' hHash b1 bW1 bA1 bT1 oT1 op1 hmb s1
  go_wp2_with fail
  refine (wpIn_wide (n := n)).1 ?_
  gi_loopw [26] (fun i wr => ∃ (k : Nat) (pre : List (Pair w0 A B)), k ≤ A.rows.length ∧ i = .int .i64 k ∧ pre.map prP = mateL P Q (A.rows.take k) B.rows ∧ J pre wr ∧ KeepT T w0.heap.size w1 wr) (fun i _ => A.rows.length - (intOf i).toNat)
  case atStart => exact ⟨0, [], Nat.zero_le _, rfl, rfl, H1.out.2.2.2.2.2.1, ⟨Below.refl _ _, fun b o hb _ _ _ => hb, .inl rfl⟩⟩
  case round =>
    obtain ⟨k, pre, hk, rfl, hpre, hJ, hK⟩ := hrel
    by_cases hlt : k < A.rows.length
    · obtain ⟨_, _, e1, _, _, _, g4⟩ := HW.out.2.2.2.2.1.rows.open
      obtain ⟨be, oe, e2, _, gc⟩ := g4 (by omega)
      obtain ⟨xv, ce0, hxv⟩ := gc k hlt
      injection e1 with e1a e1b e1c
      subst e1a e1c
      subst e2
      have b0r : Below w0.heap.size w0 wr := H1.out.2.1.trans hK.bel
      have ce1 := cell_next b0r ce0
      have hmx : rowN A.rows k ∈ A.rows := by rw [rowN_at hlt]; exact List.getElem_mem hlt
      have hst : A.rows.take (k + 1) = A.rows.take k ++ [rowN A.rows k] := by rw [List.take_succ_eq_append_getElem hlt, ← rowN_at hlt]
      obtain ⟨x, hx⟩ : ∃ x, rowN A.rows k = x := ⟨_, rfl⟩
      rw [hx] at hxv hmx hst
      have hpr := hK.owns H1.out.2.2.2.1 H1.out.2.2.2.2.1 H1.out.2.2.2.2.2.2.2.2.1
      have hCe := cells_any xv (.slice ap P.length cp) x P wr (SlI.later hxv b0r) (SlI.of_owns hpr HW.out.2.2.2.2.2.2.2.1) HW2.out.2.2.1 (fun y hy => by rw [HW2.out.1 x hmx]; exact HW.out.2.2.2.2.2.2.2.2.2.1 y hy)
      have hck : ∀ z ∈ cellsL x P, (Lit.int .u64 z).wf = true := fun z hz => by
        obtain ⟨i, hi, rfl⟩ := List.mem_map.1 hz
        have hir := HW.out.2.2.2.2.2.2.2.2.2.1 i hi
        have hil : i.toNat < x.length := by have := HW2.out.1 x hmx; omega
        rw [getD_at hil]
        exact hxv.2 _ (List.getElem_mem hil)
      have hkl : (cellsL x P).length ≤ 1048576 := by rw [cellsL, List.length_map]; exact HW2.out.2.2.1
      have HCe := Lib.hid hCe
      have HK := Lib.hid (And.intro hpre (And.intro hJ (And.intro hK (And.intro hxv (And.intro hmx (And.intro hst (And.intro hlt (And.intro hck hkl))))))))
      have hbK := hK.bel.size
      obtain ⟨ax, cx, rfl, -⟩ := hxv.open
      clear gc g4 e1b hpre hJ hK hxv hmx hst hck hkl hCe hpr ce0 b0r hx
      refine wpIn_wide.2 ?_
      go_wp2_with fail
      refine HCe.out.mono ?_
      rintro e w2 ⟨vc, rfl, own2, b2⟩
      have HKey := Lib.hid (key_any vc (cellsL x P) w2 (SlI.of_owns own2 HK.out.2.2.2.2.2.2.2.1) HK.out.2.2.2.2.2.2.2.2)
      have H2 := Lib.hid b2
      clear own2 b2
      go_wp2_with fail
      refine HKey.out.mono ?_
      rintro e w3 ⟨rfl, b3⟩
      have b13 := later_trans H2.out b3
      have hK3 : KeepT T w0.heap.size w1 w3 := HK.out.2.2.1.trans (KeepT.later (Nat.lt_of_lt_of_le H1.out.2.2.2.2.2.2.2.2.2 hbK) (Nat.le_trans H1.out.2.1.size hbK) b13)
      have hKl : (keyL (cellsL x P)).length ≤ maxLen := by
        rw [keyL_len]
        have := HK.out.2.2.2.2.2.2.2.2
        unfold maxLen
        omega
      have hJ3 := HJA.out _ _ _ HK.out.2.1 b13
      obtain ⟨L, hL⟩ : ∃ L, keyL (cellsL x P) = L := ⟨_, rfl⟩
      have hmate : mateL P Q (A.rows.take (k + 1)) B.rows = mateL P Q (A.rows.take k) B.rows ++ (grpL B.rows Q L).map fun y => (x, y) := by rw [HK.out.2.2.2.2.2.1, mateL_snoc, hL]
      rw [hL] at hKl
      obtain ⟨gv, vs, hO, hlook⟩ := H1.out.1.look2 (n0 := w0.heap.size) H1.out.2.2.2.1 (by have := H1.out.2.2.2.2.2.2.1; have := H1.out.2.2.2.2.2.2.2.1; have := H1.out.2.2.2.2.2.2.2.2.1; omega) L hKl
      have hlk := hlook w3 hK3
      have hgm : ∀ y ∈ grpL B.rows Q L, y ∈ B.rows := fun y hy => (List.mem_filter.1 hy).1
      have hgl : (grpL B.rows Q L).length ≤ B.rows.length := List.length_filter_le _ _
      obtain ⟨gs, hgs⟩ : ∃ gs, grpL B.rows Q L = gs := ⟨_, rfl⟩
      rw [hgs] at hO hgm hmate hgl
      obtain ⟨ag, cg, rfl⟩ := owns_shape2 hO.own
      have hvl := hO.len
      have hv31 : vs.length ≤ 1048576 := by have := HW3.out.2.2.2.1; omega
      have HG := Lib.hid (And.intro hO (And.intro hgm (And.intro hmate (And.intro hgl (And.intro hvl (And.intro hJ3 hK3))))))
      have hb3 := hK3.bel.size
      rw [hL]
      clear hO hgm hmate hgl hvl hJ3 hK3 hlook hgs hL hKl b3 b13
      go_wp2_with fail
      refine (wpIn_wide (n := n)).1 ?_
      gi_loopw [37] (fun i wr => ∃ (m : Nat) (pre2 : List (Pair w0 A B)), m ≤ vs.length ∧ i = .int .i64 m ∧ pre2.map prP = mateL P Q (A.rows.take k) B.rows ++ (gs.take m).map (fun y => (x, y)) ∧ J pre2 wr ∧ KeepT T w0.heap.size w1 wr) (fun i _ => vs.length - (intOf i).toNat)
      case atStart => exact ⟨0, pre, Nat.zero_le _, rfl, by simpa using HK.out.1, HG.out.2.2.2.2.2.1, HG.out.2.2.2.2.2.2⟩
      case round =>
        obtain ⟨m, pre2, hm, rfl, hpre2, hJ2, hK2⟩ := hrel
        by_cases hmlt : m < vs.length
        · have ho2 := hK2.owns H1.out.2.2.2.1 HG.out.1.own (Nat.lt_of_lt_of_le H1.out.2.2.2.2.2.2.2.2.1 H1.out.2.2.2.2.2.2.2.1)
          obtain ⟨g, rfl, hcy⟩ := owns_at ho2 hmlt
          have hyv := HG.out.1.rows m (by have := HG.out.2.2.2.2.1; omega)
          obtain ⟨yv, hyve⟩ : ∃ yv, vs.getD m undef = yv := ⟨_, rfl⟩
          rw [hyve] at hyv
          have hyvg : vs[m] = yv := by rw [← hyve]; simp [List.getD, hmlt]
          rw [hyvg] at hcy
          have hml2 : m < gs.length := by have := HG.out.2.2.2.2.1; omega
          have hmy : rowN gs m ∈ B.rows := HG.out.2.1 _ (by rw [rowN_at hml2]; exact List.getElem_mem hml2)
          have hst2 : gs.take (m + 1) = gs.take m ++ [rowN gs m] := by rw [List.take_succ_eq_append_getElem hml2, ← rowN_at hml2]
          obtain ⟨y, hy⟩ : ∃ y, rowN gs m = y := ⟨_, rfl⟩
          rw [hy] at hyv hmy hst2
          have hpl2 : pre2.length < A.rows.length * B.rows.length + 1 := by
            have e1 := congrArg List.length hpre2
            rw [List.length_append, List.length_map, List.length_map, List.length_take] at e1
            have e2 := mateL_len P Q (A.rows.take (k + 1)) B.rows
            rw [HG.out.2.2.1, List.length_append, List.length_map, List.length_take] at e2
            have e3 : min (k + 1) A.rows.length * B.rows.length ≤ A.rows.length * B.rows.length := Nat.mul_le_mul_right _ (Nat.min_le_right _ _)
            omega
          obtain ⟨av, cv, rfl, -⟩ := hyv.open
          obtain ⟨pp, hpp1, hpp2⟩ : ∃ pp : Pair w0 A B, encP pp = #[.slice ax x.length cx, .slice av y.length cv] ∧ prP pp = (x, y) := ⟨⟨.slice ax x.length cx, .slice av y.length cv, x, y, HK.out.2.2.2.1, hyv, HK.out.2.2.2.2.1, hmy⟩, rfl, rfl⟩
          obtain ⟨fn, tmps, assign, body, hyy, hR⟩ := HY.out pre2 pp wr hJ2 hpl2
          rw [hpp1] at hyy
          have HR := Lib.hid hR
          have HM := Lib.hid (And.intro hpre2 (And.intro hK2 (And.intro hst2 (And.intro hmlt hpp2))))
          clear hpre2 hJ2 hK2 hst2 hR ho2 hyve hyvg hy hmy hml2 hpl2 hm hyv hpp1 hpp2
          gi_wp2
          refine HR.out.mono ?_
          rintro en W3 (⟨rfl, hJ3, hk3⟩ | ⟨rfl, hX3⟩)
          · have HZ := Lib.hid (And.intro hJ3 (HM.out.2.1.trans hk3))
            clear hJ3 hk3
            gi_wp2
            go_roundw
            case rel => exact ⟨m + 1, pre2 ++ [pp], HM.out.2.2.2.1, by go_num, by rw [List.map_append, HM.out.1, HM.out.2.2.1, List.map_append, List.append_assoc, List.map_singleton, HM.out.2.2.2.2, List.map_singleton], HZ.out.1, HZ.out.2⟩
            case measure => simp [intOf]; have := HM.out.2.2.2.1; omega
          · gi_wp2
            refine bodyPost_ret (results_none rfl _ _ _) rfl ?_
            exact ⟨⟨_, rfl⟩, .inr ⟨_, trivial, hX3⟩⟩
        · obtain rfl : m = vs.length := by omega
          have hR : pre2.map prP = mateL P Q (A.rows.take (k + 1)) B.rows := by
            rw [hpre2, HG.out.2.2.1, HG.out.2.2.2.2.1, List.take_length]
          have HR := Lib.hid (And.intro hR (And.intro hJ2 hK2))
          clear hpre2 hJ2 hK2 hR
          gi_wp2
          go_wp2_with fail
          go_roundw
          case rel => exact ⟨k + 1, pre2, HK.out.2.2.2.2.2.2.1, by go_num, HR.out.1, HR.out.2.1, HR.out.2.2⟩
          case measure => simp [intOf]; have := HK.out.2.2.2.2.2.2.1; omega
    · obtain rfl : k = A.rows.length := by omega
      rw [List.take_length] at hpre
      have HR := Lib.hid (And.intro hpre hJ)
      clear hpre hJ hK
      gi_wp2
      go_end0
      exact ⟨⟨_, rfl⟩, .inl ⟨_, HR.out.1.trans HW.out.2.2.2.2.2.2.1.symm, HR.out.2, trivial⟩⟩
end Go.Proofs.Ytdeiinfljfgmeaa
