/-
  colanderref25: Place, Columns, Ahead, sameRow, Put, Of, Right, Same, walked.
-/
import Derived.Test.YtdeiinfljfgmeaaHaCells
import Derived.Deep.AppendLies
import Derived.Deep.RegionLaw
import Derived.Deep.RegionHeld3
import Derived.Deep.DeepCutAuto
import Derived.Test.YtdeiinfljfgmeaaHaSeq
namespace Go.Proofs.Ytdeiinfljfgmeaa
/-! ## XHaRf1 -/
section
open Go.RowKit
set_option linter.unusedVariables false
set_option linter.unusedSimpArgs false

set_option maxRecDepth 100000 in
set_option maxHeartbeats 1000000 in
theorem Place_any (v : Value) (xs : List Int) (x : Int) (w : World) (h : SlI .i64 w v xs) :
    Calls Try.prog 15 #[v, .int .i64 x] w fun e w' => e = .returned (.int .i64 (idxI xs x)) ∧ w' = w := by
  obtain ⟨a, c, rfl, h1, h2, h3, h4⟩ := h.open
  have HX := Lib.hid h4
  have hm : xs.length ≤ 9223372036854775807 := by omega
  clear h h1 h2 h3 h4
  go_enter Try.func15, Try.ntmps15
  go_wp2
  go_loop [9] (fun i => ∃ k : Nat, k ≤ xs.length ∧ i = .int .i64 k ∧ ∀ j, j < k → xs.getD j 0 ≠ x) (fun i => xs.length - (intOf i).toNat)
  case atStart => exact ⟨0, Nat.zero_le _, rfl, fun j hj => by omega⟩
  case round =>
    obtain ⟨k, hk, rfl, hs⟩ := hrel
    have HS := Lib.hid hs
    clear hs
    by_cases hlt : k < xs.length
    · obtain ⟨b, o, rfl, hb, hc⟩ := HX.out (by omega)
      have c1 := hc k hlt
      rw [← getD_at hlt] at c1
      obtain ⟨y, hy⟩ : ∃ y, xs.getD k 0 = y := ⟨_, rfl⟩
      rw [hy] at c1
      have HY := Lib.hid hy
      clear hc hy
      by_cases hxy : y = x
      · have e := Lib.hid (idxI_hit HS.out hlt (HY.out.trans hxy))
        have hb1 : (y == x) = true := by rw [beq_iff_eq]; exact hxy
        clear hxy
        go_wp2
        go_ret
        exact ⟨ret_int e.out.symm, rfl⟩
      · have hb1 : (y == x) = false := by rw [beq_eq_false_iff_ne]; exact hxy
        go_wp2
        go_round
        case rel => exact ⟨k + 1, by omega, by go_num, fun j hj => by
          by_cases e : j = k
          · subst e; rw [HY.out]; exact hxy
          · exact HS.out j (by omega)⟩
        case measure => simp [intOf]; omega
    · have e := Lib.hid (idxI_no (xs := xs) (x := x) fun j hj => HS.out j (by omega))
      go_wp2
      go_ret
      exact ⟨ret_int e.out.symm, rfl⟩
set_option maxRecDepth 100000 in
set_option maxHeartbeats 2000000 in
theorem Columns_any (v : Value) (o : List Int) (w : World) (ho : SlI .i64 w v o) :
    Calls Try.prog 30 #[v] w fun e w' => e = .returned (.bool (colB o)) ∧ w' = w := by
  have HO := Lib.hid ho
  obtain ⟨a, c, rfl, h1, h2, -⟩ := ho.open
  have hm : o.length ≤ 9223372036854775807 := by omega
  clear ho
  go_enter Try.func30, Try.ntmps30
  go_wp2_with fail
  go_loop [7] (fun i => ∃ k : Nat, k ≤ o.length ∧ i = .int .i64 k ∧ ∀ j, j < k → colAt o j = true) (fun i => o.length - (intOf i).toNat)
  case atStart => exact ⟨0, Nat.zero_le _, rfl, fun j hj => by omega⟩
  case round =>
    obtain ⟨k, hk, rfl, hs⟩ := hrel
    have HS := Lib.hid hs
    clear hs
    by_cases hlt : k < o.length
    · obtain ⟨_, _, e1, _, _, _, f4⟩ := HO.out.open
      obtain ⟨bo, oo, e2, hbo, fc⟩ := f4 (by omega)
      injection e1 with e1a e1b e1c
      subst e1a e1c
      subst e2
      have c1 := fc k hlt
      rw [← getD_at hlt] at c1
      have hord : colAt o k = (decide (0 ≤ o.getD k 0) && !decide (o.getD k 0 ∈ o.take k)) := rfl
      obtain ⟨x, hx⟩ : ∃ x, o.getD k 0 = x := ⟨_, rfl⟩
      rw [hx] at c1 hord
      have hbad : colAt o k = false → Hid (colB o = false) := fun h => Lib.hid (by
        unfold colB
        rw [cover_no hlt h, Bool.false_and])
      have hkc : k ≤ c := by omega
      clear f4 fc e1b hx
      by_cases hneg : x < 0
      · have HB := hbad (by rw [hord, decide_eq_false (by omega), Bool.false_and])
        clear hord hbad
        go_wp2_with fail
        go_ret
        exact ⟨ret_bool HB.out.symm, rfl⟩
      · have HPl := Lib.hid (Place_any (.slice (some ⟨bo, oo, none⟩) k c) (o.take k) x w (HO.out.cut2 hk))
        have hnn := idxI_nonneg (o.take k) x
        obtain ⟨q, hq⟩ : ∃ q, idxI (o.take k) x = q := ⟨_, rfl⟩
        rw [hq] at HPl hnn
        have hc0 : colAt o k = !decide (0 ≤ q) := by rw [hord, hnn, decide_eq_true (by omega), Bool.true_and]
        clear hord hq hnn
        by_cases hq0 : 0 ≤ q
        · have HB := hbad (by rw [hc0, decide_eq_true hq0]; rfl)
          clear hbad hc0
          go_wp2_with fail
          refine HPl.out.mono ?_
          rintro e w2 ⟨rfl, h2⟩
          rw [h2]
          clear h2 w2
          go_wp2_with fail
          go_ret
          exact ⟨ret_bool HB.out.symm, rfl⟩
        · have HB := Lib.hid (show colAt o k = true by rw [hc0, decide_eq_false hq0]; rfl)
          clear hbad hc0
          go_wp2_with fail
          refine HPl.out.mono ?_
          rintro e w2 ⟨rfl, h2⟩
          rw [h2]
          clear h2 w2
          go_wp2_with fail
          go_round
          case rel => exact ⟨k + 1, by omega, by go_num, fun j hj => by
            by_cases e : j = k
            · subst e; exact HB.out
            · exact HS.out j (by omega)⟩
          case measure => simp [intOf]; omega
    · have HA : Hid (colB o = decide ((o.length : Int) ≤ 64)) := Lib.hid (by
        unfold colB
        rw [cover_yes fun j hj => HS.out j (by omega), Bool.true_and]
        by_cases e : o.length ≤ 64
        · rw [decide_eq_true e, decide_eq_true (by omega)]
        · rw [decide_eq_false e, decide_eq_false (by omega)])
      go_wp2_with fail
      go_ret
      exact ⟨ret_bool HA.out.symm, rfl⟩
def aheadB (a b : List Int) : Bool := decide (lexC a b = -1)
set_option maxRecDepth 100000 in
set_option maxHeartbeats 2000000 in
theorem Ahead_any (va vb : Value) (a b : List Int) (w : World) (ha : SlI .u64 w va a) (hb : SlI .u64 w vb b) (hl : a.length = b.length) :
    Calls Try.prog 36 #[va, vb] w fun e w' => e = .returned (.bool (aheadB a b)) ∧ w' = w := by
  have H := Lib.hid (And.intro ha (And.intro hb hl))
  obtain ⟨aa, ca, rfl, h1, h2, -⟩ := ha.open
  obtain ⟨ab, cb, rfl, -⟩ := hb.open
  rw [← hl]
  have hm : a.length ≤ 9223372036854775807 := by omega
  clear ha hb hl
  go_enter Try.func36, Try.ntmps36
  go_wp2_with fail
  go_loop [9] (fun i => ∃ k : Nat, k ≤ a.length ∧ i = .int .i64 k ∧ lexC a b = lexC (a.drop k) (b.drop k)) (fun i => a.length - (intOf i).toNat)
  case atStart => exact ⟨0, Nat.zero_le _, rfl, rfl⟩
  case round =>
    obtain ⟨k, hk, rfl, hs⟩ := hrel
    by_cases hlt : k < a.length
    · have hkb : k < b.length := by rw [← H.out.2.2]; exact hlt
      obtain ⟨_, _, e1, _, _, _, f4⟩ := H.out.1.open
      obtain ⟨ba, oa, e2, _, fc⟩ := f4 (by omega)
      injection e1 with e1a e1b e1c
      subst e1a e1c
      subst e2
      have ca1 := fc k hlt
      obtain ⟨_, _, g1, _, _, _, g4⟩ := H.out.2.1.open
      obtain ⟨bb, ob, g2, _, gc⟩ := g4 (by omega)
      injection g1 with g1a g1b g1c
      subst g1a g1c
      subst g2
      have cb1 := gc k hkb
      have hst := lexC_step hlt hkb
      rw [← getD_at hlt] at ca1
      rw [← getD_at hkb] at cb1
      obtain ⟨x, hx⟩ : ∃ x, a.getD k 0 = x := ⟨_, rfl⟩
      obtain ⟨y, hy⟩ : ∃ y, b.getD k 0 = y := ⟨_, rfl⟩
      rw [hx] at ca1 hst
      rw [hy] at cb1 hst
      have HST := Lib.hid (And.intro hs hst)
      clear hs hst hx hy fc gc f4 g4 e1b g1b hkb
      by_cases hxy : x = y
      · have hb1 : (x != y) = false := by rw [bne_eq_false_iff_eq]; exact hxy
        have HN : Hid (lexC a b = lexC (a.drop (k + 1)) (b.drop (k + 1))) := Lib.hid (by rw [HST.out.1, HST.out.2, if_neg (by omega), if_neg (by omega)])
        clear hxy
        go_wp2_with fail
        go_round
        case rel => exact ⟨k + 1, by omega, by go_num, HN.out⟩
        case measure => simp [intOf]; omega
      · have hb1 : (x != y) = true := by rw [bne_iff_ne]; exact hxy
        have HN : Hid (aheadB a b = decide (x < y)) := Lib.hid (by
          unfold aheadB
          rw [HST.out.1, HST.out.2]
          by_cases q : x < y
          · rw [if_pos q, decide_eq_true q]; rfl
          · rw [if_neg q, if_pos (by omega), decide_eq_false q]; rfl)
        clear hxy
        go_wp2_with fail
        go_ret
        exact ⟨ret_bool HN.out.symm, rfl⟩
    · have HN : Hid (aheadB a b = false) := Lib.hid (by
        unfold aheadB
        rw [hs, List.drop_of_length_le (by omega), List.drop_of_length_le (by have := H.out.2.2; omega)]
        rfl)
      clear hs
      go_wp2_with fail
      go_ret
      exact ⟨ret_bool HN.out.symm, rfl⟩
set_option maxRecDepth 100000 in
set_option maxHeartbeats 2000000 in
theorem sameRow_any (va vb : Value) (a b : List Int) (w : World) (ha : SlI .u64 w va a) (hb : SlI .u64 w vb b) :
    Calls Try.prog 42 #[va, vb] w fun e w' => e = .returned (.bool (decide (a = b))) ∧ Below w.heap.size w w' := by
  have H := Lib.hid (And.intro ha hb)
  obtain ⟨aa, ca, rfl, h1, h2, -⟩ := ha.open
  obtain ⟨ab, cb, rfl, h3, h4, -⟩ := hb.open
  have hm : a.length ≤ 9223372036854775807 := by omega
  clear ha hb
  by_cases hl : a.length = b.length
  · have hl0 : ((a.length : Int) != (b.length : Int)) = false := by rw [bne_eq_false_iff_eq]; omega
    have HL := Lib.hid hl
    clear hl
    go_enter Try.func42, Try.ntmps42
    go_wp2_with fail
    go_loopw [13] (fun i wr => ∃ k : Nat, k ≤ a.length ∧ i = .int .i64 k ∧ a.take k = b.take k ∧ Below w.heap.size w wr) (fun i _ => a.length - (intOf i).toNat)
    case atStart => exact ⟨0, Nat.zero_le _, rfl, by simp, Below.refl _ _⟩
    case round =>
      obtain ⟨k, hk, rfl, hs, hbw⟩ := hrel
      by_cases hlt : k < a.length
      · have hkb : k < b.length := by rw [← HL.out]; exact hlt
        obtain ⟨_, _, e1, _, _, _, f4⟩ := (SlI.later H.out.1 hbw).open
        obtain ⟨ba, oa, e2, _, fc⟩ := f4 (by omega)
        injection e1 with e1a e1b e1c
        subst e1a e1c
        subst e2
        have ca1 := fc k hlt
        obtain ⟨_, _, g1, _, _, _, g4⟩ := (SlI.later H.out.2 hbw).open
        obtain ⟨bb, ob, g2, _, gc⟩ := g4 (by omega)
        injection g1 with g1a g1b g1c
        subst g1a g1c
        subst g2
        have cb1 := gc k hkb
        obtain ⟨x, hx⟩ : ∃ x, a[k] = x := ⟨_, rfl⟩
        obtain ⟨y, hy⟩ : ∃ y, b[k] = y := ⟨_, rfl⟩
        rw [hx] at ca1
        rw [hy] at cb1
        by_cases hxy : x = y
        · have hb1 : (x != y) = false := by rw [bne_eq_false_iff_eq]; exact hxy
          have HN := Lib.hid (And.intro (show a.take (k + 1) = b.take (k + 1) by rw [List.take_succ_eq_append_getElem hlt, List.take_succ_eq_append_getElem hkb, hs, hx, hy, hxy]) hbw)
          clear hxy hs hx hy fc gc f4 g4 e1b g1b hbw
          go_wp2_with fail
          go_region
          all_goals go_wp2_with fail
          all_goals go_roundw
          case rel => exact ⟨k + 1, by omega, by go_num, HN.out.1, later_trans HN.out.2 (later_drew _)⟩
          case measure => simp [intOf]; omega
        · have hb1 : (x != y) = true := by rw [bne_iff_ne]; exact hxy
          have HN := Lib.hid (And.intro (show decide (a = b) = false from decide_eq_false fun e => hxy (by rw [← hx, ← hy]; exact getElem_congr_coll e)) hbw)
          clear hxy hs hx hy fc gc f4 g4 e1b g1b hbw
          go_wp2_with fail
          go_region
          all_goals go_wp2_with fail
          all_goals go_ret
          exact ⟨ret_bool HN.out.1.symm, later_trans HN.out.2 (later_drew _)⟩
      · have HN := Lib.hid (And.intro (show decide (a = b) = true from decide_eq_true (by rw [← List.take_of_length_le (l := a) (show a.length ≤ k by omega), hs, List.take_of_length_le (by have := HL.out; omega)])) hbw)
        clear hs hbw
        go_wp2_with fail
        go_ret
        exact ⟨ret_bool HN.out.1.symm, HN.out.2⟩
  · have hl0 : ((a.length : Int) != (b.length : Int)) = true := by rw [bne_iff_ne]; omega
    have HN := Lib.hid (show decide (a = b) = false from decide_eq_false fun e => hl (by rw [e]))
    clear hl
    go_enter Try.func42, Try.ntmps42
    go_wp2_with fail
    go_ret
    exact ⟨ret_bool HN.out.symm, Below.refl _ _⟩
end
/-! ## XHaRf2 -/
section
open Go.RowKit
set_option linter.unusedVariables false
set_option linter.unusedSimpArgs false

theorem run_append_sl {P : Program} (w : World) (t ty e : TypeId) (i : TypeInfo) (z : Value) (bytes base : Nat) (ht : P.underlying t = some (.slice e)) (hi : P.info? e = some i) (hz : i.zero = some z)
    (hsize : i.size = 1) (hby : i.bytes = bytes) (hzs : z.cells.size = 1) (v : Value) (n : Nat) (xs : List Value) (hown : w.ownsRow base e 1 v n xs) (x : Value) (news : List Value) (hx : SlC w x news) (h1 : ∀ u ∈ news, u.oneCell' = true)
    (h63 : n + news.length ≤ maxLen) (hbytes : (n + news.length) * bytes ≤ 140737488355328) (hbase : base ≤ w.heap.size) :
    ∃ a c w', (Builtin.append_ #[t, t] ty #[v, x]).run P w = .ok (.slice a (n + news.length) c) w' ∧ w'.ownsRow base e 1 (.slice a (n + news.length) c) (n + news.length) (xs ++ news) ∧ w.grownBy w' v.ownBlock := by
  obtain ⟨ad, c, rfl, k1, k2, k3, k4⟩ := id hx
  cases ad with
  | none =>
    have hn : news = [] := by
      by_cases q : news = []
      · exact q
      · obtain ⟨b, o, e, -⟩ := k4 q
        cases e
    subst hn
    obtain rfl : c = 0 := k3 rfl
    obtain ⟨a, c, rfl⟩ := owns_shape2 hown
    exact ⟨a, c, w, run_append_owned_none w base t ty e i 1 ht hi _ n xs hown, by simpa using hown, World.grownBy.refl _ _⟩
  | some ad =>
    obtain ⟨v', w', hr, h2, h3, -, -⟩ := run_append_own_at (P := P) w base t ty e i z 1 bytes ht hi hz hsize hby hzs (by decide) v n xs hown ad news.length c news (by simp) hx.cells h1 h63 hbytes hbase
    obtain ⟨a, c', rfl⟩ := owns_shape2 h2
    exact ⟨a, c', w', hr, h2, h3⟩
theorem step_append_sl {P : Program} {ops : Array Oper} {o : Oper} {a : Act} {K : Act → World → Prop} {Q : Exit → Act → World → Prop} {E : Prop} {w : World} (hgd : o.guard = none) (s x : Operand) (t : TypeId)
    (ho : o.op = .call { callee := .builtin .append, args := #[s, x], argTypes := #[t, t] })
    (e : TypeId) (i : TypeInfo) (z : Value) (bytes base : Nat) (ht : P.underlying t = some (.slice e)) (hi : P.info? e = some i) (hz : i.zero = some z)
    (hsize : i.size = 1) (hby : i.bytes = bytes) (hzs : z.cells.size = 1) (v : Value) (n m N : Nat) (xs : List Value) (hs : a.eval s = v) (hown : w.ownsRow base e 1 v n xs) (xv : Value) (news : List Value) (hxv : a.eval x = xv) (hx : SlC w xv news) (h1 : ∀ u ∈ news, u.oneCell' = true) (hm : news.length = m) (hN : n + m = N)
    (h63 : N ≤ maxLen) (hbytes : N * bytes ≤ 140737488355328) (hbase : base ≤ w.heap.size)
    (h : ∀ a' c' w', w'.ownsRow base e 1 (.slice a' N c') N (xs ++ news) → w.grownBy w' v.ownBlock → K (a.put o.dst (.slice a' N c')) w') :
    if Region.wanted o (yielded ops a.tmps) = true then Oper.wp P o a w K Q else E := by
  subst hm
  subst hN
  have hw : Region.wanted o (yielded ops a.tmps) = true := by simp [Region.wanted, hgd]
  rw [if_pos hw]
  obtain ⟨a', c', w', hr, h2, h3⟩ := run_append_sl (P := P) w t o.type e i z bytes base ht hi hz hsize hby hzs v n xs hown xv news hx h1 h63 hbytes hbase
  unfold Oper.wp execOp
  simp only [ho, resolve, invoke, builtin, Sem.run_bind, Sem.run_pure, Result.andThen_ok, List.map_toArray, List.map_cons, List.map_nil, hs, hxv, hr]
  exact h a' c' w' h2 h3
theorem slc_box {W : World} {b : Nat} {u : Value} {e : TypeId} (h : W.heap[b]? = some (.cells #[u] e (0, 0))) : SlC W (.slice (some ⟨b, 0, none⟩) 1 1) [u] :=
  ⟨some ⟨b, 0, none⟩, 1, rfl, Nat.le_refl _, by decide, fun q => (by cases q), fun _ => ⟨b, 0, rfl, lt_of_block h, fun i v hi => by
    have h0 := box_cell (i := i) h
    rw [Nat.zero_add, h0]
    simpa using hi⟩⟩
theorem rb_b {w2 W1 : World} {cs : Array Value} {u : Value} {e : TypeId} (h : (((w2.alloc (.cells cs e)).alloc (.cells #[u] e)).drew).grownBy W1 (Value.slice (some ⟨w2.heap.size, 0, none⟩) 0 0).ownBlock) : SlC W1 (.slice (some ⟨w2.heap.size + 1, 0, none⟩) 1 1) [u] := by
  refine slc_box (e := e) ((h.block (w2.heap.size + 1) (by show _ < ((w2.alloc (.cells cs e)).alloc (.cells #[u] e)).heap.size; simp) (fun q => by simp [Value.ownBlock] at q)).trans ?_)
  have h2 := box_new (w2.alloc (.cells cs e)) #[u] e
  rw [World.size_alloc] at h2
  exact h2
theorem rb_c {w2 W1 : World} {cs : Array Value} {u : Value} {e : TypeId} (h : (((w2.alloc (.cells #[u] e)).alloc (.cells cs e)).drew).grownBy W1 (Value.slice (some ⟨w2.heap.size + 1, 0, none⟩) 0 0).ownBlock) : SlC W1 (.slice (some ⟨w2.heap.size, 0, none⟩) 1 1) [u] := by
  refine slc_box (e := e) ((h.block w2.heap.size (by show _ < ((w2.alloc (.cells #[u] e)).alloc (.cells cs e)).heap.size; simp; omega) (fun q => by simp [Value.ownBlock] at q)).trans ?_)
  exact box_alloc (box_new w2 #[u] e) _
/-- What is behind a place. -/
theorem SlC.rest {W : World} {a : Option Addr} {n c k : Nat} {cs : List Value} (h : SlC W (.slice a n c) cs) (hk : k ≤ cs.length) (a' : Option Addr) (ha : k < cs.length → ∀ b o, a = some ⟨b, o, none⟩ → a' = some ⟨b, o + k, none⟩) (hn : a' = none → c - k = 0) : SlC W (.slice a' (n - k) (c - k)) (cs.drop k) := by
  obtain ⟨a1, c1, e, k1, k2, k3, k4⟩ := h
  injection e with e1 e2 e3
  subst e1 e3
  refine ⟨a', c - k, by rw [List.length_drop, e2], by rw [List.length_drop]; omega, by omega, hn, fun q => ?_⟩
  have hlt : k < cs.length := by
    rcases Nat.lt_or_ge k cs.length with q2 | q2
    · exact q2
    · exact absurd (List.drop_of_length_le q2) q
  obtain ⟨b, o, e, hb, hc⟩ := k4 (fun e => by rw [e] at hlt; simp at hlt)
  refine ⟨b, o + k, ha hlt b o e, hb, fun i u hi => ?_⟩
  rw [Nat.add_assoc]
  exact hc (k + i) u (by rwa [List.getElem?_drop] at hi)
/-- Where a row is put. -/
theorem putL_here : ∀ {ls : List (List Int)} {r : List Int} {k : Nat}, (∀ j, j < k → lexC (rowN ls j) r = -1) → k ≤ ls.length → (∀ h : k < ls.length, lexC ls[k] r ≠ -1 ∧ ls[k] ≠ r) → putL ls r = ls.take k ++ [r] ++ ls.drop k
  | [], r, k, _, hk, _ => by
    obtain rfl : k = 0 := by simpa using hk
    rfl
  | x :: l, r, 0, _, _, h => by
    obtain ⟨h1, h2⟩ := h (by simp)
    simp only [List.getElem_cons_zero] at h1 h2
    rw [putL, if_neg h1, if_neg h2]
    rfl
  | x :: l, r, k + 1, hj, hk, h => by
    have h0 : lexC x r = -1 := hj 0 (by omega)
    rw [putL, if_pos h0, putL_here (k := k) (fun j hj' => hj (j + 1) (by omega)) (by simpa using hk) (fun q => h (Nat.succ_lt_succ q))]
    rfl
theorem putL_there : ∀ {ls : List (List Int)} {r : List Int} {k : Nat}, (∀ j, j < k → lexC (rowN ls j) r = -1) → (hk : k < ls.length) → ls[k] = r → putL ls r = ls
  | [], r, k, _, hk, _ => by simp at hk
  | x :: l, r, 0, _, _, h => by
    simp only [List.getElem_cons_zero] at h
    subst h
    rw [putL, if_neg (by rw [lexC_self]; decide), if_pos rfl]
  | x :: l, r, k + 1, hj, hk, h => by
    have h0 : lexC x r = -1 := hj 0 (by omega)
    rw [putL, if_pos h0, putL_there (k := k) (fun j hj' => hj (j + 1) (by omega)) (by simpa using hk) (by simpa using h)]
/-- A part of old rows. -/
theorem OldRows.put {w0 w w' : World} {base : Nat} {v v' : Value} {vs : List Value} {ls : List (List Int)} {u : Value} {r : List Int} {k : Nat} (h : OldRows w0 base w v vs ls) (hk : k ≤ ls.length) (hu : SlI .u64 w0 u r) {base' : Nat}
    (ho : w'.ownsRow base' 26 1 v' (vs.length + 1) (vs.take k ++ [u] ++ vs.drop k)) : OldRows w0 base' w' v' (vs.take k ++ [u] ++ vs.drop k) (ls.take k ++ [r] ++ ls.drop k) := by
  have hl := h.len
  have hlen : (vs.take k ++ [u] ++ vs.drop k).length = vs.length + 1 := by simp; omega
  refine ⟨by rw [hlen]; exact ho, by simp; omega, fun j hj => ?_⟩
  have hv : (vs.take k ++ [u] ++ vs.drop k).getD j undef = if j < k then vs.getD j undef else if j = k then u else vs.getD (j - 1) undef := by
    simp only [List.getD_eq_getElem?_getD]
    by_cases h1 : j < k
    · rw [if_pos h1, List.append_assoc, List.getElem?_append_left (by rw [List.length_take]; omega), List.getElem?_take_of_lt h1]
    · rw [if_neg h1, List.append_assoc, List.getElem?_append_right (by rw [List.length_take]; omega), List.length_take, Nat.min_eq_left (by omega)]
      by_cases h2 : j = k
      · subst h2; simp
      · rw [if_neg h2]
        obtain ⟨m, hm⟩ : ∃ m, j - k = m + 1 := ⟨j - k - 1, by omega⟩
        rw [hm]
        simp only [List.singleton_append, List.getElem?_cons_succ, List.getElem?_drop]
        rw [show k + m = j - 1 from by omega]
  have hr : rowN (ls.take k ++ [r] ++ ls.drop k) j = if j < k then rowN ls j else if j = k then r else rowN ls (j - 1) := by
    unfold rowN
    simp only [List.getD_eq_getElem?_getD]
    by_cases h1 : j < k
    · rw [if_pos h1, List.append_assoc, List.getElem?_append_left (by rw [List.length_take]; omega), List.getElem?_take_of_lt h1]
    · rw [if_neg h1, List.append_assoc, List.getElem?_append_right (by rw [List.length_take]; omega), List.length_take, Nat.min_eq_left (by omega)]
      by_cases h2 : j = k
      · subst h2; simp
      · rw [if_neg h2]
        obtain ⟨m, hm⟩ : ∃ m, j - k = m + 1 := ⟨j - k - 1, by omega⟩
        rw [hm]
        simp only [List.singleton_append, List.getElem?_cons_succ, List.getElem?_drop]
        rw [show k + m = j - 1 from by omega]
  rw [hv, hr]
  by_cases h1 : j < k
  · rw [if_pos h1, if_pos h1]; exact h.rows j (by omega)
  · rw [if_neg h1, if_neg h1]
    by_cases h2 : j = k
    · rw [if_pos h2, if_pos h2]; exact hu
    · rw [if_neg h2, if_neg h2]
      refine h.rows (j - 1) ?_
      simp at hj
      omega
end
/-! ## XHaRf3 -/
section
open Go.RowKit
set_option linter.unusedVariables false
set_option linter.unusedSimpArgs false

theorem old_slC {w0 W : World} {base : Nat} {v : Value} {vs : List Value} {ls : List (List Int)} (h : OldRows w0 base W v vs ls) : SlC W v vs := SlC.of_owns h.own
theorem SlC.cut {W : World} {a : Option Addr} {n c k : Nat} {cs : List Value} (h : SlC W (.slice a n c) cs) (hk : k ≤ cs.length) : SlC W (.slice a k c) (cs.take k) := by
  obtain ⟨a', c', e, k1, k2, k3, k4⟩ := h
  injection e with e1 e2 e3
  subst e1 e3
  refine ⟨a, c, by rw [List.length_take, Nat.min_eq_left hk], by rw [List.length_take]; omega, k2, k3, fun q => ?_⟩
  obtain ⟨b, o, e, hb, hc⟩ := k4 (fun e => q (by rw [e]; simp))
  refine ⟨b, o, e, hb, fun i u hi => hc i u ?_⟩
  have hik : i < k := by have := (List.getElem?_eq_some_iff.1 hi).1; rw [List.length_take] at this; omega
  rwa [List.getElem?_take_of_lt hik] at hi
theorem slc_none {B : Nat} {w W : World} {ad : Option Addr} {c : Nat} (hb : Below B w W) (hc : c ≤ maxLen := by first | exact Nat.zero_le _ | omega) (hn : ad = none → c = 0 := by first | exact fun _ => rfl | exact fun q => (by cases q)) : SlC W (.slice ad 0 c) [] := ⟨ad, c, rfl, Nat.zero_le _, hc, hn, fun h => absurd rfl h⟩
theorem mem3 {vs : List Value} {u x : Value} {k m : Nat} (h : x ∈ vs.take k ++ [u] ++ vs.drop m) : x ∈ vs ∨ x = u := by
  rcases List.mem_append.1 h with h | h
  · rcases List.mem_append.1 h with h | h
    · exact .inl (List.mem_of_mem_take h)
    · exact .inr (List.mem_singleton.1 h)
  · exact .inl (List.mem_of_mem_drop h)
set_option maxRecDepth 100000 in
set_option maxHeartbeats 4000000 in
theorem Put_any (n : Nat) (vr : Value) (r : List Int) {w0 w : World} {base : Nat} {v : Value} {vs : List Value} {ls : List (List Int)} (h : OldRows w0 base w v vs ls) (hb0 : Below w0.heap.size w0 w) (hr : SlI .u64 w0 vr r) (hw : Wd n ls) (hrn : r.length = n) (hl : ls.length ≤ 1048576) (hbw : base ≤ w.heap.size) :
    Calls Try.prog 59 #[v, vr] w fun e w' => ∃ v' vs', e = .returned v' ∧ OldRows w0 base w' v' vs' (putL ls r) ∧ (∀ x ∈ vs', x ∈ vs ∨ x = vr) ∧ Below w.heap.size w w' := by
  obtain ⟨i0, hi, hz0, hz1, hz2⟩ := info_parts info_rowU
  have hvl := h.len
  have H := Lib.hid (And.intro h (And.intro hb0 (And.intro hr (And.intro hw (And.intro hrn hvl)))))
  obtain ⟨a, c, rfl⟩ := owns_shape2 h.own
  obtain ⟨ar, cr, rfl, -⟩ := hr.open
  have hcap : vs.length ≤ c ∧ c ≤ maxLen ∧ (a = none → c = 0) := by
    obtain ⟨a', c', e, k1, k2, k3, -⟩ := old_slC h
    injection e with e1 e2 e3
    subst e1 e3
    exact ⟨k1, k2, k3⟩
  have HCap := Lib.hid hcap.1
  have HCap2 := Lib.hid hcap.2.2
  have HCap3 := Lib.hid hcap.2.1
  have hvm : vs.length ≤ 1048576 := by omega
  clear h hb0 hr hw hrn hcap hvl
  go_enter Try.func59, Try.ntmps59
  go_wp2_with fail
  go_loop [5] (fun i => ∃ k : Nat, k ≤ vs.length ∧ i = .int .i64 k ∧ ∀ j, j < k → lexC (rowN ls j) r = -1) (fun i => vs.length - (intOf i).toNat)
  case atStart => exact ⟨0, Nat.zero_le _, rfl, fun j hj => by omega⟩
  case round =>
    obtain ⟨k, hk, rfl, hs⟩ := hrel
    by_cases hlt : k < vs.length
    · have hkl : k < ls.length := by have := H.out.2.2.2.2.2; omega
      obtain ⟨g, rfl, hcell⟩ := owns_at H.out.1.own hlt
      have hrow := SlI.later (H.out.1.rows k hkl) H.out.2.1
      have hgv : vs.getD k undef = vs[k] := by simp [List.getD, hlt]
      rw [hgv] at hrow
      obtain ⟨u, hu⟩ : ∃ u, vs[k] = u := ⟨_, rfl⟩
      rw [hu] at hcell hrow
      have hAh := Ahead_any u _ (rowN ls k) r w hrow (SlI.later H.out.2.2.1 H.out.2.1) (by rw [H.out.2.2.2.1 _ (rowN_mem hkl), H.out.2.2.2.2.1])
      have hSm := sameRow_any u _ (rowN ls k) r w hrow (SlI.later H.out.2.2.1 H.out.2.1)
      have HAh := Lib.hid hAh
      have HSm := Lib.hid hSm
      have HS := Lib.hid (And.intro hs (And.intro hkl hlt))
      obtain ⟨au, cu, rfl, -⟩ := hrow.open
      clear hs hrow hgv hu hAh hSm
      by_cases hah : aheadB (rowN ls k) r = true
      · have HN := Lib.hid (of_decide_eq_true hah)
        rw [hah] at HAh
        clear hah
        go_wp2_with fail
        refine HAh.out.mono ?_
        rintro e w2 ⟨rfl, h2⟩
        rw [h2]
        clear h2 w2
        go_wp2_with fail
        go_round
        case rel => exact ⟨k + 1, by omega, by go_num, fun j hj => by
          by_cases e : j = k
          · subst e; exact HN.out
          · exact HS.out.1 j (by omega)⟩
        case measure => simp [intOf]; omega
      · have hah := Bool.eq_false_iff.2 hah
        have HN := Lib.hid (show lexC (rowN ls k) r ≠ -1 from of_decide_eq_false hah)
        rw [hah] at HAh
        clear hah
        go_wp2_with fail
        refine HAh.out.mono ?_
        rintro e w2 ⟨rfl, h2⟩
        rw [h2]
        clear h2 w2
        go_wp2_with fail
        refine HSm.out.mono ?_
        rintro e w2 ⟨rfl, b2⟩
        by_cases hsm : rowN ls k = r
        · have HE := Lib.hid (And.intro (putL_there HS.out.1 HS.out.2.1 (by rw [← rowN_at]; exact hsm)) b2)
          rw [decide_eq_true hsm]
          clear hsm b2
          go_wp2_with fail
          go_ret
          exact ⟨_, vs, rfl, by rw [HE.out.1]; exact ⟨owns_later H.out.1.own HE.out.2, H.out.1.len, H.out.1.rows⟩, fun x hx => .inl hx, HE.out.2⟩
        · have HE := Lib.hid (And.intro (putL_here HS.out.1 (Nat.le_of_lt HS.out.2.1) (fun q => by rw [← rowN_at q]; exact ⟨HN.out, hsm⟩)) b2)
          rw [decide_eq_false hsm]
          clear hsm b2
          have hkm : k ≤ vs.length := Nat.le_of_lt HS.out.2.2
          have hkv : k ≤ ls.length := Nat.le_of_lt HS.out.2.1
          have hck : ¬ c = k := by have := HCap.out; have := HS.out.2.2; omega
          have hlen1 : (vs.take k).length = k := by rw [List.length_take]; omega
          have hlen3 : (vs.drop k).length = vs.length - k := List.length_drop
          have hone : ∀ u ∈ vs, u.oneCell' = true := fun u hu => by
            obtain ⟨j, hj, rfl⟩ := List.getElem_of_mem hu
            have := H.out.1.rows j (by have := H.out.2.2.2.2.2; omega)
            rw [show vs.getD j undef = vs[j] by simp [List.getD, hj]] at this
            exact old_oneCell this
          have HOne1 := Lib.hid (fun (u : Value) (hu : u ∈ vs.take k) => hone u (List.mem_of_mem_take hu))
          have HOne3 := Lib.hid (fun (u : Value) (hu : u ∈ vs.drop k) => hone u (List.mem_of_mem_drop hu))
          have HLen := Lib.hid hlen1
          have HLen3 := Lib.hid hlen3
          have HT : Hid (∀ W, Below w2.heap.size w2 W → SlC W (.slice (some ⟨g, 0, none⟩) k c) (vs.take k)) := Lib.hid (fun W hb => ((old_slC H.out.1).later (later_trans HE.out.2 hb)).cut hkm)
          have HD : Hid (∀ W, Below w2.heap.size w2 W → SlC W (.slice (some ⟨g, 0, none⟩) vs.length c) vs) := Lib.hid (fun W hb => (old_slC H.out.1).later (later_trans HE.out.2 hb))
          have HFin : Hid (∀ (v' : Value) (W : World), W.ownsRow w2.heap.size 26 1 v' (vs.length + 1) (vs.take k ++ [.slice ar r.length cr] ++ vs.drop k) → OldRows w0 base W v' (vs.take k ++ [.slice ar r.length cr] ++ vs.drop k) (putL ls r)) := Lib.hid (fun v' W ho => by
            rw [HE.out.1]
            exact OldRows.put H.out.1 hkv H.out.2.2.1 (owns_down ho (Nat.le_trans hbw HE.out.2.size)))
          have hkm2 := hkm
          have hkc : k ≤ c := by have := HCap.out; omega
          clear hlen1 hlen3 hone hkv
          go_wp2_with fail
          have HE1 : Hid ((w2.alloc (.cells #[] 26)).drew.ownsRow w2.heap.size 26 1 (.slice (some ⟨w2.heap.size, 0, none⟩) 0 0) 0 []) := Lib.hid (World.ownsRow_made w2 #[] 0 (Nat.le_refl _) (Nat.zero_le _) rfl)
          have HE2 : Hid (((w2.alloc (.cells #[] 26)).alloc (.cells #[.slice ar r.length cr] 26)).drew.ownsRow w2.heap.size 26 1 (.slice (some ⟨w2.heap.size, 0, none⟩) 0 0) 0 []) := Lib.hid ((World.ownsRow_made w2 #[] 0 (Nat.le_refl _) (Nat.zero_le _) rfl).alloc _)
          have HE3 : Hid (((w2.alloc (.cells #[.slice ar r.length cr] 26)).alloc (.cells #[] 26)).drew.ownsRow w2.heap.size 26 1 (.slice (some ⟨w2.heap.size + 1, 0, none⟩) 0 0) 0 []) := Lib.hid (by have h := World.ownsRow_made (base := w2.heap.size) (e := 26) (size := 1) (w2.alloc (.cells #[.slice ar r.length cr] 26)) #[] 0 (by simp) (Nat.zero_le _) rfl; rw [World.size_alloc] at h; exact h)
          have b01 : Below w2.heap.size w2 (w2.alloc (.cells #[] 26)).drew := later_trans (later_alloc _ _) (later_drew _)
          have b02 : Below w2.heap.size w2 ((w2.alloc (.cells #[] 26)).alloc (.cells #[.slice ar r.length cr] 26)).drew := later_trans (later_trans (later_alloc _ _) (later_alloc _ _)) (later_drew _)
          have b03 : Below w2.heap.size w2 ((w2.alloc (.cells #[.slice ar r.length cr] 26)).alloc (.cells #[] 26)).drew := later_trans (later_trans (later_alloc _ _) (later_alloc _ _)) (later_drew _)
          have z01 : w2.heap.size ≤ (w2.alloc (.cells #[] 26)).drew.heap.size := b01.size
          have z02 : w2.heap.size ≤ ((w2.alloc (.cells #[] 26)).alloc (.cells #[.slice ar r.length cr] 26)).drew.heap.size := b02.size
          have z03 : w2.heap.size ≤ ((w2.alloc (.cells #[.slice ar r.length cr] 26)).alloc (.cells #[] 26)).drew.heap.size := b03.size
          have HB0 := Lib.hid (And.intro b01 (And.intro b02 (And.intro b03 (And.intro z01 (And.intro z02 z03)))))
          clear b01 b02 b03 z01 z02 z03
          go_region_law (first
            | (refine step_append_sl rfl (.tmp 33) (.tmp 36) 23 rfl 26 i0 _ 24 w2.heap.size Try.underlying23 hi hz0 hz1 hz2 rfl _ 0 k k [] rfl (by first | exact HE1.out | exact HE2.out | exact HE3.out) _ (vs.take k) rfl (HT.out _ (by first | exact HB0.out.1 | exact HB0.out.2.1 | exact HB0.out.2.2.1)) HOne1.out HLen.out (Nat.zero_add _) (by unfold maxLen; omega) (by omega) (by first | exact HB0.out.2.2.2.1 | exact HB0.out.2.2.2.2.1 | exact HB0.out.2.2.2.2.2) ?_; intro a1 c1 W1 own1 grow1; rw [List.nil_append] at own1; have b1 : Below w2.heap.size w2 W1 := (by first | exact HB0.out.1.grown grow1 HB0.out.2.2.2.1 (fun k e => (HE1.out.lt k e).1) | exact HB0.out.2.1.grown grow1 HB0.out.2.2.2.2.1 (fun k e => (HE2.out.lt k e).1) | exact HB0.out.2.2.1.grown grow1 HB0.out.2.2.2.2.2 (fun k e => (HE3.out.lt k e).1)); have HW1 := Lib.hid (And.intro own1 (And.intro b1 (And.intro (later_trans b1 (later_alloc W1 (.cells #[.slice ar r.length cr] 26))) (And.intro b1.size (later_trans b1 (later_alloc W1 (.cells #[.slice ar r.length cr] 26))).size)))); have lW1 := b1.size; clear own1 b1)
            | (refine step_append_sl rfl (.tmp 37) (.tmp 39) 23 rfl 26 i0 _ 24 w2.heap.size Try.underlying23 hi hz0 hz1 hz2 rfl (.slice a1 k c1) k 1 (k + 1) (vs.take k) rfl (by first | exact HW1.out.1 | exact HW1.out.1.alloc _) _ [.slice ar r.length cr] rfl (by first | exact slc_box (box_new _ _ _) | exact rb_b grow1 | exact rb_c grow1) (by simp [Value.oneCell']) rfl rfl (by unfold maxLen; omega) (by omega) (by first | exact HW1.out.2.2.2.1 | exact HW1.out.2.2.2.2) ?_; intro a2 c2 W2 own2 grow2; have b2 : Below w2.heap.size w2 W2 := (by first | exact HW1.out.2.1.grown grow2 HW1.out.2.2.2.1 (fun k e => owns_above HW1.out.1 k e) | exact HW1.out.2.2.1.grown grow2 HW1.out.2.2.2.2 (fun k e => owns_above HW1.out.1 k e)); have HW2 := Lib.hid (And.intro own2 (And.intro b2 b2.size)); clear own2 b2)
            | (refine step_append_sl rfl (.tmp 40) (.tmp 43) 23 rfl 26 i0 _ 24 w2.heap.size Try.underlying23 hi hz0 hz1 hz2 rfl (.slice a2 (k + 1) c2) (k + 1) (vs.length - k) (vs.length + 1) (vs.take k ++ [.slice ar r.length cr]) rfl HW2.out.1 _ (vs.drop k) rfl (by have hbX := HW2.out.2.1; exact SlC.rest (HD.out _ hbX) hkm2 _ (fun _ b o e => by cases e; simp) (fun q => by cases q)) HOne3.out HLen3.out (by omega) (by unfold maxLen; omega) (by omega) HW2.out.2.2 ?_; intro a3 c3 W3 own3 grow3; have b3 : Below w2.heap.size w2 W3 := HW2.out.2.1.grown grow3 HW2.out.2.2 (fun k e => owns_above HW2.out.1 k e); have HW3 := Lib.hid (And.intro own3 b3); clear own3 b3))
          all_goals (go_wp2_with fail)
          all_goals go_ret
          all_goals exact ⟨_, _, rfl, HFin.out _ _ HW3.out.1, fun x hx => mem3 hx, later_trans HE.out.2 HW3.out.2⟩
    · have hkl : k = vs.length := by omega
      subst hkl
      have HE0 : Hid (putL ls r = ls.take vs.length ++ [r] ++ ls.drop vs.length) := Lib.hid (putL_here hs (by rw [H.out.2.2.2.2.2]; exact Nat.le_refl _) (fun q => by have := H.out.2.2.2.2.2; omega))
      clear hs
      have hone : ∀ u ∈ vs, u.oneCell' = true := fun u hu => by
        obtain ⟨j, hj, rfl⟩ := List.getElem_of_mem hu
        have := H.out.1.rows j (by have := H.out.2.2.2.2.2; omega)
        rw [show vs.getD j undef = vs[j] by simp [List.getD, hj]] at this
        exact old_oneCell this
      have htk : vs.take vs.length = vs := List.take_length
      have HOne1 := Lib.hid (fun (u : Value) (hu : u ∈ vs.take vs.length) => hone u (List.mem_of_mem_take hu))
      have HOne3 : Hid (∀ u ∈ ([] : List Value), u.oneCell' = true) := Lib.hid (fun u hu => by cases hu)
      have HLen : Hid ((vs.take vs.length).length = vs.length) := Lib.hid (by rw [List.take_length])
      have HLen3 : Hid (([] : List Value).length = 0) := Lib.hid rfl
      obtain ⟨w2, hw2⟩ : ∃ W, W = w := ⟨_, rfl⟩
      have HE : Hid (putL ls r = ls.take vs.length ++ [r] ++ ls.drop vs.length ∧ Below w.heap.size w w2) := Lib.hid ⟨HE0.out, by rw [hw2]; exact Below.refl _ _⟩
      have HT : Hid (∀ W, Below w2.heap.size w2 W → SlC W (.slice a vs.length c) (vs.take vs.length)) := Lib.hid (fun W hb => ((old_slC H.out.1).later (later_trans HE.out.2 hb)).cut (Nat.le_refl _))
      have HFin : Hid (∀ (v' : Value) (W : World), W.ownsRow w2.heap.size 26 1 v' (vs.length + 1) (vs.take vs.length ++ [.slice ar r.length cr] ++ []) → OldRows w0 base W v' (vs.take vs.length ++ [.slice ar r.length cr] ++ vs.drop vs.length) (putL ls r)) := Lib.hid (fun v' W ho => by
        rw [HE.out.1]
        exact OldRows.put H.out.1 (by rw [H.out.2.2.2.2.2]; exact Nat.le_refl _) H.out.2.2.1 (owns_down (by rw [List.drop_length]; exact ho) (Nat.le_trans hbw HE.out.2.size)))
      rw [← hw2]
      clear hone htk HE0 hw2
      have hcm := HCap.out
      by_cases hck : c = vs.length
      · subst hck
        cases a with
        | none =>
          go_wp2_with fail
          have HE1 : Hid ((w2.alloc (.cells #[] 26)).drew.ownsRow w2.heap.size 26 1 (.slice (some ⟨w2.heap.size, 0, none⟩) 0 0) 0 []) := Lib.hid (World.ownsRow_made w2 #[] 0 (Nat.le_refl _) (Nat.zero_le _) rfl)
          have HE2 : Hid (((w2.alloc (.cells #[] 26)).alloc (.cells #[.slice ar r.length cr] 26)).drew.ownsRow w2.heap.size 26 1 (.slice (some ⟨w2.heap.size, 0, none⟩) 0 0) 0 []) := Lib.hid ((World.ownsRow_made w2 #[] 0 (Nat.le_refl _) (Nat.zero_le _) rfl).alloc _)
          have HE3 : Hid (((w2.alloc (.cells #[.slice ar r.length cr] 26)).alloc (.cells #[] 26)).drew.ownsRow w2.heap.size 26 1 (.slice (some ⟨w2.heap.size + 1, 0, none⟩) 0 0) 0 []) := Lib.hid (by have h := World.ownsRow_made (base := w2.heap.size) (e := 26) (size := 1) (w2.alloc (.cells #[.slice ar r.length cr] 26)) #[] 0 (by simp) (Nat.zero_le _) rfl; rw [World.size_alloc] at h; exact h)
          have b01 : Below w2.heap.size w2 (w2.alloc (.cells #[] 26)).drew := later_trans (later_alloc _ _) (later_drew _)
          have b02 : Below w2.heap.size w2 ((w2.alloc (.cells #[] 26)).alloc (.cells #[.slice ar r.length cr] 26)).drew := later_trans (later_trans (later_alloc _ _) (later_alloc _ _)) (later_drew _)
          have b03 : Below w2.heap.size w2 ((w2.alloc (.cells #[.slice ar r.length cr] 26)).alloc (.cells #[] 26)).drew := later_trans (later_trans (later_alloc _ _) (later_alloc _ _)) (later_drew _)
          have z01 : w2.heap.size ≤ (w2.alloc (.cells #[] 26)).drew.heap.size := b01.size
          have z02 : w2.heap.size ≤ ((w2.alloc (.cells #[] 26)).alloc (.cells #[.slice ar r.length cr] 26)).drew.heap.size := b02.size
          have z03 : w2.heap.size ≤ ((w2.alloc (.cells #[.slice ar r.length cr] 26)).alloc (.cells #[] 26)).drew.heap.size := b03.size
          have HB0 := Lib.hid (And.intro b01 (And.intro b02 (And.intro b03 (And.intro z01 (And.intro z02 z03)))))
          clear b01 b02 b03 z01 z02 z03
          go_region_law (first
            | (refine step_append_sl rfl (.tmp 33) (.tmp 36) 23 rfl 26 i0 _ 24 w2.heap.size Try.underlying23 hi hz0 hz1 hz2 rfl _ 0 vs.length vs.length [] rfl (by first | exact HE1.out | exact HE2.out | exact HE3.out) _ (vs.take vs.length) rfl (HT.out _ (by first | exact HB0.out.1 | exact HB0.out.2.1 | exact HB0.out.2.2.1)) HOne1.out HLen.out (Nat.zero_add _) (by unfold maxLen; omega) (by omega) (by first | exact HB0.out.2.2.2.1 | exact HB0.out.2.2.2.2.1 | exact HB0.out.2.2.2.2.2) ?_; intro a1 c1 W1 own1 grow1; rw [List.nil_append] at own1; have b1 : Below w2.heap.size w2 W1 := (by first | exact HB0.out.1.grown grow1 HB0.out.2.2.2.1 (fun k e => (HE1.out.lt k e).1) | exact HB0.out.2.1.grown grow1 HB0.out.2.2.2.2.1 (fun k e => (HE2.out.lt k e).1) | exact HB0.out.2.2.1.grown grow1 HB0.out.2.2.2.2.2 (fun k e => (HE3.out.lt k e).1)); have HW1 := Lib.hid (And.intro own1 (And.intro b1 (And.intro (later_trans b1 (later_alloc W1 (.cells #[.slice ar r.length cr] 26))) (And.intro b1.size (later_trans b1 (later_alloc W1 (.cells #[.slice ar r.length cr] 26))).size)))); have lW1 := b1.size; clear own1 b1)
            | (refine step_append_sl rfl (.tmp 37) (.tmp 39) 23 rfl 26 i0 _ 24 w2.heap.size Try.underlying23 hi hz0 hz1 hz2 rfl (.slice a1 vs.length c1) vs.length 1 (vs.length + 1) (vs.take vs.length) rfl (by first | exact HW1.out.1 | exact HW1.out.1.alloc _) _ [.slice ar r.length cr] rfl (by first | exact slc_box (box_new _ _ _) | exact rb_b grow1 | exact rb_c grow1) (by simp [Value.oneCell']) rfl rfl (by unfold maxLen; omega) (by omega) (by first | exact HW1.out.2.2.2.1 | exact HW1.out.2.2.2.2) ?_; intro a2 c2 W2 own2 grow2; have b2 : Below w2.heap.size w2 W2 := (by first | exact HW1.out.2.1.grown grow2 HW1.out.2.2.2.1 (fun k e => owns_above HW1.out.1 k e) | exact HW1.out.2.2.1.grown grow2 HW1.out.2.2.2.2 (fun k e => owns_above HW1.out.1 k e)); have HW2 := Lib.hid (And.intro own2 (And.intro b2 b2.size)); clear own2 b2)
            | (refine step_append_sl rfl (.tmp 40) (.tmp 43) 23 rfl 26 i0 _ 24 w2.heap.size Try.underlying23 hi hz0 hz1 hz2 rfl (.slice a2 (vs.length + 1) c2) (vs.length + 1) 0 (vs.length + 1) (vs.take vs.length ++ [.slice ar r.length cr]) rfl HW2.out.1 _ ([]) rfl (by have hbX := HW2.out.2.1; exact slc_none hbX (by have := HCap3.out; omega) (by first | exact fun _ => rfl | exact fun q => (by cases q) | (intro _; omega))) HOne3.out HLen3.out (by omega) (by unfold maxLen; omega) (by omega) HW2.out.2.2 ?_; intro a3 c3 W3 own3 grow3; have b3 : Below w2.heap.size w2 W3 := HW2.out.2.1.grown grow3 HW2.out.2.2 (fun k e => owns_above HW2.out.1 k e); have HW3 := Lib.hid (And.intro own3 b3); clear own3 b3))
          all_goals (go_wp2_with fail)
          all_goals go_ret
          all_goals exact ⟨_, _, rfl, HFin.out _ _ HW3.out.1, fun x hx => mem3 hx, later_trans HE.out.2 HW3.out.2⟩
        | some ad =>
          go_wp2_with fail
          have HE1 : Hid ((w2.alloc (.cells #[] 26)).drew.ownsRow w2.heap.size 26 1 (.slice (some ⟨w2.heap.size, 0, none⟩) 0 0) 0 []) := Lib.hid (World.ownsRow_made w2 #[] 0 (Nat.le_refl _) (Nat.zero_le _) rfl)
          have HE2 : Hid (((w2.alloc (.cells #[] 26)).alloc (.cells #[.slice ar r.length cr] 26)).drew.ownsRow w2.heap.size 26 1 (.slice (some ⟨w2.heap.size, 0, none⟩) 0 0) 0 []) := Lib.hid ((World.ownsRow_made w2 #[] 0 (Nat.le_refl _) (Nat.zero_le _) rfl).alloc _)
          have HE3 : Hid (((w2.alloc (.cells #[.slice ar r.length cr] 26)).alloc (.cells #[] 26)).drew.ownsRow w2.heap.size 26 1 (.slice (some ⟨w2.heap.size + 1, 0, none⟩) 0 0) 0 []) := Lib.hid (by have h := World.ownsRow_made (base := w2.heap.size) (e := 26) (size := 1) (w2.alloc (.cells #[.slice ar r.length cr] 26)) #[] 0 (by simp) (Nat.zero_le _) rfl; rw [World.size_alloc] at h; exact h)
          have b01 : Below w2.heap.size w2 (w2.alloc (.cells #[] 26)).drew := later_trans (later_alloc _ _) (later_drew _)
          have b02 : Below w2.heap.size w2 ((w2.alloc (.cells #[] 26)).alloc (.cells #[.slice ar r.length cr] 26)).drew := later_trans (later_trans (later_alloc _ _) (later_alloc _ _)) (later_drew _)
          have b03 : Below w2.heap.size w2 ((w2.alloc (.cells #[.slice ar r.length cr] 26)).alloc (.cells #[] 26)).drew := later_trans (later_trans (later_alloc _ _) (later_alloc _ _)) (later_drew _)
          have z01 : w2.heap.size ≤ (w2.alloc (.cells #[] 26)).drew.heap.size := b01.size
          have z02 : w2.heap.size ≤ ((w2.alloc (.cells #[] 26)).alloc (.cells #[.slice ar r.length cr] 26)).drew.heap.size := b02.size
          have z03 : w2.heap.size ≤ ((w2.alloc (.cells #[.slice ar r.length cr] 26)).alloc (.cells #[] 26)).drew.heap.size := b03.size
          have HB0 := Lib.hid (And.intro b01 (And.intro b02 (And.intro b03 (And.intro z01 (And.intro z02 z03)))))
          clear b01 b02 b03 z01 z02 z03
          go_region_law (first
            | (refine step_append_sl rfl (.tmp 33) (.tmp 36) 23 rfl 26 i0 _ 24 w2.heap.size Try.underlying23 hi hz0 hz1 hz2 rfl _ 0 vs.length vs.length [] rfl (by first | exact HE1.out | exact HE2.out | exact HE3.out) _ (vs.take vs.length) rfl (HT.out _ (by first | exact HB0.out.1 | exact HB0.out.2.1 | exact HB0.out.2.2.1)) HOne1.out HLen.out (Nat.zero_add _) (by unfold maxLen; omega) (by omega) (by first | exact HB0.out.2.2.2.1 | exact HB0.out.2.2.2.2.1 | exact HB0.out.2.2.2.2.2) ?_; intro a1 c1 W1 own1 grow1; rw [List.nil_append] at own1; have b1 : Below w2.heap.size w2 W1 := (by first | exact HB0.out.1.grown grow1 HB0.out.2.2.2.1 (fun k e => (HE1.out.lt k e).1) | exact HB0.out.2.1.grown grow1 HB0.out.2.2.2.2.1 (fun k e => (HE2.out.lt k e).1) | exact HB0.out.2.2.1.grown grow1 HB0.out.2.2.2.2.2 (fun k e => (HE3.out.lt k e).1)); have HW1 := Lib.hid (And.intro own1 (And.intro b1 (And.intro (later_trans b1 (later_alloc W1 (.cells #[.slice ar r.length cr] 26))) (And.intro b1.size (later_trans b1 (later_alloc W1 (.cells #[.slice ar r.length cr] 26))).size)))); have lW1 := b1.size; clear own1 b1)
            | (refine step_append_sl rfl (.tmp 37) (.tmp 39) 23 rfl 26 i0 _ 24 w2.heap.size Try.underlying23 hi hz0 hz1 hz2 rfl (.slice a1 vs.length c1) vs.length 1 (vs.length + 1) (vs.take vs.length) rfl (by first | exact HW1.out.1 | exact HW1.out.1.alloc _) _ [.slice ar r.length cr] rfl (by first | exact slc_box (box_new _ _ _) | exact rb_b grow1 | exact rb_c grow1) (by simp [Value.oneCell']) rfl rfl (by unfold maxLen; omega) (by omega) (by first | exact HW1.out.2.2.2.1 | exact HW1.out.2.2.2.2) ?_; intro a2 c2 W2 own2 grow2; have b2 : Below w2.heap.size w2 W2 := (by first | exact HW1.out.2.1.grown grow2 HW1.out.2.2.2.1 (fun k e => owns_above HW1.out.1 k e) | exact HW1.out.2.2.1.grown grow2 HW1.out.2.2.2.2 (fun k e => owns_above HW1.out.1 k e)); have HW2 := Lib.hid (And.intro own2 (And.intro b2 b2.size)); clear own2 b2)
            | (refine step_append_sl rfl (.tmp 40) (.tmp 43) 23 rfl 26 i0 _ 24 w2.heap.size Try.underlying23 hi hz0 hz1 hz2 rfl (.slice a2 (vs.length + 1) c2) (vs.length + 1) 0 (vs.length + 1) (vs.take vs.length ++ [.slice ar r.length cr]) rfl HW2.out.1 _ ([]) rfl (by have hbX := HW2.out.2.1; exact slc_none hbX (by have := HCap3.out; omega) (by first | exact fun _ => rfl | exact fun q => (by cases q) | (intro _; omega))) HOne3.out HLen3.out (by omega) (by unfold maxLen; omega) (by omega) HW2.out.2.2 ?_; intro a3 c3 W3 own3 grow3; have b3 : Below w2.heap.size w2 W3 := HW2.out.2.1.grown grow3 HW2.out.2.2 (fun k e => owns_above HW2.out.1 k e); have HW3 := Lib.hid (And.intro own3 b3); clear own3 b3))
          all_goals (go_wp2_with fail)
          all_goals go_ret
          all_goals exact ⟨_, _, rfl, HFin.out _ _ HW3.out.1, fun x hx => mem3 hx, later_trans HE.out.2 HW3.out.2⟩
      · cases a with
        | none => exact absurd (HCap2.out rfl) (by omega)
        | some ad =>
          go_wp2_with fail
          have HE1 : Hid ((w2.alloc (.cells #[] 26)).drew.ownsRow w2.heap.size 26 1 (.slice (some ⟨w2.heap.size, 0, none⟩) 0 0) 0 []) := Lib.hid (World.ownsRow_made w2 #[] 0 (Nat.le_refl _) (Nat.zero_le _) rfl)
          have HE2 : Hid (((w2.alloc (.cells #[] 26)).alloc (.cells #[.slice ar r.length cr] 26)).drew.ownsRow w2.heap.size 26 1 (.slice (some ⟨w2.heap.size, 0, none⟩) 0 0) 0 []) := Lib.hid ((World.ownsRow_made w2 #[] 0 (Nat.le_refl _) (Nat.zero_le _) rfl).alloc _)
          have HE3 : Hid (((w2.alloc (.cells #[.slice ar r.length cr] 26)).alloc (.cells #[] 26)).drew.ownsRow w2.heap.size 26 1 (.slice (some ⟨w2.heap.size + 1, 0, none⟩) 0 0) 0 []) := Lib.hid (by have h := World.ownsRow_made (base := w2.heap.size) (e := 26) (size := 1) (w2.alloc (.cells #[.slice ar r.length cr] 26)) #[] 0 (by simp) (Nat.zero_le _) rfl; rw [World.size_alloc] at h; exact h)
          have b01 : Below w2.heap.size w2 (w2.alloc (.cells #[] 26)).drew := later_trans (later_alloc _ _) (later_drew _)
          have b02 : Below w2.heap.size w2 ((w2.alloc (.cells #[] 26)).alloc (.cells #[.slice ar r.length cr] 26)).drew := later_trans (later_trans (later_alloc _ _) (later_alloc _ _)) (later_drew _)
          have b03 : Below w2.heap.size w2 ((w2.alloc (.cells #[.slice ar r.length cr] 26)).alloc (.cells #[] 26)).drew := later_trans (later_trans (later_alloc _ _) (later_alloc _ _)) (later_drew _)
          have z01 : w2.heap.size ≤ (w2.alloc (.cells #[] 26)).drew.heap.size := b01.size
          have z02 : w2.heap.size ≤ ((w2.alloc (.cells #[] 26)).alloc (.cells #[.slice ar r.length cr] 26)).drew.heap.size := b02.size
          have z03 : w2.heap.size ≤ ((w2.alloc (.cells #[.slice ar r.length cr] 26)).alloc (.cells #[] 26)).drew.heap.size := b03.size
          have HB0 := Lib.hid (And.intro b01 (And.intro b02 (And.intro b03 (And.intro z01 (And.intro z02 z03)))))
          clear b01 b02 b03 z01 z02 z03
          go_region_law (first
            | (refine step_append_sl rfl (.tmp 33) (.tmp 36) 23 rfl 26 i0 _ 24 w2.heap.size Try.underlying23 hi hz0 hz1 hz2 rfl _ 0 vs.length vs.length [] rfl (by first | exact HE1.out | exact HE2.out | exact HE3.out) _ (vs.take vs.length) rfl (HT.out _ (by first | exact HB0.out.1 | exact HB0.out.2.1 | exact HB0.out.2.2.1)) HOne1.out HLen.out (Nat.zero_add _) (by unfold maxLen; omega) (by omega) (by first | exact HB0.out.2.2.2.1 | exact HB0.out.2.2.2.2.1 | exact HB0.out.2.2.2.2.2) ?_; intro a1 c1 W1 own1 grow1; rw [List.nil_append] at own1; have b1 : Below w2.heap.size w2 W1 := (by first | exact HB0.out.1.grown grow1 HB0.out.2.2.2.1 (fun k e => (HE1.out.lt k e).1) | exact HB0.out.2.1.grown grow1 HB0.out.2.2.2.2.1 (fun k e => (HE2.out.lt k e).1) | exact HB0.out.2.2.1.grown grow1 HB0.out.2.2.2.2.2 (fun k e => (HE3.out.lt k e).1)); have HW1 := Lib.hid (And.intro own1 (And.intro b1 (And.intro (later_trans b1 (later_alloc W1 (.cells #[.slice ar r.length cr] 26))) (And.intro b1.size (later_trans b1 (later_alloc W1 (.cells #[.slice ar r.length cr] 26))).size)))); have lW1 := b1.size; clear own1 b1)
            | (refine step_append_sl rfl (.tmp 37) (.tmp 39) 23 rfl 26 i0 _ 24 w2.heap.size Try.underlying23 hi hz0 hz1 hz2 rfl (.slice a1 vs.length c1) vs.length 1 (vs.length + 1) (vs.take vs.length) rfl (by first | exact HW1.out.1 | exact HW1.out.1.alloc _) _ [.slice ar r.length cr] rfl (by first | exact slc_box (box_new _ _ _) | exact rb_b grow1 | exact rb_c grow1) (by simp [Value.oneCell']) rfl rfl (by unfold maxLen; omega) (by omega) (by first | exact HW1.out.2.2.2.1 | exact HW1.out.2.2.2.2) ?_; intro a2 c2 W2 own2 grow2; have b2 : Below w2.heap.size w2 W2 := (by first | exact HW1.out.2.1.grown grow2 HW1.out.2.2.2.1 (fun k e => owns_above HW1.out.1 k e) | exact HW1.out.2.2.1.grown grow2 HW1.out.2.2.2.2 (fun k e => owns_above HW1.out.1 k e)); have HW2 := Lib.hid (And.intro own2 (And.intro b2 b2.size)); clear own2 b2)
            | (refine step_append_sl rfl (.tmp 40) (.tmp 43) 23 rfl 26 i0 _ 24 w2.heap.size Try.underlying23 hi hz0 hz1 hz2 rfl (.slice a2 (vs.length + 1) c2) (vs.length + 1) 0 (vs.length + 1) (vs.take vs.length ++ [.slice ar r.length cr]) rfl HW2.out.1 _ ([]) rfl (by have hbX := HW2.out.2.1; exact slc_none hbX (by have := HCap3.out; omega) (by first | exact fun _ => rfl | exact fun q => (by cases q) | (intro _; omega))) HOne3.out HLen3.out (by omega) (by unfold maxLen; omega) (by omega) HW2.out.2.2 ?_; intro a3 c3 W3 own3 grow3; have b3 : Below w2.heap.size w2 W3 := HW2.out.2.1.grown grow3 HW2.out.2.2 (fun k e => owns_above HW2.out.1 k e); have HW3 := Lib.hid (And.intro own3 b3); clear own3 b3))
          all_goals (go_wp2_with fail)
          all_goals go_ret
          all_goals exact ⟨_, _, rfl, HFin.out _ _ HW3.out.1, fun x hx => mem3 hx, later_trans HE.out.2 HW3.out.2⟩
end
/-! ## XHaRf4 -/
section
open Go.RowKit
set_option linter.unusedVariables false
set_option linter.unusedSimpArgs false

theorem ofL_take {ls : List (List Int)} {k : Nat} (h : k < ls.length) : ofL (ls.take (k + 1)) = putL (ofL (ls.take k)) ls[k] := by
  unfold ofL
  rw [List.take_succ_eq_append_getElem h, List.foldl_append]
  rfl
theorem OldRows.laterO {w0 W W' : World} {base : Nat} {v : Value} {vs : List Value} {ls : List (List Int)} (h : OldRows w0 base W v vs ls) (hb : Below W.heap.size W W') : OldRows w0 base W' v vs ls := ⟨owns_later h.own hb, h.len, h.rows⟩
theorem OldRows.setO {w0 W : World} {base X i : Nat} {v : Value} {vs : List Value} {ls : List (List Int)} {a b : Value} (h : OldRows w0 base W v vs ls) (hX : W.heap[X]? = some (.cells #[a, b] 25 (0, 0))) (u : Value) : OldRows w0 base (W.setCell ⟨X, i, none⟩ u) v vs ls := ⟨own_set h.own hX (by decide) u, h.len, h.rows⟩
theorem OldRows.downO {w0 W : World} {base base' : Nat} {v : Value} {vs : List Value} {ls : List (List Int)} (h : OldRows w0 base W v vs ls) (hb : base' ≤ base) : OldRows w0 base' W v vs ls := ⟨owns_down h.own hb, h.len, h.rows⟩
theorem OldRows.nilO (w0 : World) (base : Nat) (W : World) : OldRows w0 base W (.slice none 0 0) [] [] := ⟨World.ownsRow_nil _ _ _ _, rfl, fun r hr => by simp at hr⟩
set_option maxRecDepth 100000 in
set_option maxHeartbeats 4000000 in
theorem OfR2_any (vv rv : Value) (n : Nat) (rs : List (List Int)) (w : World) (P : Value → Prop) (hP : ∀ b o m c, rv = .slice (some ⟨b, o, none⟩) m c → ∀ k, k < rs.length → ∀ u, w.cell? ⟨b, o + k, none⟩ = some u → P u) (hv : ∃ a m c, vv = .slice a m c) (h : SlRK .u64 w rv rs) (hw : Wd n rs) (hl : rs.length ≤ 1048576) :
    Calls Try.prog 31 #[vv, rv] w fun e w' => ∃ v' vs', e = .returned (relV vv v') ∧ OldRows w w.heap.size w' v' vs' (ofL rs) ∧ (∀ x ∈ vs', P x) ∧ Below w.heap.size w w' := by
  obtain ⟨av, mv, cv, rfl⟩ := hv
  obtain ⟨W0, hW0⟩ : ∃ W, W = (w.alloc (.cells #[.slice none 0 0, .slice none 0 0] 25)).alloc (.cells #[.slice av mv cv, .slice none 0 0] 25) := ⟨_, rfl⟩
  have b0 : Below w.heap.size w W0 := by rw [hW0]; exact later_trans (later_alloc _ _) (later_alloc _ _)
  have bR : RB W0 w.heap.size (.slice none 0 0) (.slice none 0 0) := by rw [hW0]; exact box_alloc (box_new _ _ _) _
  have bX : RB W0 (w.heap.size + 1) (.slice av mv cv) (.slice none 0 0) := by
    rw [hW0]
    have h := box_new (w.alloc (.cells #[.slice none 0 0, .slice none 0 0] 25)) #[.slice av mv cv, .slice none 0 0] 25
    rw [World.size_alloc] at h
    exact h
  have H := Lib.hid (And.intro h (And.intro hw hl))
  have H0 := Lib.hid (And.intro b0 (And.intro bR bX))
  obtain ⟨ar, cr, rfl, -⟩ := h.open
  clear h hw b0 bR bX
  go_enter Try.func31, Try.ntmps31
  go_wp2_with fail
  rw [← hW0]
  clear hW0
  go_loopw [12] (fun i wr => ∃ (k : Nat) (v : Value) (vs : List Value), k ≤ rs.length ∧ i = .int .i64 k ∧ RB wr (w.heap.size + 1) (.slice av mv cv) v ∧ OldRows w w.heap.size wr v vs (ofL (rs.take k)) ∧ (∀ x ∈ vs, P x) ∧ RB wr w.heap.size (.slice none 0 0) (.slice none 0 0) ∧ Below w.heap.size w wr) (fun i _ => rs.length - (intOf i).toNat)
  case atStart => exact ⟨0, _, [], Nat.zero_le _, rfl, H0.out.2.2, OldRows.nilO _ _ _, fun x hx => (by cases hx), H0.out.2.1, H0.out.1⟩
  case round =>
    obtain ⟨k, v, vs, hk, rfl, hX, hO, hPs, hR, hb⟩ := hrel
    obtain ⟨a7, c7, rfl⟩ := owns_shape2 hO.own
    obtain ⟨x0, x1, lX⟩ := two_of2 hX
    by_cases hlt : k < rs.length
    · obtain ⟨_, _, e1, _, _, _, f4⟩ := H.out.1.open
      obtain ⟨b, o, e2, hbb, fc⟩ := f4 (by omega)
      injection e1 with e1a e1b e1c
      subst e1a
      subst e2
      obtain ⟨ru, cr0, hru⟩ := fc k hlt
      change SlI .u64 w ru (rowN rs k) at hru
      have ce1 := cell_next hb cr0
      have hPu := hP _ _ _ _ rfl k hlt _ cr0
      have hrk : rowN rs k ∈ rs := by rw [rowN_at hlt]; exact List.getElem_mem hlt
      have hP' := Put_any n ru (rowN rs k) hO hb hru (ofL_wd (fun r hr => H.out.2.1 r (List.mem_of_mem_take hr))) (H.out.2.1 _ hrk) (Nat.le_trans (ofL_len _) (by rw [List.length_take]; omega)) hb.size
      rw [show putL (ofL (rs.take k)) (rowN rs k) = ofL (rs.take (k + 1)) by rw [ofL_take hlt, rowN_at hlt]] at hP'
      have HP := Lib.hid hP'
      have HX := Lib.hid (And.intro hX (And.intro hR (And.intro hb (And.intro hlt (And.intro hPs hPu)))))
      obtain ⟨au, cu, rfl, -⟩ := hru.open
      clear hX hO hR hb fc f4 e1b e1c cr0 hru hrk hP' hPs hPu
      go_wp2_with fail
      refine HP.out.mono ?_
      rintro e W2 ⟨v2, vs2, rfl, hO2, hm2, b2⟩
      have HM2 := Lib.hid (fun x hx => (hm2 x hx).elim (HX.out.2.2.2.2.1 x) (fun e => by rw [e]; exact HX.out.2.2.2.2.2))
      clear hm2
      have hX2 := kept b2 HX.out.1
      obtain ⟨y0, y1, lY⟩ := two_of2 hX2
      have fY := box_frozen (i := 1) hX2
      obtain ⟨a8, c8, rfl⟩ := owns_shape2 hO2.own
      have HN := Lib.hid (And.intro (box_set (i := 1) hX2 (.slice a8 vs2.length c8)) (And.intro (hO2.setO (i := 1) hX2 (.slice a8 vs2.length c8)) (And.intro (box_other (i := 1) (kept b2 HX.out.2.1) (show w.heap.size ≠ w.heap.size + 1 by omega) (.slice a8 vs2.length c8)) (below_set (i := 1) (u := .slice a8 vs2.length c8) (later_trans HX.out.2.2.1 b2) (show w.heap.size ≤ w.heap.size + 1 by omega)))))
      clear hO2 b2 hX2 x0 x1 lX
      go_wp2_with fail
      go_roundw
      case rel => exact ⟨k + 1, _, vs2, HX.out.2.2.2.1, by go_num, by simpa [RB] using HN.out.1, HN.out.2.1, HM2.out, HN.out.2.2.1, HN.out.2.2.2⟩
      case measure => simp [intOf]; have := HX.out.2.2.2.1; omega
    · obtain rfl : k = rs.length := by omega
      rw [List.take_length] at hO
      obtain ⟨y0, y1, lR⟩ := two_of2 hR
      have fR0 := box_frozen (i := 0) hR
      have fR1 := box_frozen (i := 1) hR
      have hb3 := box_set (i := 1) (box_set (i := 0) hR (.slice av mv cv)) (.slice a7 vs.length c7)
      have d0 := box_cell (i := 0) hb3
      have d1 := box_cell (i := 1) hb3
      simp at d0 d1
      have HPs := Lib.hid hPs
      have HN := Lib.hid (And.intro ((hO.setO (i := 0) hR (.slice av mv cv)).setO (i := 1) (box_set (i := 0) hR _) (.slice a7 vs.length c7)) (below_set (i := 1) (u := .slice a7 vs.length c7) (below_set (i := 0) (u := .slice av mv cv) hb (Nat.le_refl _)) (Nat.le_refl _)))
      clear hX hO hR hb hb3 hPs
      go_wp2_with fail
      refine bodyPost_ret (v := relV (.slice av mv cv) (.slice a7 vs.length c7)) (by simp [results, Try.results31, go_sem, d0, d1]) rfl ?_
      exact ⟨_, vs, rfl, HN.out.1, HPs.out, HN.out.2⟩
theorem OfR_any (vv rv : Value) (n : Nat) (rs : List (List Int)) (w : World) (hv : ∃ a m c, vv = .slice a m c) (h : SlRK .u64 w rv rs) (hw : Wd n rs) (hl : rs.length ≤ 1048576) :
    Calls Try.prog 31 #[vv, rv] w fun e w' => ∃ v' vs', e = .returned (relV vv v') ∧ OldRows w w.heap.size w' v' vs' (ofL rs) ∧ Below w.heap.size w w' :=
  (OfR2_any vv rv n rs w (fun _ => True) (fun _ _ _ _ _ _ _ _ _ => trivial) hv h hw hl).mono (by
    rintro e w' ⟨v', vs', h1, h2, -, h3⟩
    exact ⟨v', vs', h1, h2, h3⟩)
set_option maxRecDepth 100000 in
set_option maxHeartbeats 4000000 in
theorem Right_any (vv rv : Value) (R : Rl) (w : World) (h : RlR w vv rv R) :
    Calls Try.prog 13 #[relV vv rv] w fun e w' => e = .returned (.bool (rightB R)) ∧ Below w.heap.size w w' := by
  have hb0 := later_alloc w (.cells #[vv, rv] 25)
  have hbx : RB (w.alloc (.cells #[vv, rv] 25)) w.heap.size vv rv := box_new _ _ _
  obtain ⟨W0, hW0⟩ : ∃ W, W = w.alloc (.cells #[vv, rv] 25) := ⟨_, rfl⟩
  rw [← hW0] at hb0 hbx
  have H := Lib.hid (And.intro (h.later hb0) (And.intro hb0 hbx))
  obtain ⟨x0, x1, lX⟩ := two_of2 hbx
  obtain ⟨av, cv, rfl, v1, v2, -⟩ := h.vars.open
  obtain ⟨ar, cr, rfl, r1, r2, -⟩ := h.rows.open
  obtain ⟨vs, rs⟩ := R
  simp only at v1 v2 r1 r2 H x0 x1 ⊢
  have hvm : vs.length ≤ 9223372036854775807 := by omega
  have hrm : rs.length ≤ 9223372036854775807 := by omega
  have hCo := Columns_any (.slice av vs.length cv) vs W0 H.out.1.vars
  have HCo := Lib.hid hCo
  clear h hb0 hbx hCo v1 v2 r1 r2
  go_enter Try.func13, Try.ntmps13
  go_wp2_with fail
  rw [← hW0]
  clear hW0
  go_loop [8] (fun i => ∃ k : Nat, k ≤ rs.length ∧ i = .int .i64 k ∧ ∀ j, j < k → rowAt ⟨vs, rs⟩ j = true) (fun i => rs.length - (intOf i).toNat)
  case atStart => exact ⟨0, Nat.zero_le _, rfl, fun j hj => by omega⟩
  case round =>
    obtain ⟨k, hk, rfl, hs⟩ := hrel
    have HS := Lib.hid hs
    clear hs
    by_cases hlt : k < rs.length
    · obtain ⟨_, _, e1, _, _, _, f4⟩ := H.out.1.rows.open
      obtain ⟨b, o, e2, hbb, fc⟩ := f4 (by show 0 < rs.length; omega)
      injection e1 with e1a e1b e1c
      subst e1a
      subst e2
      obtain ⟨ru, ce1, hru⟩ := fc k hlt
      change SlI .u64 W0 ru (rowN rs k) at hru
      have hbad : rowAt ⟨vs, rs⟩ k = false → Hid (rightB ⟨vs, rs⟩ = false) := fun h => Lib.hid (by
        unfold rightB
        rw [cover_no (n := rs.length) hlt h, Bool.and_false, Bool.and_false])
      have hord : rowAt ⟨vs, rs⟩ k = (decide ((rowN rs k).length = vs.length) && (decide (k = 0) || decide (lexC (rowN rs (k - 1)) (rowN rs k) = -1))) := rfl
      by_cases hlen : (rowN rs k).length = vs.length
      · have hl0 : (((rowN rs k).length : Int) != (vs.length : Int)) = false := by rw [bne_eq_false_iff_eq]; omega
        rw [decide_eq_true hlen, Bool.true_and] at hord
        by_cases hk0 : k = 0
        · subst hk0
          have HN : Hid (rowAt ⟨vs, rs⟩ 0 = true) := Lib.hid (by rw [hord]; rfl)
          obtain ⟨au, cu, rfl, -⟩ := hru.open
          rw [Nat.add_zero] at ce1
          clear hord hbad hru fc f4 e1b e1c hlen
          go_wp2_with fail
          go_round
          case rel => exact ⟨1, by omega, by go_num, fun j hj => by
            obtain rfl : j = 0 := by omega
            exact HN.out⟩
          case measure => simp [intOf]; omega
        · obtain ⟨m, rfl⟩ : ∃ m, k = m + 1 := ⟨k - 1, by omega⟩
          obtain ⟨rp, ce2, hrp⟩ := fc m (by show m < rs.length; omega)
          change SlI .u64 W0 rp (rowN rs m) at hrp
          have hpl : (rowN rs m).length = vs.length := by
            have := HS.out m (by omega)
            unfold rowAt at this
            simp only [Bool.and_eq_true, decide_eq_true_eq] at this
            exact this.1
          have hAh := Ahead_any rp ru (rowN rs m) (rowN rs (m + 1)) W0 hrp hru (by rw [hpl, hlen])
          have hah : aheadB (rowN rs m) (rowN rs (m + 1)) = decide (lexC (rowN rs (m + 1 - 1)) (rowN rs (m + 1)) = -1) := rfl
          rw [decide_eq_false (by omega), Bool.false_or, ← hah] at hord
          obtain ⟨q, hq⟩ : ∃ q, aheadB (rowN rs m) (rowN rs (m + 1)) = q := ⟨_, rfl⟩
          rw [hq] at hAh hord
          have HAh := Lib.hid hAh
          have hwr : IntKind.i64.wrap ((m : Int) + 1 - 1) = (m : Int) := by rw [show (m : Int) + 1 - 1 = m from by omega]; exact wrap_i64 (by omega) (by omega)
          have hm1 : ((m + 1 : Nat) : Int) = (m : Int) + 1 := by omega
          obtain ⟨au, cu, rfl, -⟩ := hru.open
          obtain ⟨ap, cp, rfl, -⟩ := hrp.open
          have HB := Lib.hid (And.intro hbad hord)
          clear hord hbad hru hrp fc f4 e1b e1c hlen hpl hah hq hAh hk0
          go_wp2_with fail
          refine HAh.out.mono ?_
          rintro e w2 ⟨rfl, h2⟩
          rw [h2]
          clear h2 w2
          cases q with
          | true =>
            go_wp2_with fail
            go_round
            case rel => exact ⟨m + 1 + 1, by omega, by go_num, fun j hj => by
              by_cases e : j = m + 1
              · subst e; exact HB.out.2
              · exact HS.out j (by omega)⟩
            case measure => simp [intOf]; omega
          | false =>
            have HB2 := HB.out.1 HB.out.2
            go_wp2_with fail
            go_ret
            exact ⟨ret_bool HB2.out.symm, H.out.2.1⟩
      · have hl0 : (((rowN rs k).length : Int) != (vs.length : Int)) = true := by rw [bne_iff_ne]; omega
        have HB := hbad (by rw [hord, decide_eq_false hlen, Bool.false_and])
        obtain ⟨au, cu, rfl, -⟩ := hru.open
        clear hord hbad hru fc f4 e1b e1c hlen
        go_wp2_with fail
        go_ret
        exact ⟨ret_bool HB.out.symm, H.out.2.1⟩
    · have HA : Hid (rightB ⟨vs, rs⟩ = (colB vs && decide ((rs.length : Int) ≤ 1048576))) := Lib.hid (by
        unfold rightB
        rw [cover_yes (n := rs.length) fun j hj => HS.out j (by omega), Bool.and_true]
        congr 1
        show decide (rs.length ≤ 1048576) = _
        by_cases e : rs.length ≤ 1048576
        · rw [decide_eq_true e, decide_eq_true (by omega)]
        · rw [decide_eq_false e, decide_eq_false (by omega)])
      obtain ⟨q, hq⟩ : ∃ q, colB vs = q := ⟨_, rfl⟩
      rw [hq] at HCo HA
      clear hq
      go_wp2_with fail
      refine HCo.out.mono ?_
      rintro e w2 ⟨rfl, h2⟩
      rw [h2]
      clear h2 w2
      cases q with
      | true =>
        go_wp2_with fail
        go_ret
        exact ⟨ret_bool (by rw [HA.out]; rfl), H.out.2.1⟩
      | false =>
        go_wp2_with fail
        go_ret
        exact ⟨ret_bool (by rw [HA.out]; rfl), H.out.2.1⟩
end
/-! ## XHaRf5 -/
section
open Go.RowKit
set_option linter.unusedVariables false
set_option linter.unusedSimpArgs false

set_option maxRecDepth 100000 in
set_option maxHeartbeats 4000000 in
theorem SameR_any (vv rv vv' rv' : Value) (R R' : Rl) (w : World) (h : RlR w vv rv R) (h' : RlR w vv' rv' R') :
    Calls Try.prog 17 #[relV vv rv, relV vv' rv'] w fun e w' => e = .returned (.bool (decide (R = R'))) ∧ Below w.heap.size w w' := by
  obtain ⟨W0, hW0⟩ : ∃ W, W = (w.alloc (.cells #[vv, rv] 25)).alloc (.cells #[vv', rv'] 25) := ⟨_, rfl⟩
  have b0 : Below w.heap.size w W0 := by rw [hW0]; exact later_trans (later_alloc _ _) (later_alloc _ _)
  have bA : RB W0 w.heap.size vv rv := by rw [hW0]; exact box_alloc (box_new _ _ _) _
  have bB : RB W0 (w.heap.size + 1) vv' rv' := by
    rw [hW0]
    have h := box_new (w.alloc (.cells #[vv, rv] 25)) #[vv', rv'] 25
    rw [World.size_alloc] at h
    exact h
  have H := Lib.hid (And.intro (h.later b0) (And.intro (h'.later b0) (And.intro b0 (And.intro bA bB))))
  obtain ⟨x0, x1, lA⟩ := two_of2 bA
  obtain ⟨y0, y1, lB⟩ := two_of2 bB
  obtain ⟨av, cv, rfl, v1, v2, -⟩ := h.vars.open
  obtain ⟨ar, cr, rfl, r1, r2, -⟩ := h.rows.open
  obtain ⟨av', cv', rfl, -⟩ := h'.vars.open
  obtain ⟨ar', cr', rfl, -⟩ := h'.rows.open
  obtain ⟨vs, rs⟩ := R
  obtain ⟨vs', rs'⟩ := R'
  simp only at v1 v2 r1 r2 H x0 x1 y0 y1 ⊢
  have hvm : vs.length ≤ 9223372036854775807 := by omega
  have hrm : rs.length ≤ 9223372036854775807 := by omega
  clear h h' b0 bA bB v1 v2 r1 r2
  by_cases hlv : vs.length = vs'.length
  · by_cases hlr : rs.length = rs'.length
    · have hn1 : ((vs.length : Int) != (vs'.length : Int)) = false := by rw [bne_eq_false_iff_eq]; omega
      have hn2 : ((rs.length : Int) != (rs'.length : Int)) = false := by rw [bne_eq_false_iff_eq]; omega
      have HL := Lib.hid (And.intro hlv hlr)
      clear hlv hlr
      go_enter Try.func17, Try.ntmps17
      go_wp2_with fail
      rw [← hW0]
      clear hW0
      go_loopw [26] (fun i wr => ∃ k : Nat, k ≤ vs.length ∧ i = .int .i64 k ∧ vs.take k = vs'.take k ∧ Below W0.heap.size W0 wr) (fun i _ => vs.length - (intOf i).toNat)
      case atStart => exact ⟨0, Nat.zero_le _, rfl, by simp, Below.refl _ _⟩
      case round =>
        obtain ⟨k, hk, rfl, hs, hb⟩ := hrel
        obtain ⟨c0, c1, lA'⟩ := two_of2 (kept hb H.out.2.2.2.1)
        obtain ⟨d0, d1, lB'⟩ := two_of2 (kept hb H.out.2.2.2.2)
        by_cases hlt : k < vs.length
        · have hkb : k < vs'.length := by rw [← HL.out.1]; exact hlt
          obtain ⟨_, _, e1, _, _, _, f4⟩ := (SlI.later H.out.1.vars hb).open
          obtain ⟨ba, oa, e2, _, fc⟩ := f4 (by show 0 < vs.length; omega)
          injection e1 with e1a e1b e1c
          subst e1a e1c
          subst e2
          have ca1 := fc k hlt
          obtain ⟨_, _, g1, _, _, _, g4⟩ := (SlI.later H.out.2.1.vars hb).open
          obtain ⟨bb, ob, g2, _, gc⟩ := g4 (by show 0 < vs'.length; omega)
          injection g1 with g1a g1b g1c
          subst g1a g1c
          subst g2
          have cb1 := gc k hkb
          obtain ⟨x, hx⟩ : ∃ x, vs[k] = x := ⟨_, rfl⟩
          obtain ⟨y, hy⟩ : ∃ y, vs'[k] = y := ⟨_, rfl⟩
          rw [hx] at ca1
          rw [hy] at cb1
          by_cases hxy : x = y
          · have hb1 : (x != y) = false := by rw [bne_eq_false_iff_eq]; exact hxy
            have HN := Lib.hid (And.intro (show vs.take (k + 1) = vs'.take (k + 1) by rw [List.take_succ_eq_append_getElem hlt, List.take_succ_eq_append_getElem hkb, hs, hx, hy, hxy]) hb)
            clear hxy hs hx hy fc gc f4 g4 e1b g1b hb
            go_wp2_with fail
            go_region
            all_goals go_wp2_with fail
            all_goals go_roundw
            all_goals first
              | (simp [intOf]; omega)
              | exact ⟨k + 1, by omega, by go_num, HN.out.1, later_trans HN.out.2 (later_drew _)⟩
              | ((repeat apply Exists.intro); refine ⟨?_, rfl⟩; exact ⟨k + 1, by omega, by go_num, HN.out.1, later_trans HN.out.2 (later_drew _)⟩)
          · have hb1 : (x != y) = true := by rw [bne_iff_ne]; exact hxy
            have HN := Lib.hid (And.intro (show decide ((⟨vs, rs⟩ : Rl) = ⟨vs', rs'⟩) = false from decide_eq_false fun e => hxy (by rw [← hx, ← hy]; exact getElem_congr_coll (congrArg Rl.vars e))) hb)
            clear hxy hs hx hy fc gc f4 g4 e1b g1b hb
            go_wp2_with fail
            go_region
            all_goals go_wp2_with fail
            all_goals go_ret
            all_goals exact ⟨ret_bool HN.out.1.symm, later_trans H.out.2.2.1 (later_trans HN.out.2 (later_drew _))⟩
        · have HV := Lib.hid (And.intro (show vs = vs' by rw [← List.take_of_length_le (l := vs) (show vs.length ≤ k by omega), hs, List.take_of_length_le (by have := HL.out.1; omega)]) hb)
          clear hs hb
          obtain ⟨W1, hW1⟩ : ∃ W, W = wr := ⟨_, rfl⟩
          rw [← hW1] at HV c0 c1 d0 d1 lA' lB' ⊢
          clear hW1 x0 x1 y0 y1 lA lB
          go_wp2_with fail
          go_loopw [44] (fun i wr => ∃ m : Nat, m ≤ rs.length ∧ i = .int .i64 m ∧ rs.take m = rs'.take m ∧ Below W1.heap.size W1 wr) (fun i _ => rs.length - (intOf i).toNat)
          case atStart => exact ⟨0, Nat.zero_le _, rfl, by simp, Below.refl _ _⟩
          case round =>
            obtain ⟨m, hm, rfl, hs, hb⟩ := hrel
            have hbw := later_trans HV.out.2 hb
            obtain ⟨c0, c1, lA'⟩ := two_of2 (kept hbw H.out.2.2.2.1)
            obtain ⟨d0, d1, lB'⟩ := two_of2 (kept hbw H.out.2.2.2.2)
            by_cases hlt : m < rs.length
            · have hkb : m < rs'.length := by rw [← HL.out.2]; exact hlt
              obtain ⟨_, _, e1, _, _, _, f4⟩ := (H.out.1.rows.later hbw).open
              obtain ⟨ba, oa, e2, _, fc⟩ := f4 (by show 0 < rs.length; omega)
              injection e1 with e1a e1b e1c
              subst e1a e1c
              subst e2
              obtain ⟨ru, ca1, hru⟩ := fc m hlt
              obtain ⟨_, _, g1, _, _, _, g4⟩ := (H.out.2.1.rows.later hbw).open
              obtain ⟨bb, ob, g2, _, gc⟩ := g4 (by show 0 < rs'.length; omega)
              injection g1 with g1a g1b g1c
              subst g1a g1c
              subst g2
              obtain ⟨ru', cb1, hru'⟩ := gc m hkb
              change SlI .u64 _ ru (rowN rs m) at hru
              change SlI .u64 _ ru' (rowN rs' m) at hru'
              have HSm : Hid (∀ W, Below wr.heap.size wr W → Calls Try.prog 42 #[ru, ru'] W fun e w' => e = .returned (.bool (decide (rowN rs m = rowN rs' m))) ∧ Below W.heap.size W w') := Lib.hid (fun W hb' => sameRow_any ru ru' _ _ W (SlI.later hru hb') (SlI.later hru' hb'))
              obtain ⟨x, hx⟩ : ∃ x, rowN rs m = x := ⟨_, rfl⟩
              obtain ⟨y, hy⟩ : ∃ y, rowN rs' m = y := ⟨_, rfl⟩
              rw [hx, hy] at HSm
              rw [hx] at hru
              rw [hy] at hru'
              obtain ⟨au, cu, rfl, -⟩ := hru.open
              obtain ⟨au', cu', rfl, -⟩ := hru'.open
              by_cases hxy : x = y
              · rw [decide_eq_true hxy] at HSm
                have HN := Lib.hid (And.intro (show rs.take (m + 1) = rs'.take (m + 1) by rw [List.take_succ_eq_append_getElem hlt, List.take_succ_eq_append_getElem hkb, hs, ← rowN_at hlt, ← rowN_at hkb, hx, hy, hxy]) hb)
                clear hxy hs hx hy fc gc f4 g4 e1b g1b hb hbw hru hru'
                go_wp2_with fail
                go_region_law (go_simp; refine (HSm.out _ (later_drew _)).mono ?_; rintro e wS ⟨rfl, bS⟩; have HS := Lib.hid bS; clear bS)
                all_goals go_wp2_with fail
                all_goals go_roundw
                all_goals first
                  | (simp [intOf]; omega)
                  | exact ⟨m + 1, by omega, by go_num, HN.out.1, later_trans HN.out.2 (later_trans (later_drew _) HS.out)⟩
                  | ((repeat apply Exists.intro); refine ⟨?_, rfl⟩; exact ⟨m + 1, by omega, by go_num, HN.out.1, later_trans HN.out.2 (later_trans (later_drew _) HS.out)⟩)
              · rw [decide_eq_false hxy] at HSm
                have HN := Lib.hid (And.intro (show decide ((⟨vs, rs⟩ : Rl) = ⟨vs', rs'⟩) = false from decide_eq_false fun e => hxy (by rw [← hx, ← hy]; exact congrArg (fun l => rowN l m) (congrArg Rl.rows e))) (later_trans HV.out.2 hb))
                clear hxy hs hx hy fc gc f4 g4 e1b g1b hb hbw hru hru'
                go_wp2_with fail
                go_region_law (go_simp; refine (HSm.out _ (later_drew _)).mono ?_; rintro e wS ⟨rfl, bS⟩; have HS := Lib.hid bS; clear bS)
                all_goals go_wp2_with fail
                all_goals go_ret
                all_goals exact ⟨ret_bool HN.out.1.symm, later_trans H.out.2.2.1 (later_trans HN.out.2 (later_trans (later_drew _) HS.out))⟩
            · have HN := Lib.hid (And.intro (show decide ((⟨vs, rs⟩ : Rl) = ⟨vs', rs'⟩) = true from decide_eq_true (by
                have : rs = rs' := by rw [← List.take_of_length_le (l := rs) (show rs.length ≤ m by omega), hs, List.take_of_length_le (by have := HL.out.2; omega)]
                rw [this, HV.out.1])) hbw)
              clear hs hb hbw
              go_wp2_with fail
              go_ret
              exact ⟨ret_bool HN.out.1.symm, later_trans H.out.2.2.1 HN.out.2⟩
    · have hn1 : ((vs.length : Int) != (vs'.length : Int)) = false := by rw [bne_eq_false_iff_eq]; omega
      have hn2 : ((rs.length : Int) != (rs'.length : Int)) = true := by rw [bne_iff_ne]; omega
      have HN := Lib.hid (show decide (rs = rs') = false from decide_eq_false fun e => hlr (congrArg List.length e))
      clear hlv hlr
      go_enter Try.func17, Try.ntmps17
      go_wp2_with fail
      rw [← hW0]
      go_ret
      exact ⟨ret_bool (by rw [HN.out, Bool.and_false]), H.out.2.2.1⟩
  · have hn1 : ((vs.length : Int) != (vs'.length : Int)) = true := by rw [bne_iff_ne]; omega
    have HN := Lib.hid (show decide (vs = vs') = false from decide_eq_false fun e => hlv (congrArg List.length e))
    clear hlv
    go_enter Try.func17, Try.ntmps17
    go_wp2_with fail
    rw [← hW0]
    go_ret
    exact ⟨ret_bool (by rw [HN.out, Bool.false_and]), H.out.2.2.1⟩
end
end Go.Proofs.Ytdeiinfljfgmeaa
