/-
  slices.Compact at uint64, of a row of the call's own (printed by mkgalc.py out of my texts of the trie's seat).
-/
import Derived.Test.YtlndgjibefbddaaRows
import Derived.WalkKit
import Derived.WalkSpells
import Derived.WalkLawsBesides
import Derived.Deep.QuietTactic
import Derived.BigQuiet
import Derived.Outline
import Derived.Lib.SliceRun
import Derived.Laws.AppendOwnNone
import Derived.Deep.AppendLies
import Derived.RangeFuncBox
import Derived.Lib.Hide
import Derived.IntWalk
import Derived.WalkMore
import Derived.Test.YtlndgjibefbddaaBase
import Derived.Test.YtlndgjibefbddaaLib
namespace Go.Proofs.Ytlndgjibefbddaa.Cmp
open Go.RowKit
set_option linter.unusedVariables false

theorem wrap_i64 {x : Int} (h : -9223372036854775808 ≤ x) (h' : x ≤ 9223372036854775807) : IntKind.i64.wrap x = x := IntWalk.i64_in _ ⟨h, h'⟩
theorem cell_next {W W' : World} {p : Addr} {u : Value} (hb : Below W.heap.size W W') (h : W.cell? p = some u) : W'.cell? p = some u := (hb.cell (World.block_lt_of_cell? _ _ h)).trans h
theorem owns_drewN {w : World} {base : Nat} {e : TypeId} {size : Nat} {v : Value} {n : Nat} {xs : List Value} (h : w.ownsRow base e size v n xs) (m : Nat) : (w.drewN m).ownsRow base e size v n xs := h
theorem owns_above {w : World} {base : Nat} {e : TypeId} {size : Nat} {v : Value} {n : Nat} {xs : List Value} (h : w.ownsRow base e size v n xs) : ∀ k, v.ownBlock = some k → base ≤ k := fun k hk => (h.lt k hk).1
theorem owns_shape {w : World} {base : Nat} {e : TypeId} {size : Nat} {v : Value} {n : Nat} {xs : List Value} (h : w.ownsRow base e size v n xs) : ∃ a m c, v = .slice a m c ∧ Hid (m = n) := by
  rcases h.2 with ⟨rfl, rfl⟩ | ⟨g, cap, cur, rfl, _⟩
  · exact ⟨_, _, _, rfl, Lib.hid rfl⟩
  · exact ⟨_, _, _, rfl, Lib.hid rfl⟩
/-- The same with the length said. -/
theorem owns_shape2 {w : World} {base : Nat} {e : TypeId} {size : Nat} {v : Value} {n : Nat} {xs : List Value} (h : w.ownsRow base e size v n xs) : ∃ a c, v = .slice a n c := by
  rcases h.2 with ⟨rfl, rfl⟩ | ⟨g, cap, cur, rfl, _⟩
  · exact ⟨_, _, rfl⟩
  · exact ⟨_, _, rfl⟩
theorem owns_later {w w' : World} {base : Nat} {e : TypeId} {size : Nat} {v : Value} {n : Nat} {xs : List Value} (h : w.ownsRow base e size v n xs) (hb : Below w.heap.size w w') : w'.ownsRow base e size v n xs := by
  obtain ⟨h1, h2⟩ := h
  refine ⟨h1, ?_⟩
  rcases h2 with h2 | ⟨g, cap, cur, hv, hg, hh, r⟩
  · exact .inl h2
  · exact .inr ⟨g, cap, cur, hv, hg, by rw [hb.block g (lt_of_block hh)]; exact hh, r⟩
theorem owns_down {w : World} {base base' : Nat} {e : TypeId} {size : Nat} {v : Value} {n : Nat} {xs : List Value} (h : w.ownsRow base e size v n xs) (hb : base' ≤ base) : w.ownsRow base' e size v n xs := by
  obtain ⟨h1, h2⟩ := h
  refine ⟨h1, ?_⟩
  rcases h2 with h2 | ⟨g, cap, cur, hv, hg, r⟩
  · exact .inl h2
  · exact .inr ⟨g, cap, cur, hv, Nat.le_trans hb hg, r⟩
/-- A block of another type is not the row's own. -/
theorem own_ne {w : World} {base : Nat} {e e' : TypeId} {size : Nat} {v : Value} {n : Nat} {xs : List Value} {b : Nat} {cs : Array Value} {fr : Nat × Nat} (h : w.ownsRow base e size v n xs) (hb : w.heap[b]? = some (.cells cs e' fr)) (hne : e ≠ e') : some b ≠ v.ownBlock := by
  rcases h.2 with ⟨rfl, rfl⟩ | ⟨g, cap, cur, rfl, hg, hh, r⟩
  · simp [Value.ownBlock]
  · intro he
    simp [Value.ownBlock] at he
    subst he
    rw [hb] at hh
    cases hh
    exact hne rfl
/-- A block of another type stays where a row grows. -/
theorem box_grown {w w' : World} {base : Nat} {e e' : TypeId} {size : Nat} {v : Value} {n : Nat} {xs : List Value} {b : Nat} {cs : Array Value} {fr : Nat × Nat} (h : w.ownsRow base e size v n xs) (hg : w.grownBy w' v.ownBlock) (hb : w.heap[b]? = some (.cells cs e' fr)) (hne : e ≠ e') : w'.heap[b]? = some (.cells cs e' fr) :=
  (hg.block b (lt_of_block hb) (own_ne h hb hne)).trans hb
theorem box_cell {w : World} {b i : Nat} {cs : Array Value} {e : TypeId} {fr : Nat × Nat} (h : w.heap[b]? = some (.cells cs e fr)) : w.cell? ⟨b, i, none⟩ = cs[i]? := by simp [World.cell?, h]
theorem box_alloc {w : World} {b : Nat} {cs : Array Value} {e : TypeId} {fr : Nat × Nat} (h : w.heap[b]? = some (.cells cs e fr)) (o : Obj) : (w.alloc o).heap[b]? = some (.cells cs e fr) := by
  rw [(later_alloc w o).block b (lt_of_block h)]; exact h
theorem box_new (w : World) (cs : Array Value) (e : TypeId) : (w.alloc (.cells cs e)).heap[w.heap.size]? = some (.cells cs e (0, 0)) := by show (w.heap.push _)[w.heap.size]? = _; simp
theorem cells_new (w : World) (cs : List Value) (t : TypeId) (j : Nat) (u : Value) (h : cs[j]? = some u) : (w.alloc (.cells cs.toArray t)).cell? ((⟨w.heap.size, 0, none⟩ : Addr).add j) = some u := by
  rw [add_mk, Nat.zero_add, World.cell?_alloc_new]; simpa using h
/-- A row of the call's own, one of its cells set. -/
theorem owns_set {w : World} {base : Nat} {e : TypeId} {size g n cap : Nat} {xs : List Value} {j : Nat} (h : w.ownsRow base e size (.slice (some ⟨g, 0, none⟩) n cap) n xs) (u : Value) : (w.setCell ⟨g, j, none⟩ u).ownsRow base e size (.slice (some ⟨g, 0, none⟩) n cap) n (xs.set j u) := by
  obtain ⟨hl, h⟩ := h
  refine ⟨by rw [List.length_set]; exact hl, ?_⟩
  rcases h with ⟨h, _⟩ | ⟨g', cap', cur, hv, hg, hh, h1, h2, h3, h4⟩
  · cases h
  · cases hv
    refine Or.inr ⟨g, cap, cur.setIfInBounds j u, rfl, hg, ?_, h1, h2, by simp [h3], ?_⟩
    · exact heap_setCell_same w g j cur e u hh
    · rw [Array.toList_setIfInBounds, List.take_set, h4]
theorem owns_cell {w : World} {base : Nat} {e : TypeId} {size g n cap : Nat} {xs : List Value} {j : Nat} {u : Value} (h : w.ownsRow base e size (.slice (some ⟨g, 0, none⟩) n cap) n xs) (hj : xs[j]? = some u) : w.cell? ⟨g, j, none⟩ = some u ∧ w.frozen? ⟨g, j, none⟩ = false := by
  obtain ⟨hl, h⟩ := h
  rcases h with ⟨h, _⟩ | ⟨g', cap', cur, hv, hg, hh, h1, h2, h3, h4⟩
  · cases h
  · cases hv
    have hlt := (List.getElem?_eq_some_iff.1 hj).1
    refine ⟨?_, ?_⟩
    · rw [box_cell hh]
      rw [← h4, List.getElem?_take_of_lt (by omega)] at hj
      simpa using hj
    · simp [World.frozen?, hh]
theorem box_frozen {w : World} {b i : Nat} {cs : Array Value} {e : TypeId} (h : w.heap[b]? = some (.cells cs e (0, 0))) : w.frozen? ⟨b, i, none⟩ = false := by simp [World.frozen?, h]
theorem box_set {w : World} {b i : Nat} {cs : Array Value} {e : TypeId} (h : w.heap[b]? = some (.cells cs e (0, 0))) (v : Value) : (w.setCell ⟨b, i, none⟩ v).heap[b]? = some (.cells (cs.setIfInBounds i v) e (0, 0)) := heap_setCell_same w b i cs e v h
theorem box_other {w : World} {b b' i : Nat} {cs : Array Value} {e : TypeId} (h : w.heap[b]? = some (.cells cs e (0, 0))) (hne : b ≠ b') (v : Value) : (w.setCell ⟨b', i, none⟩ v).heap[b]? = some (.cells cs e (0, 0)) := (heap_setCell_other w _ b v hne).trans h
/-- Nobody's block is another type's. -/
theorem own_set {w : World} {base : Nat} {e e' : TypeId} {size : Nat} {v : Value} {n : Nat} {xs : List Value} {b i : Nat} {cs : Array Value} (h : w.ownsRow base e size v n xs) (hb : w.heap[b]? = some (.cells cs e' (0, 0))) (hne : e ≠ e') (u : Value) : (w.setCell ⟨b, i, none⟩ u).ownsRow base e size v n xs := ownsRow_setCell_other h (a := ⟨b, i, none⟩) (fun h' => own_ne h hb hne h'.symm) u
theorem owns_setCells {base : Nat} {e : TypeId} {size g n cap : Nat} : ∀ (vs : List Value) (o : Nat) (w : World) (xs : List Value), w.ownsRow base e size (.slice (some ⟨g, 0, none⟩) n cap) n xs →
    ∃ ys, (w.setCells g o vs).ownsRow base e size (.slice (some ⟨g, 0, none⟩) n cap) n ys ∧ ys.take o = xs.take o
  | [], o, w, xs, h => ⟨xs, h, rfl⟩
  | v :: r, o, w, xs, h => by
    obtain ⟨ys, h1, h2⟩ := owns_setCells r (o + 1) (w.setCell ⟨g, o, none⟩ v) (xs.set o v) (owns_set h v)
    refine ⟨ys, h1, ?_⟩
    have h3 := congrArg (List.take o) h2
    rw [List.take_take, List.take_take, Nat.min_eq_left (by omega)] at h3
    rw [h3, List.take_set]
    apply List.set_eq_of_length_le
    simp; omega
theorem below_cells {B g : Nat} (hg : B ≤ g) : ∀ (vs : List Value) (o : Nat) (w : World), Below B w (w.setCells g o vs)
  | [], _, w => Below.refl _ w
  | v :: r, o, w => ((Below.refl _ w).setCell (p := ⟨g, o, none⟩) hg v).trans (below_cells hg r (o + 1) _)
theorem owns_cut {w : World} {base : Nat} {e : TypeId} {size g n cap m : Nat} {xs : List Value} (h : w.ownsRow base e size (.slice (some ⟨g, 0, none⟩) n cap) n xs) (hm : m ≤ n) : w.ownsRow base e size (.slice (some ⟨g, 0, none⟩) m cap) m (xs.take (m * size)) := by
  obtain ⟨hl, h⟩ := h
  have hms := Nat.mul_le_mul_right size hm
  refine ⟨by rw [List.length_take, hl]; omega, ?_⟩
  rcases h with ⟨h, _⟩ | ⟨g', cap', cur, hv, hg, hh, h1, h2, h3, h4⟩
  · cases h
  · cases hv
    refine Or.inr ⟨g, cap, cur, rfl, hg, hh, by omega, h2, h3, ?_⟩
    rw [← h4, List.take_take, Nat.min_eq_left hms]

def onceTo (xs : List Int) : Nat → List Int
  | 0 => []
  | i + 1 => if i = 0 ∨ xs.getD (i - 1) 0 ≠ xs.getD i 0 then onceTo xs i ++ [xs.getD i 0] else onceTo xs i
theorem clear_ints {w : World} {base g n cap : Nat} {xs : List Value} (h : w.ownsRow base 34 1 (.slice (some ⟨g, 0, none⟩) n cap) n xs) {i : Nat} (hi : i < n) (c : Nat) :
    ∃ zs, ∀ ty : TypeId, (Builtin.clear_ #[27] ty #[.slice (some ⟨g, i, none⟩) (n - i) c]).run Try.prog w = .ok (.tuple #[]) (w.setCells g i zs) := by
  have ht := Try.underlying27
  have hv := Try.zeroValue34
  obtain ⟨zs, hzs⟩ : ∃ zs, (Builtin.zeroCells (Value.int .u64 0).cells (n - i)).toList = zs := ⟨_, rfl⟩
  have hzl : zs.length = n - i := by rw [← hzs]; simp [Builtin.zeroCells, Value.cells]
  have hz1 : ∀ v ∈ zs, v.oneCell' = true := by
    intro v hv'
    rw [← hzs] at hv'
    simp [Builtin.zeroCells, Value.cells] at hv'
    obtain ⟨k, hk, rfl⟩ := hv'
    rw [Nat.mod_one]
    rfl
  have hst := run_storeCells_cells (P := Try.prog) g i zs 0 w
    (fun j hj => by
      have hx : i + j < xs.length := by rw [h.1]; omega
      simp only [Nat.add_zero]
      rw [(owns_cell h (List.getElem?_eq_getElem hx)).1]; rfl)
    (fun j hj => by
      have hx : i + j < xs.length := by rw [h.1]; omega
      simp only [Nat.add_zero]
      exact (owns_cell h (List.getElem?_eq_getElem hx)).2) hz1
  simp only [Nat.add_zero] at hst
  obtain ⟨m, hm⟩ : ∃ m, n - i = m + 1 := ⟨n - i - 1, by omega⟩
  rw [hm] at hzs ⊢
  exact ⟨zs, fun ty => by simp [Builtin.clear_, run_underlying ht, hv, hzs, hst]⟩

theorem getD_int {l : List Int} {i : Nat} (h : i < l.length) : l.getD i 0 = l[i] := by simp [List.getD, List.getElem?_eq_getElem h]
theorem once_yes {xs : List Int} {i : Nat} (h : i = 0 ∨ xs.getD (i - 1) 0 ≠ xs.getD i 0) : onceTo xs (i + 1) = onceTo xs i ++ [xs.getD i 0] := by
  show (if _ then _ else _) = _
  rw [if_pos h]
theorem once_no {xs : List Int} {i : Nat} (h : xs.getD (i - 1) 0 = xs.getD i 0) (h0 : 0 < i) : onceTo xs (i + 1) = onceTo xs i := by
  show (if _ then _ else _) = _
  rw [if_neg]
  rintro (e | e)
  · omega
  · exact e h
theorem once_small {xs : List Int} (h : xs.length < 2) : onceTo xs xs.length = xs := by
  match xs, h with
  | [], _ => rfl
  | [x], _ => rfl

theorem ownsRow_pos1 {w : World} {base : Nat} {e : TypeId} {size : Nat} {v : Value} {n : Nat} {xs : List Value} (h : w.ownsRow base e size v n xs) (h0 : 0 < n) : ∃ g c, v = .slice (some ⟨g, 0, none⟩) n c := by
  rcases h.2 with ⟨rfl, rfl⟩ | ⟨g, cap, cur, rfl, _⟩
  · omega
  · exact ⟨_, _, rfl⟩

set_option maxRecDepth 100000 in
set_option maxHeartbeats 4000000 in
theorem compact_any (v : Value) (xs : List Int) (base : Nat) (w : World) (hown : w.ownsRow base 34 1 v xs.length (xs.map (.int .u64))) (hlen : xs.length ≤ 1048576) (hbase : base ≤ w.heap.size) :
    Calls Try.prog 29 #[v] w fun e w' => ∃ v', e = .returned v' ∧ w'.ownsRow base 34 1 v' (onceTo xs xs.length).length ((onceTo xs xs.length).map (.int .u64)) ∧ Below base w w' := by
  obtain ⟨a, c, rfl⟩ := owns_shape2 hown
  by_cases h2 : xs.length < 2
  · have h2d : decide ((xs.length : Int) < 2) = true := decide_eq_true (by omega)
    have h2n : decide (xs.length < 2) = true := decide_eq_true h2
    rw [once_small h2]
    have HO := Lib.hid hown
    clear hown
    go_enter Try.func29, Try.ntmps29
    go_wp2_with fail
    go_ret
    exact ⟨_, rfl, HO.out, Below.refl _ w⟩
  · obtain ⟨g, cap, hv⟩ := ownsRow_pos1 hown (by omega)
    obtain ⟨ha, hc⟩ : a = some ⟨g, 0, none⟩ ∧ c = cap := by cases hv; exact ⟨rfl, rfl⟩
    subst ha hc
    have hcl : xs.length ≤ c := by
      rcases hown.2 with ⟨h, _⟩ | ⟨g', cap', cur, hv, _, _, h1, h2, _⟩
      · cases h
      · cases hv; exact h1
    have hcm : c ≤ 9223372036854775807 := by
      rcases hown.2 with ⟨h, _⟩ | ⟨g', cap', cur, hv, _, _, h1, h2, _⟩
      · cases h
      · cases hv; simpa [maxLen] using h2
    have hgb := owns_above hown g rfl
    clear hv
    have HO := Lib.hid hown
    clear hown
    go_enter Try.func29, Try.ntmps29
    go_wp2_with fail
    go_loopw [3] (fun k wr => ∃ i : Nat, 1 ≤ i ∧ i ≤ xs.length ∧ k = .int .i64 i ∧ onceTo xs i = xs.take i ∧ ∃ n, wr = w.drewN n) (fun k _ => xs.length - (intOf k).toNat)
    case atStart => exact ⟨1, by omega, by omega, rfl, by (obtain ⟨x, r, rfl⟩ : ∃ x r, xs = x :: r := (by cases xs with | nil => simp at h2 | cons x r => exact ⟨_, _, rfl⟩)); rfl, 0, rfl⟩
    case round =>
      obtain ⟨i, hi1, hi2, rfl, honce, nd, rfl⟩ := hrel
      obtain ⟨m, rfl⟩ : ∃ m, i = m + 1 := ⟨i - 1, by omega⟩
      by_cases hlt : m + 1 < xs.length
      · have c1 : w.cell? ⟨g, m + 1, none⟩ = some (.int .u64 xs[m + 1]) := (owns_cell (j := m + 1) (u := .int .u64 xs[m + 1]) HO.out (by simp [hlt])).1
        have c0 : w.cell? ⟨g, m, none⟩ = some (.int .u64 (xs[m]'(by omega))) := (owns_cell (j := m) (u := .int .u64 (xs[m]'(by omega))) HO.out (by simp [show m < xs.length from by omega])).1
        obtain ⟨x1, hx1⟩ : ∃ x, xs[m + 1] = x := ⟨_, rfl⟩
        obtain ⟨x0, hx0⟩ : ∃ x, xs[m]'(by omega) = x := ⟨_, rfl⟩
        rw [hx1] at c1
        rw [hx0] at c0
        have hw : IntKind.i64.wrap (m : Int) = m := wrap_i64 (by omega) (by omega)
        have HHO := Lib.hid honce
        have HX1 := Lib.hid hx1
        have HX0 := Lib.hid hx0
        have hm1 : ((m + 1 : Nat) : Int) - 1 = (m : Int) := by omega
        clear honce hx1 hx0
        by_cases he : x1 = x0
        · have heb : (x1 == x0) = true := beq_iff_eq.2 he
          have hstart : onceTo xs (m + 1 + 1) = xs.take (m + 1) := by
            rw [once_no (by rw [Nat.add_sub_cancel, getD_int (by omega), getD_int (by omega), HX1.out, HX0.out]; exact he.symm) (by omega)]
            exact HHO.out
          have HST := Lib.hid hstart
          clear hstart HHO HX1 HX0
          go_wp2_with fail
          go_quiet (fail)
          obtain ⟨wd, hwd⟩ : ∃ wd, (w.drewN nd).drewN nq = wd := ⟨_, rfl⟩
          have HOD := Lib.hid (show wd.ownsRow base 34 1 (.slice (some ⟨g, 0, none⟩) xs.length c) xs.length (xs.map (.int .u64)) from by rw [← hwd]; exact HO.out)
          have hbd : Below base w wd := by rw [← hwd]; exact ((later_trans (later_drewN w nd) (later_drewN _ nq))).mono hbase
          rw [hwd]
          clear hwd c1 c0
          go_wp2_with fail
          go_loopw [3, 5] (fun iv kv wr => ∃ (i q : Nat) (row : List Int), i < m + 1 + (q + 1) ∧ m + 1 + (q + 1) ≤ xs.length ∧ iv = .int .i64 i ∧ kv = .int .i64 ((q + 1 : Nat) : Int) ∧ row.length = xs.length ∧ row.take i = onceTo xs (m + 1 + (q + 1)) ∧ (∀ j, m + 1 + q ≤ j → (hj : j < xs.length) → row[j]? = some xs[j]) ∧
            wr.ownsRow base 34 1 (.slice (some ⟨g, 0, none⟩) xs.length c) xs.length (row.map (.int .u64)) ∧ Below base w wr) (fun _ kv _ => xs.length - (intOf kv).toNat)
          case atStart => exact ⟨m + 1, 0, xs, by omega, by omega, by go_num, rfl, rfl, HST.out.symm, fun j h1 h2 => List.getElem?_eq_getElem h2, HOD.out, hbd⟩
          case round =>
            obtain ⟨i, q, row, hiq, hqn, rfl, rfl, hrl, hrt, hrd, hownr, hbr⟩ := hrel
            by_cases hlt2 : m + 1 + (q + 1) < xs.length
            · have r1 := hrd (m + 1 + (q + 1)) (by omega) hlt2
              have r0 := hrd (m + 1 + q) (by omega) (by omega)
              have d1 : wr.cell? ⟨g, m + 1 + (q + 1), none⟩ = some (.int .u64 xs[m + 1 + (q + 1)]) := (owns_cell (j := m + 1 + (q + 1)) hownr (by rw [List.getElem?_map, r1]; rfl)).1
              have d0 : wr.cell? ⟨g, m + 1 + q, none⟩ = some (.int .u64 (xs[m + 1 + q]'(by omega))) := (owns_cell (j := m + 1 + q) hownr (by rw [List.getElem?_map, r0]; rfl)).1
              obtain ⟨y1, hy1⟩ : ∃ y, xs[m + 1 + (q + 1)] = y := ⟨_, rfl⟩
              obtain ⟨y0, hy0⟩ : ∃ y, xs[m + 1 + q]'(by omega) = y := ⟨_, rfl⟩
              rw [hy1] at d1
              rw [hy0] at d0
              have hw1 : IntKind.i64.wrap (q : Int) = q := wrap_i64 (by omega) (by omega)
              have hm2 : ((q + 1 : Nat) : Int) - 1 = (q : Int) := by omega
              obtain ⟨ei, hei⟩ : ∃ u, (row.map (Value.int .u64))[i]? = some u := ⟨_, List.getElem?_eq_getElem (by simp; omega)⟩
              obtain ⟨s0, z0⟩ := owns_cell (j := i) hownr hei
              have hil : i < xs.length := by omega
              clear hei
              have HRT := Lib.hid hrt
              have HRD := Lib.hid hrd
              have HOR := Lib.hid hownr
              have HY1 := Lib.hid hy1
              have HY0 := Lib.hid hy0
              have hbs' := Nat.le_trans hbase hbr.size
              clear hrt hrd hownr hy1 hy0 r1 r0
              by_cases hee : y1 = y0
              · have hne : (y1 != y0) = false := by simp [hee]
                go_wp2_with fail
                go_quiet (fail)
                go_wp2_with fail
                go_roundw
                case rel =>
                  refine ⟨i, q + 1, row, by omega, by omega, rfl, by go_num, hrl, ?_, fun j h1 h2 => HRD.out j (by omega) h2, owns_drewN HOR.out _, hbr.trans ((later_drewN wr _).mono hbs')⟩
                  show _ = onceTo xs (m + 1 + (q + 1) + 1)
                  rw [HRT.out, once_no (i := m + 1 + (q + 1)) (by rw [show m + 1 + (q + 1) - 1 = m + 1 + q from by omega, getD_int (by omega), getD_int hlt2, HY1.out, HY0.out]; exact hee.symm) (by omega)]
                case measure => simp [intOf]; omega
              · have hne : (y1 != y0) = true := by simp [hee]
                go_wp2_with fail
                go_quiet (fail)
                go_wp2_with fail
                go_roundw
                case rel =>
                  refine ⟨i + 1, q + 1, row.set i y1, by omega, by omega, by go_num, by go_num, by simpa using hrl, ?_, fun j h1 h2 => ?_, ?_, (hbr.trans ((later_drewN wr _).mono hbs')).setCell (p := ⟨g, i, none⟩) hgb _⟩
                  · show _ = onceTo xs (m + 1 + (q + 1) + 1)
                    rw [once_yes (i := m + 1 + (q + 1)) (.inr (by rw [show m + 1 + (q + 1) - 1 = m + 1 + q from by omega, getD_int (by omega), getD_int hlt2, HY1.out, HY0.out]; exact fun e => hee e.symm)), getD_int hlt2, HY1.out, ← HRT.out, List.take_succ_eq_append_getElem (by simp; omega), List.take_set]
                    congr 1
                    · apply List.set_eq_of_length_le; simp; omega
                    · simp
                  · rw [List.getElem?_set_ne (by omega)]; exact HRD.out j (by omega) h2
                  · rw [List.map_set]
                    exact owns_set (owns_drewN HOR.out _) _
                case measure => simp [intOf]; omega
            · have hfin : m + 1 + (q + 1) = xs.length := by omega
              obtain ⟨zs, hzs⟩ := clear_ints hownr (i := i) (by omega) (c - i)
              have hil : i < xs.length := by omega
              have hic : i ≤ c := by omega
              have hsub : (xs.length : Int) - (i : Int) = ((xs.length - i : Nat) : Int) := by omega
              rw [hfin] at hrt
              have hfl : (onceTo xs xs.length).length = i := by rw [← hrt]; simp; omega
              have HRT := Lib.hid hrt
              have HFL := Lib.hid hfl
              have HOR := Lib.hid hownr
              clear hrt hfl hrd hownr hfin
              go_wp2_with fail
              go_ret
              obtain ⟨ys, hown5, hys⟩ := owns_setCells zs i wr (row.map (.int .u64)) HOR.out
              have h6 := owns_cut (m := i) hown5 (by omega)
              rw [Nat.mul_one, hys, ← List.map_take, HRT.out] at h6
              exact ⟨_, rfl, by rw [HFL.out]; exact h6, hbr.trans (below_cells hgb _ _ _)⟩
        · have heb : (x1 == x0) = false := beq_eq_false_iff_ne.2 he
          go_wp2_with fail
          go_quiet (fail)
          go_wp2_with fail
          go_roundw
          case rel =>
            refine ⟨m + 1 + 1, by omega, by omega, by go_num, ?_, nd + nq, rfl⟩
            rw [once_yes (.inr (by rw [Nat.add_sub_cancel, getD_int (by omega), getD_int (by omega), HX1.out, HX0.out]; exact fun e => he e.symm)), HHO.out, getD_int hlt, ← List.take_succ_eq_append_getElem hlt]
          case measure => simp [intOf]; omega
      · have hml : m + 1 = xs.length := by omega
        have hx : onceTo xs xs.length = xs := by rw [← hml, honce, hml, List.take_of_length_le (Nat.le_refl _)]
        have HHX := Lib.hid hx
        clear hx honce
        go_wp2_with fail
        go_ret
        rw [HHX.out]
        exact ⟨_, rfl, HO.out, (later_drewN w _).mono hbase⟩


end Go.Proofs.Ytlndgjibefbddaa.Cmp
