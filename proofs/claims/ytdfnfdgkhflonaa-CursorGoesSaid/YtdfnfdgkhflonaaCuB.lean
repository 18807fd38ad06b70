/-
  The cursor's moves next, up, open, seek, walked.
-/
import Derived.Test.YtdfnfdgkhflonaaCuA
import Derived.Test.YtdfnfdgkhflonaaCuG2
namespace Go.Proofs.Ytdfnfdgkhflonaa
open Go.RowKit
set_option linter.unusedVariables false

/-- What a move of a cursor at block c writes: its variable, its rows' block; new rows lie in a new block. -/
structure Turn (w w' : World) (c : Nat) (rv rv' : Value) : Prop where
  os : w'.os = w.os
  tape : w'.tape = w.tape
  output : w'.output = w.output
  size : w.heap.size ≤ w'.heap.size
  block : ∀ b, b < w.heap.size → b ≠ c → some b ≠ rv.ownBlock → w'.heap[b]? = w.heap[b]?
  rows : rv'.ownBlock = rv.ownBlock ∨ ∀ b, rv'.ownBlock = some b → w.heap.size ≤ b
theorem Turn.of_below {w w' : World} (h : Below w.heap.size w w') (c : Nat) (rv : Value) : Turn w w' c rv rv := ⟨h.os, h.tape, h.output, h.size, fun b hb _ _ => h.block b hb, .inl rfl⟩
theorem Turn.trans {w w' w'' : World} {c : Nat} {rv rv' rv'' : Value} (h : Turn w w' c rv rv') (k : Turn w' w'' c rv' rv'') : Turn w w'' c rv rv'' := by
  refine ⟨k.os.trans h.os, k.tape.trans h.tape, k.output.trans h.output, Nat.le_trans h.size k.size, fun b hb hc hr => ?_, ?_⟩
  · refine (k.block b (Nat.lt_of_lt_of_le hb h.size) hc (fun e => ?_)).trans (h.block b hb hc hr)
    rcases h.rows with h1 | h1
    · exact hr (e.trans h1)
    · have := h1 b e.symm; omega
  · rcases k.rows with k1 | k1
    · rcases h.rows with h1 | h1
      · exact .inl (k1.trans h1)
      · exact .inr fun b hb => h1 b (k1 ▸ hb)
    · exact .inr fun b hb => Nat.le_trans h.size (k1 b hb)
theorem Turn.setBox (w : World) (c i : Nat) (rv : Value) (u : Value) : Turn w (w.setCell ⟨c, i, none⟩ u) c rv rv :=
  ⟨rfl, rfl, rfl, by simp, fun b hb hc _ => Below.heap_setCell w ⟨c, i, none⟩ u b hc, .inl rfl⟩
theorem Turn.setRow (w : World) (c g i n cap : Nat) (u : Value) : Turn w (w.setCell ⟨g, i, none⟩ u) c (.slice (some ⟨g, 0, none⟩) n cap) (.slice (some ⟨g, 0, none⟩) n cap) :=
  ⟨rfl, rfl, rfl, by simp, fun b hb _ hr => Below.heap_setCell w ⟨g, i, none⟩ u b (fun e => hr (by rw [e]; rfl)), .inl rfl⟩
theorem Turn.drewN (w : World) (n c : Nat) (rv : Value) : Turn w (w.drewN n) c rv rv := .of_below (later_drewN w n) c rv
theorem Turn.recut {w w' : World} {c : Nat} {rv rv' rv'' : Value} (h : Turn w w' c rv rv') (e : rv''.ownBlock = rv'.ownBlock) : Turn w w' c rv rv'' := ⟨h.os, h.tape, h.output, h.size, h.block, by rw [e]; exact h.rows⟩

theorem cu_cut {w : World} {base : Nat} {e : TypeId} {size g n cap m : Nat} {xs : List Value} (h : w.ownsRow base e size (.slice (some ⟨g, 0, none⟩) n cap) n xs) (hm : m ≤ n) : w.ownsRow base e size (.slice (some ⟨g, 0, none⟩) m cap) m (xs.take (m * size)) := by
  obtain ⟨hl, h⟩ := h
  have hms := Nat.mul_le_mul_right size hm
  refine ⟨by rw [List.length_take, hl]; omega, ?_⟩
  rcases h with ⟨h, _⟩ | ⟨g', cap', cur, hv, hg, hh, h1, h2, h3, h4⟩
  · cases h
  · cases hv
    refine Or.inr ⟨g, cap, cur, rfl, hg, hh, by omega, h2, h3, ?_⟩
    rw [← h4, List.take_take, Nat.min_eq_left hms]

theorem CuS.setSteps {w : World} {c N : Nat} {rv : Value} {st : Int} {kv bv lv : Value} {rs : List (Value × Int)} (h : CuS w c N rv st kv bv lv rs) (s : Int) : CuS (w.setCell ⟨c, 1, none⟩ (.int .i64 s)) c N rv s kv bv lv rs :=
  ⟨by simpa using box_set (i := 1) h.box (.int .i64 s), h.low, by simpa using h.size, own_set h.own h.box (by decide) _⟩
theorem CuS.setRows {w : World} {c N : Nat} {rv rv' : Value} {st : Int} {kv bv lv : Value} {rs rs' : List (Value × Int)} (h : CuS w c N rv st kv bv lv rs) (ho : w.ownsRow N 112 2 rv' rs'.length (rowCells rs')) : CuS (w.setCell ⟨c, 0, none⟩ rv') c N rv' st kv bv lv rs' :=
  ⟨by simpa using box_set (i := 0) h.box rv', h.low, by simpa using h.size, own_set ho h.box (by decide) _⟩
theorem CuS.setLast {w : World} {c N g m cap k : Nat} {st : Int} {kv bv lv : Value} {rs : List (Value × Int)} {v : Value} {a : Int} (h : CuS w c N (.slice (some ⟨g, 0, none⟩) m cap) st kv bv lv (rs ++ [(v, a)])) (hk : rs.length = k) (b : Int) :
    CuS (w.setCell ⟨g, k * 2 + 1, none⟩ (.int .i64 b)) c N (.slice (some ⟨g, 0, none⟩) m cap) st kv bv lv (rs ++ [(v, b)]) := by
  have hl := h.own.lt g rfl
  have h0 := h.low
  have hne : c ≠ g := by omega
  obtain ⟨a', cap', he⟩ := owns_shape2 h.own
  cases he
  refine ⟨box_other h.box hne _, h.low, by simpa using h.size, ?_⟩
  have e : rowCells (rs ++ [(v, b)]) = (rowCells (rs ++ [(v, a)])).set (k * 2 + 1) (.int .i64 b) := by
    have h1 := rowCells_len rs
    rw [rowCells_snoc, rowCells_snoc, List.set_append_right _ _ (by omega), h1, hk]
    simp
  have e2 : (rs ++ [(v, b)]).length = (rs ++ [(v, a)]).length := by simp
  rw [e, e2]
  exact owns_set h.own _
theorem CuS.cutLast {w : World} {c N g cap k : Nat} {st : Int} {kv bv lv : Value} {rs : List (Value × Int)} {x : Value × Int} (h : CuS w c N (.slice (some ⟨g, 0, none⟩) (k + 1) cap) st kv bv lv (rs ++ [x])) (hk : rs.length = k) :
    CuS (w.setCell ⟨c, 0, none⟩ (.slice (some ⟨g, 0, none⟩) k cap)) c N (.slice (some ⟨g, 0, none⟩) k cap) st kv bv lv rs := by
  refine h.setRows ?_
  have ho := h.own
  have hl : (rs ++ [x]).length = k + 1 := by simp [hk]
  rw [hl] at ho
  have h2 := cu_cut ho (Nat.le_succ k)
  have e : (rowCells (rs ++ [x])).take (k * 2) = rowCells rs := by
    have h1 := rowCells_len rs
    rw [rowCells_snoc, List.take_append_of_le_length (by omega), List.take_of_length_le (by omega)]
  rw [e] at h2
  rw [hk]
  exact h2

set_option maxHeartbeats 1000000 in
/-- next, where there is one. -/
theorem next_ok {w : World} {c N : Nat} {rv : Value} {st : Int} {kv bv lv : Value} {rs : List (Value × Int)} {ka : Option Addr} {len kc : Nat} {a key : Int} (h : CuS w c N rv st kv bv lv (rs ++ [(.slice ka len kc, a)])) (hr : rs.length < 2)
    (ha : a < len) (ha0 : 0 ≤ a) (hlen : len ≤ maxLen) (hs0 : 0 ≤ st) (hs : st ≤ 4611686018427387904) :
    Calls Try.prog 74 #[.pointer (some ⟨c, 0, none⟩), .int .u64 key] w fun e w' => e = .returned (.tuple #[]) ∧ CuS w' c N rv (st + 1) kv bv lv (rs ++ [(.slice ka len kc, a + 1)]) ∧ Turn w w' c rv rv := by
  obtain ⟨k, hk⟩ : ∃ k, rs.length = k := ⟨_, rfl⟩
  obtain ⟨g, cap, rfl, hN, hg, hc0, hc1, hf, hcap, hcm⟩ := h.last hk
  obtain ⟨b0, b1, b2, b3, b4, bf⟩ := h.cells
  have hlow := h.low
  have hne : g ≠ c := by omega
  have hO := fun W h h1 h2 => on_ok c g k cap len kc ka a W (by omega) h h1 h2 ha
  have hfar : ∀ u, (w.setCell ⟨g, k * 2 + 1, none⟩ u).cell? ⟨c, 1, none⟩ = some (.int .i64 st) := fun u => by rw [World.cell?_setCell_other _ _ _ _ (by simp)]; exact b1
  have hfarf : ∀ u, (w.setCell ⟨g, k * 2 + 1, none⟩ u).frozen? ⟨c, 1, none⟩ = false := fun u => by rw [World.frozen?_setCell]; exact bf 1
  have hf1 := hf (k * 2 + 1)
  have hf2 := bf 1
  have hm : len ≤ 9223372036854775807 := hlen
  have H := Lib.hid h
  clear h hf bf hlen hcm
  go_enter Try.func74, Try.ntmps74
  go_wp2_with (go_at_call 107; refine (hO _ b0 hc0 hc1).mono ?_; rintro e w' ⟨rfl, n, rfl⟩)
  go_wp2
  go_end0
  have h1 := ((H.out.drewN n).setLast hk (a + 1))
  exact ⟨rfl, h1.setSteps _, ((Turn.drewN w n c _).trans (Turn.setRow _ _ _ _ _ _ _)).trans (Turn.setBox _ _ _ _ _)⟩

set_option maxHeartbeats 1000000 in
theorem up_ok {w : World} {c N : Nat} {rv : Value} {st : Int} {kv bv lv : Value} {rs : List (Value × Int)} {v : Value} {a key : Int} (h : CuS w c N rv st kv bv lv (rs ++ [(v, a)])) (hr : rs.length < 2) :
    Calls Try.prog 72 #[.pointer (some ⟨c, 0, none⟩), .int .u64 key] w fun e w' => e = .returned (.tuple #[]) ∧ ∃ rv', CuS w' c N rv' st kv bv lv rs ∧ Turn w w' c rv rv' := by
  obtain ⟨k, hk⟩ : ∃ k, rs.length = k := ⟨_, rfl⟩
  obtain ⟨g, cap, rfl, hN, hg, hc0, hc1, hf, hcap, hcm⟩ := h.last hk
  obtain ⟨b0, b1, b2, b3, b4, bf⟩ := h.cells
  have hT := fun W h => top_ok c g k cap W (by omega) h
  have hf2 := bf 0
  have e1 : (k : Int) + 1 - 1 = k := by omega
  have hle : (k : Int) ≤ cap := by omega
  have hle2 : k ≤ cap := by omega
  have hcz : ¬ cap = 0 := by omega
  have hk2 : IntKind.i64.wrap (k : Int) = k := wrap_i64 (by omega) (by omega)
  have hm : cap ≤ 9223372036854775807 := hcm
  have H := Lib.hid h
  clear h hf bf hcm hc0 hc1
  go_enter Try.func72, Try.ntmps72
  go_wp2_with (go_at_call 71; refine (hT _ b0).mono ?_; rintro e w' ⟨rfl, n, rfl⟩)
  go_region
  all_goals (try go_wp2)
  trace_state
  go_end0
  exact ⟨rfl, _, ((H.out.drewN n).drewN 1).cutLast hk, (((Turn.drewN w n c _).trans (Turn.drewN _ 1 c _)).trans (Turn.setBox _ _ _ _ _)).recut rfl⟩
end Go.Proofs.Ytdfnfdgkhflonaa
