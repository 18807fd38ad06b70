/-
  hashed.Join, walked.
-/
import Derived.Test.YtdeiinfljfgmeaaHaJrow
namespace Go.Proofs.Ytdeiinfljfgmeaa
open Go.RowKit Go.Shelf Go.BigFrame Go.Maps
set_option linter.unusedVariables false
set_option linter.unusedSimpArgs false
attribute [local go_sem] Oper.semAt_some

def joinP (o : List Int) (p : List Int × List Int) : List Int := p.1 ++ cellsL p.2 o
def joinL (A B : Rl) : Rl := ⟨A.vars ++ aloneL A B, ofL ((matchL A B).map (joinP (placesL B.vars (aloneL A B))))⟩
/-- What the answer is. -/
structure JoinR (A B : Rl) (base : Nat) (w' : World) (v1 v2 : Value) (no : Int) : Prop where
  wrong : (rightB A && rightB B) = false → no = 350 ∧ v1 = .slice none 0 0 ∧ v2 = .slice none 0 0
  ok : rightB A = true → rightB B = true → no = 0 ∧ OwnRl base w' v1 v2 (joinL A B)
theorem cells_keep {T n0 : Nat} {U V : World} (h : KeepT T n0 U V) (h0 : ownT T U = none) : ∀ (b : Nat) (cs : Array Value) (e : TypeId) (fr : Nat × Nat), U.heap[b]? = some (.cells cs e fr) → b ≠ T → V.heap[b]? = some (.cells cs e fr) := fun b cs e fr hb hne => h.box h0 hb hne
/-- What the range keeps. -/
def JnI {A B : Rl} (w0 Ws : World) (T : Nat) (o : List Int) (pre : List (Pair w0 A B)) (V : World) : Prop :=
  ∃ v ps, V.heap[T]? = some (.cells #[v] 23 (0, 0)) ∧ JRows w0 Ws.heap.size V v ps ∧ ps.map Prod.snd = pre.map (fun p => joinP o (prP p)) ∧ Below w0.heap.size w0 V ∧ Ws.heap.size ≤ V.heap.size ∧
    (∀ (b : Nat) (cs : Array Value) (e : TypeId) (fr : Nat × Nat), Ws.heap[b]? = some (.cells cs e fr) → b ≠ T → V.heap[b]? = some (.cells cs e fr))
theorem jnI_kept {A B : Rl} {w0 Ws : World} {T D : Nat} {o : List Int} (hD : w0.heap.size ≤ D) : OwnFrom D (JnI (A := A) (B := B) w0 Ws T o) := by
  rintro pre U V row ⟨v, ps, h1, h2, h3, h4, h5, h6⟩ hg hr
  exact ⟨v, ps, box_kept h1 hg hr, ⟨ownsRow_kept h2.own hg hr, fun p hp => (h2.rows p hp).imp id fun q => ⟨ownsRow_kept q.1 hg hr, q.2⟩⟩, h3, ownFrom_below (Nat.le_refl _) hD () U V row h4 hg hr, Nat.le_trans h5 hg.size, fun b cs e fr hb hne => box_kept (h6 b cs e fr hb hne) hg hr⟩
theorem jnI_later {A B : Rl} {w0 Ws U V : World} {T : Nat} {o : List Int} {pre : List (Pair w0 A B)} (h : JnI w0 Ws T o pre U) (hb : Below U.heap.size U V) : JnI w0 Ws T o pre V := by
  obtain ⟨v, ps, h1, h2, h3, h4, h5, h6⟩ := h
  exact ⟨v, ps, kept hb h1, h2.later hb, h3, later_trans h4 hb, Nat.le_trans h5 hb.size, fun b cs e fr hq hne => kept hb (h6 b cs e fr hq hne)⟩
theorem jnI_keep {A B : Rl} {w0 Ws : World} {T : Nat} {o : List Int} {pre : List (Pair w0 A B)} {V : World} (h : JnI w0 Ws T o pre V) {base : Nat} {e t : TypeId} {size n : Nat} {u v : Value} {xs : List Value} (ho : Ws.ownsRow base e size v n xs) (hT : Ws.heap[T]? = some (.cells #[u] t (0, 0))) (hne : e ≠ t) : V.ownsRow base e size v n xs := by
  obtain ⟨_, _, -, -, -, -, -, h6⟩ := h
  obtain ⟨h1, h2⟩ := ho
  refine ⟨h1, ?_⟩
  rcases h2 with h2 | ⟨g, cap, cur, hv, hb, hh, r⟩
  · exact .inl h2
  · exact .inr ⟨g, cap, cur, hv, hb, h6 _ _ _ _ hh (fun q => hne (by
      subst q
      rw [hh] at hT
      cases hT
      rfl)), r⟩

theorem OwnRl.setE {base : Nat} {W : World} {vv rv : Value} {R : Rl} (h : OwnRl base W vv rv R) {X i : Nat} {a : Value} (hX : W.heap[X]? = some (.cells #[a] 31 (0, 0))) (u : Value) : OwnRl base (W.setCell ⟨X, i, none⟩ u) vv rv R := by
  obtain ⟨ps, h1, h2⟩ := h.rows
  exact ⟨own_set h.vars hX (by decide) u, h.wf, ps, ⟨own_set h1.own hX (by decide) u, fun p hp => ⟨own_set (h1.rows p hp).1 hX (by decide) u, (h1.rows p hp).2⟩⟩, h2⟩
theorem OwnRl.put {base D : Nat} {W : World} {vv rv : Value} {R : Rl} {o o' : Obj} (h : OwnRl base W vv rv R) (hD : W.heap[D]? = some o) (ho : o.isCells = false) : OwnRl base (W.putObj D o') vv rv R := by
  obtain ⟨ps, h1, h2⟩ := h.rows
  have hg := grownBy_putObj' W D o'
  have hr : ∀ r, some D = some r → 0 ≤ r ∧ ∃ o : Obj, W.heap[r]? = some o ∧ o.isCells = false := fun r e => by cases e; exact ⟨Nat.zero_le _, o, hD, ho⟩
  exact ⟨ownsRow_kept h.vars hg hr, h.wf, ps, ⟨ownsRow_kept h1.own hg hr, fun p hp => ⟨ownsRow_kept (h1.rows p hp).1 hg hr, (h1.rows p hp).2⟩⟩, h2⟩
theorem matchL_mem {A B : Rl} {p : List Int × List Int} (h : p ∈ matchL A B) : p.1 ∈ A.rows ∧ p.2 ∈ B.rows := by
  unfold matchL mateL at h
  obtain ⟨x, hx, h2⟩ := List.mem_flatMap.1 h
  obtain ⟨y, hy, rfl⟩ := List.mem_map.1 h2
  exact ⟨hx, (List.mem_filter.1 hy).1⟩
theorem idxI_at {xs : List Int} {x : Int} (h : x ∈ xs) : ∃ i : Nat, idxI xs x = i ∧ ∃ hi : i < xs.length, xs[i] = x := by
  refine ⟨xs.idxOf x, by unfold idxI; rw [if_pos h], List.idxOf_lt_length_of_mem h, List.getElem_idxOf _⟩
set_option maxRecDepth 100000 in
set_option maxHeartbeats 4000000 in
theorem Join_any (va ra vb rb : Value) (A B : Rl) (w : World) (hA : RlR w va ra A) (hB : RlR w vb rb B) (hv : A.vars.length + B.vars.length ≤ 64) (hr : A.rows.length * B.rows.length ≤ 1048575) :
    Calls Try.prog 21 #[relV va ra, relV vb rb] w fun e w' => Below w.heap.size w w' ∧ ∃ v1 v2 no, e = .returned (.tuple #[relV v1 v2, .int .i64 no]) ∧ JoinR A B w.heap.size w' v1 v2 no := by
  obtain ⟨i0, hi, hz0, hz1, hz2⟩ := info_parts info_rowU
  obtain ⟨j0, hj, jz0, jz1, jz2⟩ := info_parts info_int
  obtain ⟨W0, hW0⟩ : ∃ W, W = (((w.alloc (.cells #[va, ra] 25)).alloc (.cells #[vb, rb] 25)).alloc (.cells #[.slice none 0 0, .slice none 0 0] 25)).alloc (.cells #[.int .i64 0] 31) := ⟨_, rfl⟩
  have s0 : W0.heap.size = w.heap.size + 1 + 1 + 1 + 1 := by rw [hW0]; simp
  have b0 : Below w.heap.size w W0 := by rw [hW0]; exact later_trans (later_trans (later_trans (later_alloc _ _) (later_alloc _ _)) (later_alloc _ _)) (later_alloc _ _)
  have bA : RB W0 w.heap.size va ra := by rw [hW0]; exact box_alloc (box_alloc (box_alloc (box_new _ _ _) _) _) _
  have bB : RB W0 (w.heap.size + 1) vb rb := by
    rw [hW0]
    have h := box_new (w.alloc (.cells #[va, ra] 25)) #[vb, rb] 25
    rw [World.size_alloc] at h
    exact box_alloc (box_alloc h _) _
  have bR : RB W0 (w.heap.size + 1 + 1) (.slice none 0 0) (.slice none 0 0) := by
    rw [hW0]
    have h := box_new ((w.alloc (.cells #[va, ra] 25)).alloc (.cells #[vb, rb] 25)) #[.slice none 0 0, .slice none 0 0] 25
    rw [World.size_alloc, World.size_alloc] at h
    exact box_alloc h _
  have bE : W0.heap[w.heap.size + 1 + 1 + 1]? = some (.cells #[.int .i64 0] 31 (0, 0)) := by
    rw [hW0]
    have h := box_new (((w.alloc (.cells #[va, ra] 25)).alloc (.cells #[vb, rb] 25)).alloc (.cells #[.slice none 0 0, .slice none 0 0] 25)) #[.int .i64 0] 31
    rw [World.size_alloc, World.size_alloc, World.size_alloc] at h
    exact h
  have HC1 := Lib.hid (check2_any va ra vb rb A B W0 (hA.later b0) (hB.later b0))
  obtain ⟨x0, x1, -⟩ := two_of2 bA
  obtain ⟨y0, y1, -⟩ := two_of2 bB
  obtain ⟨a1, c1, e1, -⟩ := hA.vars.open
  obtain ⟨a2, c2, e2, -⟩ := hA.rows.open
  obtain ⟨a3, c3, e3, -⟩ := hB.vars.open
  obtain ⟨a4, c4, e4, -⟩ := hB.rows.open
  subst e1 e2 e3 e4
  have H0 := Lib.hid (And.intro hA (And.intro hB (And.intro bA (And.intro bB (And.intro bR (And.intro bE (And.intro b0 s0)))))))
  obtain ⟨rab, hra⟩ : ∃ b, (rightB A && rightB B) = b := ⟨_, rfl⟩
  clear bA bB bR bE b0 s0 hA hB
  refine (callsIn_wide (n := 6)).1 ?_
  refine callsIn_of_wp_marks Try.func21 rfl trivial ?_ rfl
  simp only [Try.ntmps21, List.size_toArray, List.length_cons, List.length_nil, Nat.reduceAdd, Nat.reduceSub, Array.replicate_succ, Array.replicate_zero, List.push_toArray, List.append_toArray, List.nil_append, List.cons_append]
  refine wpIn_wide.2 ?_
  go_wp2_with fail
  rw [← hW0]
  clear hW0
  refine HC1.out.mono ?_
  rintro e W1 ⟨no, rfl, hno, b1⟩
  rw [hra] at hno
  have HRA := Lib.hid hra
  have HV := Lib.hid (And.intro hv hr)
  clear hra hv hr
  have HX1 := Lib.hid (And.intro (kept b1 H0.out.2.2.1) (And.intro (kept b1 H0.out.2.2.2.1) (And.intro (kept b1 H0.out.2.2.2.2.1) (And.intro (kept b1 H0.out.2.2.2.2.2.1) (later_trans H0.out.2.2.2.2.2.2.1 b1)))))
  have s1 := b1.size
  clear x0 x1 y0 y1 b1
  cases rab with
  | false =>
    have hn' : no = 350 := by simpa using hno
    clear hno
    subst hn'
    obtain ⟨x0, x1, lX⟩ := two_of2 HX1.out.2.2.1
    have fX0 := box_frozen (i := 0) HX1.out.2.2.1
    have fX1 := box_frozen (i := 1) HX1.out.2.2.1
    have z0 := box_cell (i := 0) HX1.out.2.2.2.1
    have fZ := box_frozen (i := 0) HX1.out.2.2.2.1
    have lZ := lt_of_block HX1.out.2.2.2.1
    simp at z0
    have hb3 := box_set (i := 1) (box_set (i := 0) HX1.out.2.2.1 (.slice none 0 0)) (.slice none 0 0)
    have hz3 := box_set (i := 0) (box_other (i := 1) (box_other (i := 0) HX1.out.2.2.2.1 (show w.heap.size + 1 + 1 + 1 ≠ w.heap.size + 1 + 1 by omega) (.slice none 0 0)) (show w.heap.size + 1 + 1 + 1 ≠ w.heap.size + 1 + 1 by omega) (.slice none 0 0)) (.int .i64 350)
    have hb4 := box_other (i := 0) hb3 (show w.heap.size + 1 + 1 ≠ w.heap.size + 1 + 1 + 1 by omega) (.int .i64 350)
    have d0 := box_cell (i := 0) hb4
    have d1 := box_cell (i := 1) hb4
    have dz := box_cell (i := 0) hz3
    simp at d0 d1 dz
    have hB' := below_set (i := 0) (u := .int .i64 350) (below_set (i := 1) (u := .slice none 0 0) (below_set (i := 0) (u := .slice none 0 0) HX1.out.2.2.2.2 (show w.heap.size ≤ w.heap.size + 1 + 1 by omega)) (show w.heap.size ≤ w.heap.size + 1 + 1 by omega)) (show w.heap.size ≤ w.heap.size + 1 + 1 + 1 by omega)
    have HB' := Lib.hid hB'
    clear hB' hb3 hz3 hb4
    go_wp2_with fail
    refine ⟨.tuple #[relV (.slice none 0 0) (.slice none 0 0), .int .i64 350], by simp [results, Try.results21, go_sem, d0, d1, dz], ?_⟩
    exact ⟨HB'.out, _, _, 350, rfl, ⟨fun _ => ⟨rfl, rfl, rfl⟩, fun h1 h2 => by have := HRA.out; rw [h1, h2] at this; cases this⟩⟩
  | true =>
    have hn' : no = 0 := by simpa using hno
    clear hno
    subst hn'
    have hrA : rightB A = true ∧ rightB B = true := by simpa using HRA.out
    obtain ⟨hwA, hvA, hlA⟩ := rightB_at hrA.1
    obtain ⟨hwB, hvB, hlB⟩ := rightB_at hrA.2
    obtain ⟨x0, x1, -⟩ := two_of2 HX1.out.1
    obtain ⟨y0, y1, -⟩ := two_of2 HX1.out.2.1
    have b1w := HX1.out.2.2.2.2
    have HCm := Lib.hid (common_any (.slice a1 A.vars.length c1) (.slice a2 A.rows.length c2) (.slice a3 B.vars.length c3) (.slice a4 B.rows.length c4) A B W1 (H0.out.1.later b1w) (H0.out.2.1.later b1w) (by omega) (by omega))
    have hlone : (aloneL A B).length ≤ B.vars.length := List.length_filter_le _ _
    obtain ⟨N, hN⟩ : ∃ N, (aloneL A B).length = N := ⟨_, rfl⟩
    have hPB : ∀ x ∈ placesL B.vars (aloneL A B), 0 ≤ x ∧ x < B.vars.length := placesL_in (hasL_sub fun x hx => (List.mem_filter.1 hx).1)
    obtain ⟨O, hO⟩ : ∃ O, placesL B.vars (aloneL A B) = O := ⟨_, rfl⟩
    rw [hO] at HCm hPB
    rw [hN] at HCm hlone
    have hOl : O.length = N := by rw [← hO, placesL, List.length_map, hN]
    have HR := Lib.hid (And.intro hrA (And.intro hwA (And.intro hvA (And.intro hlA (And.intro hwB (And.intro hvB (And.intro hlB (And.intro hlone (And.intro hPB (And.intro hO (And.intro hOl hN)))))))))))
    have hNl : N ≤ 64 := by omega
    clear hrA hwA hvA hlA hwB hvB hlB b1w hlone hPB hO hOl hN
    go_wp2_with fail
    refine HCm.out.mono ?_
    rintro e W2 ⟨pv, qv, ov, rfl, op, oq, oo, b2⟩
    have x0' := cell_next b2 x0
    have x1' := cell_next b2 x1
    have y0' := cell_next b2 y0
    have y1' := cell_next b2 y1
    obtain ⟨ao, co, rfl⟩ := owns_shape2 oo
    obtain ⟨W3, hW3⟩ : ∃ W, W = W2.alloc (.cells #[.slice ao N co] 22) := ⟨_, rfl⟩
    have b3 : Below W2.heap.size W2 W3 := by rw [hW3]; exact later_alloc _ _
    have s3 : W3.heap.size = W2.heap.size + 1 := by rw [hW3, World.size_alloc]
    have hT9 : W3.heap[W2.heap.size]? = some (.cells #[.slice ao N co] 22 (0, 0)) := by rw [hW3]; exact box_new _ _ _
    have bA3 := kept b3 (kept b2 HX1.out.1)
    have bB3 := kept b3 (kept b2 HX1.out.2.1)
    have bw3 := later_trans (later_trans HX1.out.2.2.2.2 b2) b3
    have lA := lt_of_block (kept b2 HX1.out.1)
    have lB := lt_of_block (kept b2 HX1.out.2.1)
    have lZ3 := lt_of_block (kept b2 HX1.out.2.2.2.1)
    have HCl := Lib.hid (cloneI_any (.slice a1 A.vars.length c1) A.vars W3 (SlI.later H0.out.1.vars bw3) (by have := HR.out.2.2.1; omega))
    have H3 := Lib.hid (And.intro (owns_later oo b3) (And.intro hT9 (And.intro bA3 (And.intro bB3 (And.intro bw3 (And.intro (kept b3 (kept b2 HX1.out.2.2.1)) (And.intro (kept b3 (kept b2 HX1.out.2.2.2.1)) lZ3)))))))
    have s2 := b2.size
    clear x0 x1 y0 y1 op oq oo b2 b3 hT9 bA3 bB3 bw3 lZ3
    go_wp2_with fail
    rw [← hW3]
    clear hW3 x0' x1' y0' y1' lA lB
    refine HCl.out.mono ?_
    rintro e W4 ⟨v4, rfl, o4, b4⟩
    have hT94 := kept b4 H3.out.2.1
    have t9 := box_cell (i := 0) hT94
    have l9 := lt_of_block hT94
    obtain ⟨av4, cv4, rfl⟩ := owns_shape2 o4
    have H4 := Lib.hid (And.intro o4 (And.intro hT94 b4))
    simp at t9
    clear o4 hT94 b4
    go_wp2_with fail
    go_loopw [10, 35] (fun v i wr => ∃ k : Nat, k ≤ N ∧ i = .int .i64 k ∧ wr.ownsRow W3.heap.size 3 1 v (A.vars.length + k) ((A.vars ++ (aloneL A B).take k).map (.int .i64)) ∧ Below W3.heap.size W3 wr) (fun _ i _ => N - (intOf i).toNat)
    case atStart => exact ⟨0, Nat.zero_le _, rfl, by simpa using H4.out.1, H4.out.2.2⟩
    case round =>
      obtain ⟨k, hk, rfl, hO, hb⟩ := hrel
      by_cases hlt : k < N
      · have hwfO : ∀ x ∈ O, (Lit.int .i64 x).wf = true := fun x hx => WalkArith.wf_i64 ⟨by have := (HR.out.2.2.2.2.2.2.2.2.1 x hx).1; omega, by have := (HR.out.2.2.2.2.2.2.2.2.1 x hx).2; have := HR.out.2.2.2.2.2.1; omega⟩
        have hao := SlI.of_owns (owns_later H3.out.1 hb) hwfO
        have hON := HR.out.2.2.2.2.2.2.2.2.2.2.1
        obtain ⟨_, _, e1, _, _, _, g4⟩ := hao.open
        obtain ⟨be, oe, e2, _, gc⟩ := g4 (by omega)
        have co1 := gc k (by omega)
        injection e1 with e1a e1b e1c
        subst e1a
        subst e2
        have hkl : k < (aloneL A B).length := by rw [HR.out.2.2.2.2.2.2.2.2.2.2.2]; exact hlt
        obtain ⟨z, hz⟩ : ∃ z, (aloneL A B)[k] = z := ⟨_, rfl⟩
        have hzB : z ∈ B.vars := by rw [← hz]; exact (List.mem_filter.1 (List.getElem_mem hkl)).1
        obtain ⟨m, hm, hml, hmz⟩ := idxI_at hzB
        have hOk : O[k]'(by omega) = (m : Int) := by
          have : ∀ (O' : List Int) (h : k < O'.length), placesL B.vars (aloneL A B) = O' → O'[k] = (m : Int) := fun O' h e => by
            subst e
            simp only [placesL, List.getElem_map, hz, hm]
          exact this O _ HR.out.2.2.2.2.2.2.2.2.2.1
        rw [hOk] at co1
        have bwr := later_trans H3.out.2.2.2.2.1 hb
        obtain ⟨_, _, f1, _, _, _, f4⟩ := (SlI.later H0.out.2.1.vars bwr).open
        obtain ⟨bf, of, f2, _, fc⟩ := f4 (by omega)
        have cf1 := fc m hml
        rw [hmz] at cf1
        injection f1 with f1a f1b f1c
        subst f1a
        subst f2
        obtain ⟨y0, y1, -⟩ := two_of2 (kept hb H3.out.2.2.2.1)
        have lyr := lt_of_block (kept hb H3.out.2.2.2.1)
        have hst : (A.vars ++ (aloneL A B).take (k + 1)).map (Value.int .i64) = (A.vars ++ (aloneL A B).take k).map (Value.int .i64) ++ [.int .i64 z] := by
          rw [List.take_succ_eq_append_getElem hkl, hz, ← List.append_assoc, List.map_append]
          rfl
        obtain ⟨av, cv, rfl⟩ := owns_shape2 hO
        have hsz := hb.size
        have hA64 := HR.out.2.2.1
        have HO := Lib.hid (And.intro hO (And.intro hb (And.intro hlt hst)))
        clear gc g4 fc f4 e1b e1c f1b f1c hao hwfO hON hkl hz hzB hm hOk bwr hst hb
        go_wp2_with (at_builtin; refine wpList_append_own _ rfl (.tmp 39) (.tmp 45) 22 rfl W3.heap.size 3 j0 _ 1 8 Try.underlying22 hj jz0 jz1 jz2 rfl (by decide) _ _ _ rfl (hO.alloc _) ⟨wr.heap.size, 0, none⟩ 1 1 [.int .i64 z] rfl rfl (cells_new _ _ _) (by simp [Value.oneCell']) (by unfold maxLen; omega) (by omega) (by simp; omega) ?_; intro v6 w6 hown6 hgrow6 _; obtain ⟨g6, cap6, rfl⟩ := ownsRow_succ hown6)
        have hB6 : Below W3.heap.size W3 w6 := (later_trans HO.out.2.1 (later_alloc wr _)).grown hgrow6 (by simp; omega) (fun j e => owns_above HO.out.1 j e)
        have HN := Lib.hid (And.intro (show w6.ownsRow W3.heap.size 3 1 (.slice (some ⟨g6, 0, none⟩) (A.vars.length + k + 1) cap6) (A.vars.length + (k + 1)) ((A.vars ++ (aloneL A B).take (k + 1)).map (.int .i64)) by rw [HO.out.2.2.2]; exact hown6) hB6)
        clear hO hown6 hgrow6 hB6
        go_roundw
        case rel => exact ⟨k + 1, HO.out.2.2.1, by go_num, HN.out.1, HN.out.2⟩
        case measure => simp [intOf]; have := HO.out.2.2.1; omega
      · obtain rfl : k = N := by omega
        obtain ⟨av, cv, rfl⟩ := owns_shape2 hO
        obtain ⟨W6, hW6⟩ : ∃ W, W = wr.alloc (.cells #[.slice none 0 0] 23) := ⟨_, rfl⟩
        have b6 : Below wr.heap.size wr W6 := by rw [hW6]; exact later_alloc _ _
        have s6 : W6.heap.size = wr.heap.size + 1 := by rw [hW6, World.size_alloc]
        have hT6 : W6.heap[wr.heap.size]? = some (.cells #[.slice none 0 0] 23 (0, 0)) := by rw [hW6]; exact box_new _ _ _
        have b36 := later_trans hb b6
        have bA6 := kept b36 H3.out.2.2.1
        have bB6 := kept b36 H3.out.2.2.2.1
        obtain ⟨x0, x1, -⟩ := two_of2 (kept hb H3.out.2.2.1)
        obtain ⟨y0, y1, -⟩ := two_of2 (kept hb H3.out.2.2.2.1)
        have HF := Lib.hid (fun W => matchesF_any (.slice a1 A.vars.length c1) (.slice a2 A.rows.length c2) (.slice a3 B.vars.length c3) (.slice a4 B.rows.length c4) W ⟨_, _, _, rfl⟩ ⟨_, _, _, rfl⟩ ⟨_, _, _, rfl⟩ ⟨_, _, _, rfl⟩)
        have hgt : ¬ (64 : Int) < (A.vars.length : Int) + (k : Int) := by have := HV.out.1; have := HR.out.2.2.2.2.2.2.2.1; omega
        have l9r := lt_of_block (kept hb H3.out.2.1)
        have lw1 := lt_of_block (kept hb H3.out.2.2.1)
        have lw2 := lt_of_block (kept hb H3.out.2.2.2.1)
        have H6 := Lib.hid (And.intro hT6 (And.intro b36 (And.intro (owns_later hO b6) (And.intro s6 (And.intro lw1 lw2)))))
        clear hT6 bA6 bB6 b36 hO b6 hb
        go_wp2_with fail
        rw [← hW6]
        refine (HF.out W6).mono ?_
        rintro e Ws ⟨rfl, hWs⟩
        have bs : Below W6.heap.size W6 Ws := by rw [hWs]; exact later_trans (later_alloc _ _) (later_alloc _ _)
        have ss : Ws.heap.size = wr.heap.size + 1 + 1 + 1 := by rw [hWs, World.size_alloc, World.size_alloc, H6.out.2.2.2.1]
        have bXA : RB Ws (wr.heap.size + 1) (.slice a1 A.vars.length c1) (.slice a2 A.rows.length c2) := by
          rw [hWs, ← H6.out.2.2.2.1]
          exact box_alloc (box_new _ _ _) _
        have bXB : RB Ws (wr.heap.size + 1 + 1) (.slice a3 B.vars.length c3) (.slice a4 B.rows.length c4) := by
          rw [hWs, ← H6.out.2.2.2.1]
          have h := box_new (W6.alloc (.cells #[.slice a1 A.vars.length c1, .slice a2 A.rows.length c2] 25)) #[.slice a3 B.vars.length c3, .slice a4 B.rows.length c4] 25
          rw [World.size_alloc] at h
          exact h
        obtain ⟨T, hT⟩ : ∃ T, wr.heap.size = T := ⟨_, rfl⟩
        rw [H6.out.2.2.2.1, hT]
        rw [hT] at bXA bXB ss l9r
        have hTs : Ws.heap[T]? = some (.cells #[.slice none 0 0] 23 (0, 0)) := by rw [← hT]; exact kept bs H6.out.1
        have bsw : Below w.heap.size w Ws := later_trans (later_trans H3.out.2.2.2.2.1 H6.out.2.1) bs
        have HT0 : Hid (w.heap.size ≤ T) := Lib.hid (by rw [← hT]; exact Nat.le_of_lt lw1)
        have hseq := matches_seq 5 (by omega) (w0 := w) (w := Ws) (X := T + 1) (T := T) H0.out.1 H0.out.2.1 bsw bXA bXB hTs HT0.out (by omega) HR.out.2.1 HR.out.2.2.2.2.1 HR.out.2.2.1 HR.out.2.2.2.2.2.1 HR.out.2.2.2.1 HR.out.2.2.2.2.2.2.1
        have oTs : ownT T Ws = none := ownT_box hTs
        have HS := Lib.hid (And.intro bs (And.intro hTs (And.intro bsw (And.intro oTs (And.intro ss l9r)))))
        clear x0 x1 y0 y1 hWs bXA bXB bs hTs oTs
        go_wp2_with fail
        refine (wpIn_wide (n := 6)).1 ?_
        refine wpIn_range_stops (by omega) (gf := 68) (lb := #[.pointer (some ⟨T + 1, 0, none⟩), .pointer (some ⟨T + 1 + 1, 0, none⟩)]) rfl (enters_of Try.func68 (by kernel_rfl) rfl)
          hseq (fun U V hC b => ⟨fun st hs => kept hC hs, fun d hs => kept hC hs⟩) (fun h q => KeepT.trans h q) (fun V l o o' hl ho hc hw' => KeepT.put bsw.size (by have := HS.out.2.2.2.2.1; omega) V l o o' hl ho hc hw')
          (Below.refl _ _) (fun _ => rfl) (JnI w Ws T O) (fun _ _ _ => False) (jnI_kept bsw.size) (fun c => fun _ _ _ _ h => h.elim) (fun _ _ _ _ _ _ _ => trivial)
          (fun s U V hI hC => jnI_later hI hC)
          ⟨_, [], HS.out.2.1, ⟨World.ownsRow_nil _ _ _ _, fun p hp => by cases hp⟩, rfl, bsw, Nat.le_refl _, fun _ _ _ _ h _ => h⟩
          (fun p a' V => a' = { tmps := #[relV (.slice a1 A.vars.length c1) (.slice a2 A.rows.length c2), relV (.slice a3 B.vars.length c3) (.slice a4 B.rows.length c4), .pointer (some ⟨w.heap.size, 0, none⟩), .pointer (some ⟨w.heap.size + 1, 0, none⟩), .pointer (some ⟨w.heap.size + 1 + 1, 0, none⟩), .pointer (some ⟨w.heap.size + 1 + 1 + 1, 0, none⟩), .int .i64 0, pv, qv, .pointer (some ⟨W2.heap.size, 0, none⟩), .slice av (A.vars.length + k) cv, undef, u12, .pointer (some ⟨T, 0, none⟩), p.xv, p.yv, .agg #[.slice a1 A.vars.length c1, .slice a2 A.rows.length c2], .agg #[.slice a3 B.vars.length c3, .slice a4 B.rows.length c4], .int .i64 0, .int .i64 0, .bool false, undef, undef, .tuple #[pv, qv, .slice ao k co], .agg #[.slice a1 A.vars.length c1, .slice a2 A.rows.length c2], .agg #[.slice a3 B.vars.length c3, .slice a4 B.rows.length c4], .tuple #[pv, qv, .slice ao k co], pv, qv, .slice ao k co, .pointer (some ⟨w.heap.size, 0, none⟩), .slice a1 A.vars.length c1, .slice av4 A.vars.length cv4, .slice ao k co, .int .i64 (k : Int), .int .i64 (k : Int), .bool false, u37, u38, u39, u40, u41, u42, u43, u44, u45, u46, u47, .slice av (A.vars.length + k) cv, .int .i64 ((A.vars.length : Int) + (k : Int)), .bool false, undef, .agg #[.slice a1 A.vars.length c1, .slice a2 A.rows.length c2], .agg #[.slice a3 B.vars.length c3, .slice a4 B.rows.length c4], .func (.func 68) #[] #[.pointer (some ⟨T + 1, 0, none⟩), .pointer (some ⟨T + 1 + 1, 0, none⟩)], p.xv, p.yv, undef, undef, undef, undef, undef, undef, undef, undef, undef, undef, undef, undef, undef, undef, undef, undef, undef, undef, undef, undef, undef, undef], defers := [] })
          (fun x a' => fun _ _ _ row h hg hr => h) ?assign ?body ?done (fun D c pre V hD hS hx hd => hx.elim)
        case assign =>
          intro l pre p V KQ hI hK
          obtain ⟨xv, yv, x, y, hx, hy, mx, my⟩ := p
          obtain ⟨ax, cx, rfl, -⟩ := hx.open
          obtain ⟨ay, cy, rfl, -⟩ := hy.open
          simp only [encP]
          gi_wp2
          exact hK _ _ (keeps_later (later_refl V) _) ⟨Below.refl _ _, fun b o hb _ _ _ => hb, .inl rfl⟩ hI rfl
        case body =>
          rintro l pre p a' V hl hI rfl hpl
          obtain ⟨v, ps, h1, h2, h3, h4, h5, h6⟩ := id hI
          obtain ⟨xv, yv, x, y, hx, hy, mx, my⟩ := p
          obtain ⟨ax, cx, rfl, hxk, -⟩ := hx.open
          obtain ⟨ay, cy, rfl, -⟩ := hy.open
          obtain ⟨avv, cvv, rfl⟩ := owns_shape2 h2.own
          have hpsl : ps.length = pre.length := by simpa using congrArg List.length h3
          have hp20 : ps.length ≤ 1048575 := by have := HV.out.2; omega
          have hne : ((ps.length : Int) == 1048576) = false := by rw [beq_eq_false_iff_ne]; omega
          have t0 := box_cell (i := 0) h1
          have f0 := box_frozen (i := 0) h1
          have lT := lt_of_block h1
          simp at t0
          have hT9V := h6 _ _ _ _ (kept HS.out.1 (kept H6.out.2.1 H3.out.2.1)) (by have := HS.out.2.2.2.2.2; omega)
          have t9V := box_cell (i := 0) hT9V
          have l9V := lt_of_block hT9V
          simp at t9V
          have hox : Below w.heap.size w V := h4
          have HCc : Hid (∀ W, Below V.heap.size V W → Calls Try.prog 39 #[.slice ay y.length cy, .slice ao k co] W fun e w' => ∃ v', e = .returned v' ∧ w'.ownsRow V.heap.size 38 1 v' k ((cellsL y O).map (.int .u64)) ∧ Below V.heap.size V w') := Lib.hid (fun W hb' => by
            have hao := jnI_keep hI (owns_later (owns_later H3.out.1 H6.out.2.1) HS.out.1) HS.out.2.1 (by decide)
            have hc := cells_any (.slice ay y.length cy) (.slice ao k co) y O W (SlI.later hy (later_trans hox hb')) (SlI.later (SlI.of_owns hao (fun z hz => WalkArith.wf_i64 ⟨by have := (HR.out.2.2.2.2.2.2.2.2.1 z hz).1; omega, by have := (HR.out.2.2.2.2.2.2.2.2.1 z hz).2; have := HR.out.2.2.2.2.2.1; omega⟩)) hb') (by rw [HR.out.2.2.2.2.2.2.2.2.2.2.1]; omega) (fun z hz => by rw [HR.out.2.2.2.2.1 y my]; exact HR.out.2.2.2.2.2.2.2.2.1 z hz)
            refine hc.mono ?_
            rintro e w' ⟨v', rfl, ho, hb2⟩
            rw [HR.out.2.2.2.2.2.2.2.2.2.2.1] at ho
            exact ⟨v', rfl, owns_down ho hb'.size, later_trans hb' hb2⟩)
          have HTF : Hid (∀ W, Below V.heap.size V W → W.cell? ⟨T, 0, none⟩ = some (.slice avv ps.length cvv) ∧ W.frozen? ⟨T, 0, none⟩ = false ∧ T < W.heap.size) := Lib.hid (fun W hb' => by
            have h9 := kept hb' h1
            exact ⟨by simpa using box_cell (i := 0) h9, box_frozen (i := 0) h9, lt_of_block h9⟩)
          have HTB : Hid (∀ W, Below V.heap.size V W → W.heap[T]? = some (.cells #[.slice avv ps.length cvv] 23 (0, 0))) := Lib.hid (fun W hb' => kept hb' h1)
          have HRow := Lib.hid h2.own
          have HVs := Lib.hid h5
          have HXY : Hid (SlI .u64 w (.slice ax x.length cx) x ∧ (∀ W, Below V.heap.size V W → Below w.heap.size w W) ∧ k = (cellsL y O).length ∧ (∀ z ∈ cellsL y O, (Lit.int .u64 z).wf = true) ∧ x.length + (cellsL y O).length ≤ 1048576) := Lib.hid (by
            have hcl : (cellsL y O).length = k := by rw [cellsL, List.length_map]; exact HR.out.2.2.2.2.2.2.2.2.2.2.1
            refine ⟨hx, fun W hb' => later_trans hox hb', hcl.symm, fun z hz => ?_, by rw [hcl, HR.out.2.1 x mx]; have := HR.out.2.2.1; omega⟩
            obtain ⟨i, hi, rfl⟩ := List.mem_map.1 hz
            have hir := HR.out.2.2.2.2.2.2.2.2.1 i hi
            have hil : i.toNat < y.length := by rw [HR.out.2.2.2.2.1 y my]; omega
            rw [getD_at hil]
            exact hy.2 _ (List.getElem_mem hil))
          have HFin : Hid (∀ (w7 w6 : World) (u : Value) (g6 cap6 : Nat), Below V.heap.size V w7 → JRow w V.heap.size w7 u (x ++ cellsL y O) → w6.ownsRow Ws.heap.size 26 1 (.slice (some ⟨g6, 0, none⟩) (ps.length + 1) cap6) (ps.length + 1) (ps.map Prod.fst ++ [u]) →
            (w7.alloc (.cells #[u] 26)).grownBy w6 (Value.slice avv ps.length cvv).ownBlock → ((Value.slice avv ps.length cvv).ownBlock = some g6 ∨ g6 = (w7.alloc (.cells #[u] 26)).heap.size) → ∀ a, ownPostG Ws.heap.size (KeepT T w.heap.size) (JnI w Ws T O) (fun _ _ _ => False) (pre ++ [⟨.slice ax x.length cx, .slice ay y.length cy, x, y, hx, hy, mx, my⟩]) V .normal a (w6.setCell ⟨T, 0, none⟩ (.slice (some ⟨g6, 0, none⟩) (ps.length + 1) cap6))) := Lib.hid (fun w7 w6 u g6 cap6 hb7 hr7 hown6 hgrow6 hat6 a => by
            obtain ⟨q1, q2, q3, q4⟩ := JRows.next (n0 := w.heap.size) h2 h1 hb7 (lt_of_block HS.out.2.1) h5 HT0.out (hr7.down h5) hown6 hgrow6 hat6
            refine ⟨q4.from _, q3, ⟨_, _, q1, q2, by rw [List.map_append, h3, List.map_append]; rfl, h4.trans q3.bel, Nat.le_trans h5 (Nat.le_trans hb7.size (by have := hgrow6.size; simp at this ⊢; omega)), fun b cs e fr hb hne => q3.keep b _ (h6 b cs e fr hb hne) (.inl rfl) hne (fun q => ?_)⟩⟩
            rw [ownT_box h1] at q
            have := owns_above h2.own _ q
            have := lt_of_block hb
            omega)
          obtain ⟨Pp, hPp⟩ : ∃ Pp : Pair w A B, Pp = ⟨.slice ax x.length cx, .slice ay y.length cy, x, y, hx, hy, mx, my⟩ := ⟨_, rfl⟩
          dsimp only
          clear hpsl h2 h3 h4 h5 h6 h1 hT9V hox hI
          gi_wp2
          refine wpIn_region_round (by kernel_rfl) (by kernel_rfl) ?hLL ?_
          case hLL => rintro ⟨_, _, h⟩; exact h
          -- [R
          refine wpAny_take (i := 1) (v := ?v1) rfl (by kernel_rfl) (by kernel_rfl) (by kernel_rfl) (fun _ _ _ h => h) (Or.inl ⟨by rfl, ?hy1⟩) ?rest1
          case hy1 => (intro w; go_simp; try (with_reducible rfl))
          try simp only [Act.put, List.setIfInBounds_toArray, List.set_cons_zero, List.set_cons_succ, List.getElem_toArray, List.getElem_cons_zero, List.getElem_cons_succ]
          refine wpAny_take (i := 2) (v := ?v2) rfl (by kernel_rfl) (by kernel_rfl) (by kernel_rfl) (fun _ _ _ h => h) (Or.inl ⟨by rfl, ?hy2⟩) ?rest2
          case hy2 => (intro w; go_simp; try (with_reducible rfl))
          try simp only [Act.put, List.setIfInBounds_toArray, List.set_cons_zero, List.set_cons_succ, List.getElem_toArray, List.getElem_cons_zero, List.getElem_cons_succ]
          refine wpAny_take (i := 3) (v := ?v3) rfl (by kernel_rfl) (by kernel_rfl) (by kernel_rfl) (fun _ _ _ h => h) (Or.inl ⟨by rfl, ?hy3⟩) ?rest3
          case hy3 => (intro w; go_simp; try (with_reducible rfl))
          try simp only [Act.put, List.setIfInBounds_toArray, List.set_cons_zero, List.set_cons_succ, List.getElem_toArray, List.getElem_cons_zero, List.getElem_cons_succ]
          refine wpAny_take (i := 4) (v := ?v4) rfl (by kernel_rfl) (by kernel_rfl) (by kernel_rfl) (fun _ _ _ h => h) (Or.inl ⟨by rfl, ?hy4⟩) ?rest4
          case hy4 => (intro w; go_simp; try (with_reducible rfl))
          try simp only [Act.put, List.setIfInBounds_toArray, List.set_cons_zero, List.set_cons_succ, List.getElem_toArray, List.getElem_cons_zero, List.getElem_cons_succ]
          refine wpAny_take (i := 5) (v := ?v5) rfl (by kernel_rfl) (by kernel_rfl) (by kernel_rfl) (fun _ _ _ h => h) (Or.inl ⟨by rfl, ?hy5⟩) ?rest5
          case hy5 => (intro w; go_simp; try (with_reducible rfl))
          try simp only [Act.put, List.setIfInBounds_toArray, List.set_cons_zero, List.set_cons_succ, List.getElem_toArray, List.getElem_cons_zero, List.getElem_cons_succ]
          refine wpAny_take (i := 6) (v := ?v6) rfl (by kernel_rfl) (by kernel_rfl) (by kernel_rfl) (fun _ _ _ h => h) (Or.inl ⟨by rfl, ?hy6⟩) ?rest6
          case hy6 => (intro w; go_simp; try (with_reducible rfl))
          try simp only [Act.put, List.setIfInBounds_toArray, List.set_cons_zero, List.set_cons_succ, List.getElem_toArray, List.getElem_cons_zero, List.getElem_cons_succ]
          refine wpAny_take (i := 7) (v := ?v7) rfl (by kernel_rfl) (by kernel_rfl) (by kernel_rfl) (fun _ _ _ h => h) (Or.inl ⟨by rfl, ?hy7⟩) ?rest7
          case hy7 => (intro w; go_simp; try (with_reducible rfl))
          try simp only [Act.put, List.setIfInBounds_toArray, List.set_cons_zero, List.set_cons_succ, List.getElem_toArray, List.getElem_cons_zero, List.getElem_cons_succ]
          refine wpAny_ready (rs := [0, 8]) (by kernel_rfl) (by simp) ?_
          refine AllReady.cons rfl (fun K hK => ?_) (AllReady.cons rfl (fun K hK => ?_) AllReady.nil)
          · go_simp
            refine hK _ _ ?_
            clear hK K
            refine wpAny_ready (rs := [8]) (by kernel_rfl) (by simp) ?_
            refine AllReady.cons rfl (fun K hK => ?_) AllReady.nil
            go_simp
            refine hK _ _ ?_
            clear hK K
            refine wpAny_ready (rs := [9]) (by kernel_rfl) (by simp) ?_
            refine AllReady.cons rfl (fun K hK => ?_) AllReady.nil
            go_simp
            refine (HCc.out _ (later_drew _)).mono ?_
            rintro e wC ⟨vc, rfl, hoC, hbC⟩
            obtain ⟨t0C, f0C, lTC⟩ := HTF.out wC hbC
            have HRC := Lib.hid (And.intro hoC hbC)
            clear hoC hbC
            refine hK _ _ ?_
            clear hK K
            refine wpAny_ready (rs := [10]) (by kernel_rfl) (by simp) ?_
            refine AllReady.cons rfl (fun K hK => ?_) AllReady.nil
            refine step_append_shut rfl (.tmp 67) (.tmp 70) rfl (cx := cx) (x := x) (y := cellsL y O) rfl rfl HXY.out.1 (HXY.out.2.1 _ HRC.out.2) (HXY.out.2.2.1 ▸ HRC.out.1) HXY.out.2.2.2.1 HXY.out.2.2.2.2 ?_
            intro a7 c7 w7 hJ7 hb7
            obtain ⟨t07, f07, lT7⟩ := HTF.out w7 (later_trans HRC.out.2 hb7)
            have HR7 := Lib.hid (And.intro hJ7 (And.intro (later_trans HRC.out.2 hb7) (owns_later HRow.out (later_trans (later_trans HRC.out.2 hb7) (later_alloc w7 (.cells #[.slice a7 (x.length + (cellsL y O).length) c7] 26))))))
            have hz7 := Nat.le_trans HVs.out (later_trans HRC.out.2 hb7).size
            clear hJ7 hb7
            go_simp
            refine hK _ _ ?_
            clear hK K
            refine wpAny_ready (rs := [11]) (by kernel_rfl) (by simp) ?_
            refine AllReady.cons rfl (fun K hK => ?_) AllReady.nil
            go_simp
            refine hK _ _ ?_
            clear hK K
            refine wpAny_ready (rs := [12]) (by kernel_rfl) (by simp) ?_
            refine AllReady.cons rfl (fun K hK => ?_) AllReady.nil
            refine step_append_lies _ rfl (.tmp 61) (.tmp 72) 23 rfl Ws.heap.size 26 i0 _ 1 24 Try.underlying23 hi hz0 hz1 hz2 rfl (by decide) (.slice avv ps.length cvv) ps.length _ rfl HR7.out.2.2 ⟨w7.heap.size, 0, none⟩ 1 1 [.slice a7 (x.length + (cellsL y O).length) c7] rfl rfl (cells_new _ _ _) (by simp [Value.oneCell']) (by omega) (by unfold maxLen; omega) (by omega) (by simp; omega) _ rfl ?_
            intro g6 cap6 w6 hown6 hgrow6 hat6 hlt6
            have hT6 := box_grown HR7.out.2.2 hgrow6 (HTB.out _ (later_trans HR7.out.2.1 (later_alloc w7 _))) (by decide)
            have t06 := box_cell (i := 0) hT6
            have f06 := box_frozen (i := 0) hT6
            have lT6 := lt_of_block hT6
            simp at t06
            have HF6 := Lib.hid (HFin.out w7 w6 _ g6 cap6 HR7.out.2.1 (HR7.out.1.down HRC.out.2.size) hown6 hgrow6 hat6)
            clear hT6 hown6 hgrow6 hat6 hlt6
            go_simp
            refine hK _ _ ?_
            clear hK K
            refine wpAny_ready (rs := [13]) (by kernel_rfl) (by simp) ?_
            refine AllReady.cons rfl (fun K hK => ?_) AllReady.nil
            go_simp
            refine hK _ _ ?_
            clear hK K
            refine wpAny_done (by kernel_rfl) ?_ _
            exact HF6.out { tmps := #[], defers := [] }
          · go_simp
            refine hK _ _ ?_
            clear hK K
            refine wpAny_ready (rs := [0, 9]) (by kernel_rfl) (by simp) ?_
            refine AllReady.cons rfl (fun K hK => ?_) (AllReady.cons rfl (fun K hK => ?_) AllReady.nil)
            · go_simp
              refine hK _ _ ?_
              clear hK K
              refine wpAny_ready (rs := [9]) (by kernel_rfl) (by simp) ?_
              refine AllReady.cons rfl (fun K hK => ?_) AllReady.nil
              go_simp
              refine (HCc.out _ (later_drew _)).mono ?_
              rintro e wC ⟨vc, rfl, hoC, hbC⟩
              obtain ⟨t0C, f0C, lTC⟩ := HTF.out wC hbC
              have HRC := Lib.hid (And.intro hoC hbC)
              clear hoC hbC
              refine hK _ _ ?_
              clear hK K
              refine wpAny_ready (rs := [10]) (by kernel_rfl) (by simp) ?_
              refine AllReady.cons rfl (fun K hK => ?_) AllReady.nil
              refine step_append_shut rfl (.tmp 67) (.tmp 70) rfl (cx := cx) (x := x) (y := cellsL y O) rfl rfl HXY.out.1 (HXY.out.2.1 _ HRC.out.2) (HXY.out.2.2.1 ▸ HRC.out.1) HXY.out.2.2.2.1 HXY.out.2.2.2.2 ?_
              intro a7 c7 w7 hJ7 hb7
              obtain ⟨t07, f07, lT7⟩ := HTF.out w7 (later_trans HRC.out.2 hb7)
              have HR7 := Lib.hid (And.intro hJ7 (And.intro (later_trans HRC.out.2 hb7) (owns_later HRow.out (later_trans (later_trans HRC.out.2 hb7) (later_alloc w7 (.cells #[.slice a7 (x.length + (cellsL y O).length) c7] 26))))))
              have hz7 := Nat.le_trans HVs.out (later_trans HRC.out.2 hb7).size
              clear hJ7 hb7
              go_simp
              refine hK _ _ ?_
              clear hK K
              refine wpAny_ready (rs := [11]) (by kernel_rfl) (by simp) ?_
              refine AllReady.cons rfl (fun K hK => ?_) AllReady.nil
              go_simp
              refine hK _ _ ?_
              clear hK K
              refine wpAny_ready (rs := [12]) (by kernel_rfl) (by simp) ?_
              refine AllReady.cons rfl (fun K hK => ?_) AllReady.nil
              refine step_append_lies _ rfl (.tmp 61) (.tmp 72) 23 rfl Ws.heap.size 26 i0 _ 1 24 Try.underlying23 hi hz0 hz1 hz2 rfl (by decide) (.slice avv ps.length cvv) ps.length _ rfl HR7.out.2.2 ⟨w7.heap.size, 0, none⟩ 1 1 [.slice a7 (x.length + (cellsL y O).length) c7] rfl rfl (cells_new _ _ _) (by simp [Value.oneCell']) (by omega) (by unfold maxLen; omega) (by omega) (by simp; omega) _ rfl ?_
              intro g6 cap6 w6 hown6 hgrow6 hat6 hlt6
              have hT6 := box_grown HR7.out.2.2 hgrow6 (HTB.out _ (later_trans HR7.out.2.1 (later_alloc w7 _))) (by decide)
              have t06 := box_cell (i := 0) hT6
              have f06 := box_frozen (i := 0) hT6
              have lT6 := lt_of_block hT6
              simp at t06
              have HF6 := Lib.hid (HFin.out w7 w6 _ g6 cap6 HR7.out.2.1 (HR7.out.1.down HRC.out.2.size) hown6 hgrow6 hat6)
              clear hT6 hown6 hgrow6 hat6 hlt6
              go_simp
              refine hK _ _ ?_
              clear hK K
              refine wpAny_ready (rs := [13]) (by kernel_rfl) (by simp) ?_
              refine AllReady.cons rfl (fun K hK => ?_) AllReady.nil
              go_simp
              refine hK _ _ ?_
              clear hK K
              refine wpAny_done (by kernel_rfl) ?_ _
              exact HF6.out { tmps := #[], defers := [] }
            · go_simp
              refine (HCc.out _ (later_drew _)).mono ?_
              rintro e wC ⟨vc, rfl, hoC, hbC⟩
              obtain ⟨t0C, f0C, lTC⟩ := HTF.out wC hbC
              have HRC := Lib.hid (And.intro hoC hbC)
              clear hoC hbC
              refine hK _ _ ?_
              clear hK K
              refine wpAny_ready (rs := [0, 10]) (by kernel_rfl) (by simp) ?_
              refine AllReady.cons rfl (fun K hK => ?_) (AllReady.cons rfl (fun K hK => ?_) AllReady.nil)
              · go_simp
                refine hK _ _ ?_
                clear hK K
                refine wpAny_ready (rs := [10]) (by kernel_rfl) (by simp) ?_
                refine AllReady.cons rfl (fun K hK => ?_) AllReady.nil
                refine step_append_shut rfl (.tmp 67) (.tmp 70) rfl (cx := cx) (x := x) (y := cellsL y O) rfl rfl HXY.out.1 (HXY.out.2.1 _ HRC.out.2) (HXY.out.2.2.1 ▸ HRC.out.1) HXY.out.2.2.2.1 HXY.out.2.2.2.2 ?_
                intro a7 c7 w7 hJ7 hb7
                obtain ⟨t07, f07, lT7⟩ := HTF.out w7 (later_trans HRC.out.2 hb7)
                have HR7 := Lib.hid (And.intro hJ7 (And.intro (later_trans HRC.out.2 hb7) (owns_later HRow.out (later_trans (later_trans HRC.out.2 hb7) (later_alloc w7 (.cells #[.slice a7 (x.length + (cellsL y O).length) c7] 26))))))
                have hz7 := Nat.le_trans HVs.out (later_trans HRC.out.2 hb7).size
                clear hJ7 hb7
                go_simp
                refine hK _ _ ?_
                clear hK K
                refine wpAny_ready (rs := [11]) (by kernel_rfl) (by simp) ?_
                refine AllReady.cons rfl (fun K hK => ?_) AllReady.nil
                go_simp
                refine hK _ _ ?_
                clear hK K
                refine wpAny_ready (rs := [12]) (by kernel_rfl) (by simp) ?_
                refine AllReady.cons rfl (fun K hK => ?_) AllReady.nil
                refine step_append_lies _ rfl (.tmp 61) (.tmp 72) 23 rfl Ws.heap.size 26 i0 _ 1 24 Try.underlying23 hi hz0 hz1 hz2 rfl (by decide) (.slice avv ps.length cvv) ps.length _ rfl HR7.out.2.2 ⟨w7.heap.size, 0, none⟩ 1 1 [.slice a7 (x.length + (cellsL y O).length) c7] rfl rfl (cells_new _ _ _) (by simp [Value.oneCell']) (by omega) (by unfold maxLen; omega) (by omega) (by simp; omega) _ rfl ?_
                intro g6 cap6 w6 hown6 hgrow6 hat6 hlt6
                have hT6 := box_grown HR7.out.2.2 hgrow6 (HTB.out _ (later_trans HR7.out.2.1 (later_alloc w7 _))) (by decide)
                have t06 := box_cell (i := 0) hT6
                have f06 := box_frozen (i := 0) hT6
                have lT6 := lt_of_block hT6
                simp at t06
                have HF6 := Lib.hid (HFin.out w7 w6 _ g6 cap6 HR7.out.2.1 (HR7.out.1.down HRC.out.2.size) hown6 hgrow6 hat6)
                clear hT6 hown6 hgrow6 hat6 hlt6
                go_simp
                refine hK _ _ ?_
                clear hK K
                refine wpAny_ready (rs := [13]) (by kernel_rfl) (by simp) ?_
                refine AllReady.cons rfl (fun K hK => ?_) AllReady.nil
                go_simp
                refine hK _ _ ?_
                clear hK K
                refine wpAny_done (by kernel_rfl) ?_ _
                exact HF6.out { tmps := #[], defers := [] }
              · refine step_append_shut rfl (.tmp 67) (.tmp 70) rfl (cx := cx) (x := x) (y := cellsL y O) rfl rfl HXY.out.1 (HXY.out.2.1 _ HRC.out.2) (HXY.out.2.2.1 ▸ HRC.out.1) HXY.out.2.2.2.1 HXY.out.2.2.2.2 ?_
                intro a7 c7 w7 hJ7 hb7
                obtain ⟨t07, f07, lT7⟩ := HTF.out w7 (later_trans HRC.out.2 hb7)
                have HR7 := Lib.hid (And.intro hJ7 (And.intro (later_trans HRC.out.2 hb7) (owns_later HRow.out (later_trans (later_trans HRC.out.2 hb7) (later_alloc w7 (.cells #[.slice a7 (x.length + (cellsL y O).length) c7] 26))))))
                have hz7 := Nat.le_trans HVs.out (later_trans HRC.out.2 hb7).size
                clear hJ7 hb7
                go_simp
                refine hK _ _ ?_
                clear hK K
                refine wpAny_ready (rs := [0, 11]) (by kernel_rfl) (by simp) ?_
                refine AllReady.cons rfl (fun K hK => ?_) (AllReady.cons rfl (fun K hK => ?_) AllReady.nil)
                · go_simp
                  refine hK _ _ ?_
                  clear hK K
                  refine wpAny_ready (rs := [11]) (by kernel_rfl) (by simp) ?_
                  refine AllReady.cons rfl (fun K hK => ?_) AllReady.nil
                  go_simp
                  refine hK _ _ ?_
                  clear hK K
                  refine wpAny_ready (rs := [12]) (by kernel_rfl) (by simp) ?_
                  refine AllReady.cons rfl (fun K hK => ?_) AllReady.nil
                  refine step_append_lies _ rfl (.tmp 61) (.tmp 72) 23 rfl Ws.heap.size 26 i0 _ 1 24 Try.underlying23 hi hz0 hz1 hz2 rfl (by decide) (.slice avv ps.length cvv) ps.length _ rfl HR7.out.2.2 ⟨w7.heap.size, 0, none⟩ 1 1 [.slice a7 (x.length + (cellsL y O).length) c7] rfl rfl (cells_new _ _ _) (by simp [Value.oneCell']) (by omega) (by unfold maxLen; omega) (by omega) (by simp; omega) _ rfl ?_
                  intro g6 cap6 w6 hown6 hgrow6 hat6 hlt6
                  have hT6 := box_grown HR7.out.2.2 hgrow6 (HTB.out _ (later_trans HR7.out.2.1 (later_alloc w7 _))) (by decide)
                  have t06 := box_cell (i := 0) hT6
                  have f06 := box_frozen (i := 0) hT6
                  have lT6 := lt_of_block hT6
                  simp at t06
                  have HF6 := Lib.hid (HFin.out w7 w6 _ g6 cap6 HR7.out.2.1 (HR7.out.1.down HRC.out.2.size) hown6 hgrow6 hat6)
                  clear hT6 hown6 hgrow6 hat6 hlt6
                  go_simp
                  refine hK _ _ ?_
                  clear hK K
                  refine wpAny_ready (rs := [13]) (by kernel_rfl) (by simp) ?_
                  refine AllReady.cons rfl (fun K hK => ?_) AllReady.nil
                  go_simp
                  refine hK _ _ ?_
                  clear hK K
                  refine wpAny_done (by kernel_rfl) ?_ _
                  exact HF6.out { tmps := #[], defers := [] }
                · go_simp
                  refine hK _ _ ?_
                  clear hK K
                  refine wpAny_ready (rs := [0]) (by kernel_rfl) (by simp) ?_
                  refine AllReady.cons rfl (fun K hK => ?_) AllReady.nil
                  go_simp
                  refine hK _ _ ?_
                  clear hK K
                  refine wpAny_ready (rs := [12]) (by kernel_rfl) (by simp) ?_
                  refine AllReady.cons rfl (fun K hK => ?_) AllReady.nil
                  refine step_append_lies _ rfl (.tmp 61) (.tmp 72) 23 rfl Ws.heap.size 26 i0 _ 1 24 Try.underlying23 hi hz0 hz1 hz2 rfl (by decide) (.slice avv ps.length cvv) ps.length _ rfl HR7.out.2.2 ⟨w7.heap.size, 0, none⟩ 1 1 [.slice a7 (x.length + (cellsL y O).length) c7] rfl rfl (cells_new _ _ _) (by simp [Value.oneCell']) (by omega) (by unfold maxLen; omega) (by omega) (by simp; omega) _ rfl ?_
                  intro g6 cap6 w6 hown6 hgrow6 hat6 hlt6
                  have hT6 := box_grown HR7.out.2.2 hgrow6 (HTB.out _ (later_trans HR7.out.2.1 (later_alloc w7 _))) (by decide)
                  have t06 := box_cell (i := 0) hT6
                  have f06 := box_frozen (i := 0) hT6
                  have lT6 := lt_of_block hT6
                  simp at t06
                  have HF6 := Lib.hid (HFin.out w7 w6 _ g6 cap6 HR7.out.2.1 (HR7.out.1.down HRC.out.2.size) hown6 hgrow6 hat6)
                  clear hT6 hown6 hgrow6 hat6 hlt6
                  go_simp
                  refine hK _ _ ?_
                  clear hK K
                  refine wpAny_ready (rs := [13]) (by kernel_rfl) (by simp) ?_
                  refine AllReady.cons rfl (fun K hK => ?_) AllReady.nil
                  go_simp
                  refine hK _ _ ?_
                  clear hK K
                  refine wpAny_done (by kernel_rfl) ?_ _
                  exact HF6.out { tmps := #[], defers := [] }
          -- R]
        case done =>
          rintro D xs V hD hSx hI - hdef
          obtain ⟨v, ps, h1, h2, h3, h4, h5, h6⟩ := id hI
          obtain ⟨avv, cvv, rfl⟩ := owns_shape2 h2.own
          have t0 := box_cell (i := 0) h1
          simp at t0
          have hXR := h6 _ _ _ _ (kept HS.out.1 (kept H6.out.2.1 H3.out.2.2.2.2.2.1)) (by have := HS.out.2.2.2.2.2; have := H3.out.2.2.2.2.2.2.2; omega)
          have hXE := h6 _ _ _ _ (kept HS.out.1 (kept H6.out.2.1 H3.out.2.2.2.2.2.2.1)) (by have := HS.out.2.2.2.2.2; have := H3.out.2.2.2.2.2.2.2; omega)
          have hmap : ps.map Prod.snd = (matchL A B).map (joinP O) := by rw [h3, ← hSx, List.map_map]; rfl
          have hov := jnI_keep hI (owns_later H6.out.2.2.1 HS.out.1) HS.out.2.1 (by decide)
          have hvs : (A.vars ++ aloneL A B).length = A.vars.length + k := by rw [List.length_append, HR.out.2.2.2.2.2.2.2.2.2.2.2]
          have hak : (aloneL A B).take k = aloneL A B := List.take_of_length_le (by rw [HR.out.2.2.2.2.2.2.2.2.2.2.2]; exact Nat.le_refl _)
          have hof := of_any (.slice av (A.vars.length + k) cv) (.slice avv ps.length cvv) (A.vars ++ aloneL A B) (ps.map Prod.snd) V (SlI.of_owns (by rw [hak] at hov; exact hov) (fun z hz => by
            rcases List.mem_append.1 hz with q | q
            · exact H0.out.1.vars.2 z q
            · exact H0.out.2.1.vars.2 z (List.mem_filter.1 q).1)) (h2.slR h4) (fun r hr => by
              rw [hmap] at hr
              obtain ⟨p, hp, rfl⟩ := List.mem_map.1 hr
              obtain ⟨mx, my⟩ := matchL_mem hp
              rw [hvs, joinP, List.length_append, cellsL, List.length_map, HR.out.2.1 _ mx, HR.out.2.2.2.2.2.2.2.2.2.2.1]) (by rw [hvs]; have := HR.out.2.2.1; omega) (by
              rw [hmap, List.length_map]
              have e1 := mateL_len (placesL A.vars (sharedL A B)) (placesL B.vars (sharedL A B)) A.rows B.rows
              have e2 := HV.out.2
              unfold matchL
              omega)
          have hJL : joinL A B = ⟨A.vars ++ aloneL A B, ofL (ps.map Prod.snd)⟩ := by
            unfold joinL
            rw [hmap, HR.out.2.2.2.2.2.2.2.2.2.1]
          rw [← hJL] at hof
          have HOf := Lib.hid hof
          have HE := Lib.hid (And.intro hXR (And.intro hXE (And.intro h4 (And.intro hdef hD))))
          clear hXR hXE hmap hov hvs hak hof hJL h1 h2 h3 h4 h5 h6 hI hSx hdef
          refine ‹∀ (a : Act) (w_1 : World), _ → _› _ _ ?_
          go_wp2_with fail
          refine HOf.out.mono ?_
          rintro e Wf ⟨v1, v2, rfl, hown, hbf⟩
          have hXR := kept hbf HE.out.1
          have hXE := kept hbf HE.out.2.1
          obtain ⟨x0, x1, lX⟩ := two_of2 hXR
          have fX0 := box_frozen (i := 0) hXR
          have fX1 := box_frozen (i := 1) hXR
          have z0 := box_cell (i := 0) hXE
          have fZ := box_frozen (i := 0) hXE
          have lZ := lt_of_block hXE
          simp at z0
          obtain ⟨qs, hq1, hq2⟩ := hown.rows
          obtain ⟨ar1, cr1, rfl⟩ := owns_shape2 hown.vars
          obtain ⟨ar2, cr2, rfl⟩ := owns_shape2 hq1.own
          obtain ⟨nv, hnv⟩ : ∃ nv, (joinL A B).vars.length = nv := ⟨_, rfl⟩
          rw [hnv]
          rw [hnv] at hown
          obtain ⟨nr, hnr⟩ : ∃ nr, qs.length = nr := ⟨_, rfl⟩
          rw [hnr]
          rw [hnr] at hown
          have hb3 := box_set (i := 1) (box_set (i := 0) hXR (.slice ar1 nv cr1)) (.slice ar2 nr cr2)
          have hz3 := box_set (i := 0) (box_other (i := 1) (box_other (i := 0) hXE (show w.heap.size + 1 + 1 + 1 ≠ w.heap.size + 1 + 1 by omega) (.slice ar1 nv cr1)) (show w.heap.size + 1 + 1 + 1 ≠ w.heap.size + 1 + 1 by omega) (.slice ar2 nr cr2)) (.int .i64 0)
          have hb4 := box_other (i := 0) hb3 (show w.heap.size + 1 + 1 ≠ w.heap.size + 1 + 1 + 1 by omega) (.int .i64 0)
          have d0 := box_cell (i := 0) hb4
          have d1 := box_cell (i := 1) hb4
          have dz := box_cell (i := 0) hz3
          simp at d0 d1 dz
          have HOw := Lib.hid (And.intro hown (And.intro hbf (And.intro hXR hXE)))
          clear hown hbf hXR hXE hq1 hq2 hnv hnr hb3 hz3 hb4
          go_wp2_with fail
          obtain ⟨WF, hWF⟩ : ∃ W, W = ((Wf.setCell ⟨w.heap.size + 1 + 1, 0, none⟩ (.slice ar1 nv cr1)).setCell ⟨w.heap.size + 1 + 1, 1, none⟩ (.slice ar2 nr cr2)).setCell ⟨w.heap.size + 1 + 1 + 1, 0, none⟩ (.int .i64 0) := ⟨_, rfl⟩
          rw [← hWF] at d0 d1 dz ⊢
          have hDs : w.heap.size + 1 + 1 + 1 < D := by have := HE.out.2.2.2.2; have := HS.out.2.2.2.2.2; have := HS.out.2.2.2.2.1; have := H3.out.2.2.2.2.2.2.2; omega
          have hdF : WF.heap[D]? = some (.deferred (some [])) := by
            rw [hWF]
            exact (heap_setCell_other _ _ D _ (show D ≠ w.heap.size + 1 + 1 + 1 by omega)).trans ((heap_setCell_other _ _ D _ (show D ≠ w.heap.size + 1 + 1 by omega)).trans ((heap_setCell_other _ _ D _ (show D ≠ w.heap.size + 1 + 1 by omega)).trans (kept HOw.out.2.1 HE.out.2.2.2.1)))
          have hp := grownBy_putObj' WF D (.deferred none)
          have e0 := World.cell?_of_block (a := ⟨w.heap.size + 1 + 1, 0, none⟩) (hp.block (w.heap.size + 1 + 1) (World.block_lt_of_cell? _ _ d0) (fun e => by cases e; omega))
          have e1 := World.cell?_of_block (a := ⟨w.heap.size + 1 + 1, 1, none⟩) (hp.block (w.heap.size + 1 + 1) (World.block_lt_of_cell? _ _ d0) (fun e => by cases e; omega))
          have ez := World.cell?_of_block (a := ⟨w.heap.size + 1 + 1 + 1, 0, none⟩) (hp.block (w.heap.size + 1 + 1 + 1) (World.block_lt_of_cell? _ _ dz) (fun e => by cases e; omega))
          rw [d0] at e0
          rw [d1] at e1
          rw [dz] at ez
          have hbV : Below w.heap.size w WF := by
            rw [hWF]
            exact below_set (below_set (below_set (later_trans HE.out.2.2.1 HOw.out.2.1) (by omega)) (by omega)) (by omega)
          have hbD : Below w.heap.size w (WF.putObj D (.deferred none)) := hbV.trans (belowK_b (w := w) (Nat.le_refl _) _ D _ _ (by omega) hdF rfl rfl)
          have hres : OwnRl w.heap.size (WF.putObj D (.deferred none)) (.slice ar1 nv cr1) (.slice ar2 nr cr2) (joinL A B) := by
            have o1 := OwnRl.set (i := 1) (OwnRl.set (i := 0) HOw.out.1 HOw.out.2.2.1 (.slice ar1 nv cr1)) (box_set (i := 0) HOw.out.2.2.1 _) (.slice ar2 nr cr2)
            have hz3 := box_other (i := 1) (box_other (i := 0) HOw.out.2.2.2 (show w.heap.size + 1 + 1 + 1 ≠ w.heap.size + 1 + 1 by omega) (.slice ar1 nv cr1)) (show w.heap.size + 1 + 1 + 1 ≠ w.heap.size + 1 + 1 by omega) (.slice ar2 nr cr2)
            have o2 := OwnRl.setE (i := 0) o1 hz3 (.int .i64 0)
            rw [← hWF] at o2
            have o3 := OwnRl.put o2 (o' := .deferred none) hdF rfl
            exact OwnRl.down o3 (by have := HE.out.2.2.1.size; omega)
          clear hWF
          refine ⟨by simp, .inl ⟨_, _, rfl, run_takeDeferred hdF, ?_⟩⟩
          refine ⟨.tuple #[relV (.slice ar1 nv cr1) (.slice ar2 nr cr2), .int .i64 0], by simp [results, Try.results21, go_sem, e0, e1, ez], ?_⟩
          exact ⟨hbD, _, _, 0, rfl, ⟨fun q => (by rw [HR.out.1.1, HR.out.1.2] at q; cases q), fun _ _ => ⟨rfl, hres⟩⟩⟩
end Go.Proofs.Ytdeiinfljfgmeaa
