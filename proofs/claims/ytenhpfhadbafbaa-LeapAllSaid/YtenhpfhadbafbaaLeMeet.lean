/-
  leap.Meet, walked.
-/
import Derived.Test.YtenhpfhadbafbaaLeVal
import Derived.Test.YtenhpfhadbafbaaLeKeys
import Derived.Test.YtenhpfhadbafbaaLeLeap
import Derived.Test.YtenhpfhadbafbaaLeRefC
namespace Go.Proofs.Ytenhpfhadbafbaa
open Go.RowKit Go.Shelf
set_option linter.unusedVariables false
attribute [local go_sem] Oper.semAt_some

theorem keysF_any (X : Nat) (w : World) : Calls Try.prog 37 #[.pointer (some ⟨X, 0, none⟩)] w fun en w' => en = .returned (.func (.func 49) #[] #[.pointer (some ⟨w.heap.size, 0, none⟩)]) ∧ w' = w.alloc (.cells #[.pointer (some ⟨X, 0, none⟩)] 56) := by
  go_enter Try.func37, Try.ntmps37
  go_wp2
  go_ret
  exact ⟨rfl, rfl⟩
theorem perm_mem {ls ls' : List (List Int)} (h : ls'.Perm ls) {n : Int} : (∀ r, r < ls'.length → n ∈ rowN ls' r) ↔ (∀ r, r < ls.length → n ∈ rowN ls r) := by
  have e : ∀ l : List (List Int), (∀ r, r < l.length → n ∈ rowN l r) ↔ ∀ row ∈ l, n ∈ row := fun l => by
    constructor
    · intro h row hr
      obtain ⟨i, hi, rfl⟩ := List.getElem_of_mem hr
      have := h i hi
      simpa [rowN, List.getD, List.getElem?_eq_getElem hi] using this
    · intro h r hr
      have := h l[r] (List.getElem_mem hr)
      simpa [rowN, List.getD, List.getElem?_eq_getElem hr] using this
  rw [e, e]
  exact ⟨fun k row hr => k row (h.mem_iff.2 hr), fun k row hr => k row (h.mem_iff.1 hr)⟩
theorem perm_row {ls ls' : List (List Int)} (h : ls'.Perm ls) {p : List Int → Prop} (hp : ∀ r, r < ls.length → p (rowN ls r)) : ∀ r, r < ls'.length → p (rowN ls' r) := by
  intro r hr
  have h1 : ls'[r] ∈ ls := h.mem_iff.1 (List.getElem_mem hr)
  obtain ⟨i, hi, e⟩ := List.getElem_of_mem h1
  have h2 := hp i hi
  simp only [rowN, List.getD, List.getElem?_eq_getElem hi, List.getElem?_eq_getElem hr, Option.getD_some] at h2 ⊢
  rw [← e]; exact h2
theorem perm_ok {ls ls' : List (List Int)} (h : ls'.Perm ls) (hR : RowsOk ls) : RowsOk ls' :=
  ⟨by rw [h.length_eq]; exact hR.some, by rw [h.length_eq]; exact hR.few, perm_row (p := fun l => risesB l = true) h hR.rise, perm_row (p := fun l => l.length ≤ 1000) h hR.short, perm_row (p := fun l => ∀ n ∈ l, 0 ≤ n) h hR.nat⟩
theorem common_zeros {ls : List (List Int)} (h0 : 0 < ls.length) {n : Int} {k : Nat} : n ∈ commonFrom ls (List.replicate k 0) ↔ ∀ r, r < ls.length → n ∈ rowN ls r := by
  rw [mem_common h0]
  have e : ∀ r, atN (List.replicate k 0) r = 0 := fun r => by
    unfold atN
    by_cases h : r < k
    · simp [List.getD, h]
    · simp [List.getD, h]
  exact ⟨fun h r hr => by have := h r hr; rwa [e, List.drop_zero] at this, fun h r hr => by rw [e, List.drop_zero]; exact h r hr⟩
theorem commonAll_mem {ls : List (List Int)} (h0 : 0 < ls.length) {n : Int} : n ∈ commonAll ls ↔ ∀ r, r < ls.length → n ∈ rowN ls r := by
  unfold commonAll
  rw [List.mem_filter]
  unfold inTo
  rw [decide_eq_true_eq]
  exact ⟨fun h => h.2, fun h => ⟨h 0 h0, h⟩⟩
theorem commonAll_pw {ls : List (List Int)} (h : risesB (rowN ls 0) = true) : (commonAll ls).Pairwise (· < ·) := List.Pairwise.sublist List.filter_sublist (rises_pw h)
theorem common_perm {ls ls' : List (List Int)} (h : ls'.Perm ls) (hR : RowsOk ls) (k : Nat) : commonFrom ls' (List.replicate k 0) = commonAll ls := by
  have h' := perm_ok h hR
  refine rising_ext (common_pw (h'.rise 0 h'.some)) (commonAll_pw (hR.rise 0 hR.some)) fun n => ?_
  rw [common_zeros h'.some, commonAll_mem hR.some, perm_mem h]

/-- What Meet's range keeps. -/
def MeI (w : World) (T base : Nat) (pre : List Int) (V : World) : Prop :=
  ∃ v, V.heap[T]? = some (.cells #[v] 32 (0, 0)) ∧ V.ownsRow base 40 1 v pre.length (pre.map (.int .u64)) ∧ base ≤ V.heap.size ∧ Below w.heap.size w V
theorem meI_kept {w : World} {T base D : Nat} (hD : w.heap.size ≤ D) : OwnFrom D (MeI w T base) := by
  rintro pre A B' row ⟨v, h1, h2, h3, h4⟩ hg hr
  exact ⟨v, box_kept h1 hg hr, ownsRow_kept h2 hg hr, Nat.le_trans h3 hg.size, ownFrom_below (Nat.le_refl _) hD () A B' row h4 hg hr⟩
theorem meI_state {w : World} {T base X g : Nat} {pre : List Int} {A B : World} (h : MeI w T base pre A) (hW : Wrote (fun r => r = X ∨ r = g) A B) (h1 : X ≠ T) (h2 : g ≠ T) (h3 : X < base) (h4 : g < base) (h5 : w.heap.size ≤ X) (h6 : w.heap.size ≤ g) : MeI w T base pre B := by
  obtain ⟨v, g1, g2, g3, g4⟩ := h
  refine ⟨v, (hW.block _ (lt_of_block g1) (by omega)).trans g1, ?_, Nat.le_trans g3 hW.size, ⟨hW.os.trans g4.os, hW.tape.trans g4.tape, hW.output.trans g4.output, Nat.le_trans g4.size hW.size, fun b hb => (hW.block b (by have := g4.size; omega) (by omega)).trans (g4.block b hb)⟩⟩
  obtain ⟨k1, k2⟩ := g2
  refine ⟨k1, ?_⟩
  rcases k2 with k2 | ⟨g', cap, cur, hv, hgb, hh, rest⟩
  · exact .inl k2
  · exact .inr ⟨g', cap, cur, hv, hgb, (hW.block _ (lt_of_block hh) (by omega)).trans hh, rest⟩
theorem keysZ_kept {w0 : World} {X g cap : Nat} {v : Value} {ls : List (List Int)} {looks0 : Int} {m D : Nat} (hD : w0.heap.size ≤ D) : OwnFrom D (fun (_ : Unit) W => KeysZ w0 X g cap v ls looks0 m W) := by
  rintro _ A B' row ⟨ats, n, T, hL, h1, h2⟩ hg hr
  exact ⟨ats, n, T, ⟨hL.rows, ownFrom_below (Nat.le_refl _) hD () A B' row hL.bel hg hr, box_kept hL.box hg hr, ownsRow_kept hL.own hg hr, hL.low⟩, h1, h2⟩
theorem made_zeros (n : Nat) : (madeCells (Value.int .i64 0).cells (n * 1)).toList = (List.replicate n 0).map (fun (n : Nat) => Value.int .i64 (n : Int)) := by
  simp [madeCells, Value.cells, Nat.mod_one, List.map_const']

/-- What Meet comes to. -/
def MeetPost (ls : List (List Int)) (w : World) (e : Ending) (w' : World) : Prop :=
  Below w.heap.size w w' ∧ ((okB ls = false ∧ e = .returned (.tuple #[.slice none 0 0, .int .i64 0, .int .i64 330])) ∨
    (okB ls = true ∧ ∃ (v : Value) (n : Nat), e = .returned (.tuple #[v, .int .i64 n, .int .i64 0]) ∧ w'.ownsRow w.heap.size 40 1 v (commonAll ls).length ((commonAll ls).map (.int .u64)) ∧ n ≤ boundOf ls.length (minTo ls ls.length) (maxTo ls ls.length)))

set_option maxRecDepth 100000 in
set_option maxHeartbeats 8000000 in
theorem Meet_any (v : Value) (ls : List (List Int)) (w : World) (h : SlR w v ls) (hS : ∀ r, r < ls.length → (rowN ls r).length ≤ 1000) (hN : ∀ r, r < ls.length → ∀ n ∈ rowN ls r, 0 ≤ n) (hl : ls.length ≤ 19) :
    Calls Try.prog 16 #[v] w (MeetPost ls w) := by
  obtain ⟨i0, hi, hz0, hz1, hz2⟩ := info_parts info_int
  obtain ⟨j0, hj, jz0, jz1, jz2⟩ := info_parts info_u64
  have H := Lib.hid h
  obtain ⟨a, c, rfl, h1, h2, h3, h4⟩ := h.open
  have HS := Lib.hid hS
  have HN := Lib.hid hN
  clear h h1 h2 h3 h4 hS hN
  by_cases hok : okB ls = true
  · have hk := okB_iff.1 hok
    have hl1 := hk.1
    have HR := Lib.hid (rowsOk_of hok HS.out HN.out)
    clear hk
    refine (callsIn_wide (n := 6)).1 ?_
    refine callsIn_of_wp_marks Try.func16 rfl trivial ?_ rfl
    simp only [Try.ntmps16, List.size_toArray, List.length_cons, List.length_nil, Nat.reduceAdd, Nat.reduceSub, Array.replicate_succ, Array.replicate_zero, List.push_toArray, List.append_toArray, List.nil_append, List.cons_append]
    refine wpIn_wide.2 ?_
    go_wp2_with first
      | (go_at_call 23; refine (Check_any _ _ _ H.out).mono ?_; rintro e w1 ⟨rfl, n, rfl⟩; rw [if_pos hok])
      | (go_at_call 34; refine (valuesF_any _ _ _ _).mono ?_; rintro e w2 ⟨rfl, hw2⟩
         have HW2 : Hid (Below w.heap.size w w2 ∧ w2.heap[w.heap.size]? = some (.cells #[.slice a ls.length c] 22 (0, 0))) := Lib.hid (by rw [hw2]; exact ⟨later_trans (later_drewN w n) (later_alloc _ _), box_new _ _ _⟩)
         clear hw2)
      | (go_at_call 33; refine (sorted_any H.out HW2.out.1 HW2.out.2 (by omega) hl).mono ?_; rintro e w3 ⟨g3, c3, ls', rfl, hR3, hp3, hb3⟩
         have HS3 := Lib.hid (And.intro hR3 (And.intro hp3 hb3))
         have hs3 := hb3.size
         clear hR3 hp3 hb3)
      | (at_make; refine wpList_make_full _ rfl (.tmp 19) (.tmp 19) 27 rfl w3.heap.size 3 i0 _ 1 Try.underlying27 hi hz0 hz1 .i64 .i64 _ _ ls.length rfl rfl (by omega) (by omega) (by rw [hz2]; omega) (by unfold maxLen; omega) (Nat.le_refl _) ?_; intro w4 hown4 hgrow4
         have hb4 : Below w3.heap.size w3 w4 := (Below.refl _ w3).grown hgrow4 (Nat.le_refl _) (fun k e => (by cases e))
         rw [made_zeros] at hown4
         have hg4 : w3.heap.size < w4.heap.size := (hown4.lt w3.heap.size rfl).2
         have HB4 := Lib.hid (And.intro hb4 hown4)
         clear hb4 hown4 hgrow4)
      | (go_at_call 37; refine (keysF_any _ _).mono ?_; rintro e w5 ⟨rfl, hw5⟩)
      | fail
    refine (wpIn_wide (n := 6)).1 ?_
    obtain ⟨hR3, hp3, hb3⟩ := HS3.out
    obtain ⟨hb4, hown4⟩ := HB4.out
    have hle := hp3.length_eq
    obtain ⟨X, hX⟩ : ∃ X, w4.heap.size = X := ⟨_, rfl⟩
    obtain ⟨g, hg⟩ : ∃ g, w3.heap.size = g := ⟨_, rfl⟩
    rw [← hw5]
    rw [hg] at hw5
    have hbox : w5.heap[X]? = some (.cells #[.slice (some ⟨g3, 0, none⟩) ls.length c3, .slice (some ⟨g, 0, none⟩) ls.length ls.length, .int .i64 0] 59 (0, 0)) := by
      rw [hw5, ← hX]
      exact box_alloc (box_alloc (box_new w4 _ _) _) _
    have hT5 : w5.heap[X + 1]? = some (.cells #[.slice none 0 0] 32 (0, 0)) := by
      rw [hw5, ← hX]
      have := box_new (w4.alloc (.cells #[.slice (some ⟨g3, 0, none⟩) ls.length c3, .slice (some ⟨g, 0, none⟩) ls.length ls.length, .int .i64 0] 59)) #[.slice none 0 0] 32
      exact box_alloc (by simpa using this) _
    have hK5 : w5.heap[X + 1 + 1]? = some (.cells #[.pointer (some ⟨X, 0, none⟩)] 56 (0, 0)) := by
      rw [hw5, hX]
      have := box_new ((w4.alloc (.cells #[.slice (some ⟨g3, 0, none⟩) ls.length c3, .slice (some ⟨g, 0, none⟩) ls.length ls.length, .int .i64 0] 59)).alloc (.cells #[.slice none 0 0] 32)) #[.pointer (some ⟨X, 0, none⟩)] 56
      simpa [hX] using this
    have hb5 : Below w4.heap.size w4 w5 := by rw [hw5]; exact later_trans (later_alloc w4 _) (later_trans (later_alloc _ _) (later_alloc _ _))
    have hs5 : w5.heap.size = X + 3 := by rw [hw5, ← hX]; simp
    have hL : Lp w3 w5 X g ls.length (.slice (some ⟨g3, 0, none⟩) ls.length c3) ls' (List.replicate ls.length 0) 0 := by
      refine ⟨hR3, later_trans hb4 hb5, by rw [hle]; exact hbox, ?_, by omega⟩
      rw [hle, ← hg]
      exact owns_later hown4 hb5
    have hR' := perm_ok hp3 HR.out
    have hmx := maxTo_le HS.out (by omega) ls.length (Nat.le_refl _)
    have hmr : ∀ r, r < ls'.length → (rowN ls' r).length ≤ maxTo ls ls.length := perm_row (p := fun l => l.length ≤ maxTo ls ls.length) hp3 (fun r hr => maxTo_ge ls _ r hr)
    have hz : ∀ r, r < ls'.length → atN (List.replicate ls.length 0) r ≤ (rowN ls' r).length := fun r hr => by
      have e : atN (List.replicate ls.length 0) r = 0 := by
        unfold atN
        by_cases h : r < ls.length
        · simp [List.getD, h]
        · simp [List.getD, h]
      omega
    have hks := keys_stops 5 (by omega) hL hR' hmr hmx hz (Int.le_refl _) (by omega) hK5 (by omega) (by omega) (by omega)
    have hcp := common_perm hp3 HR.out ls.length
    have hbw := later_trans hb3 (later_trans hb4 hb5)
    simp only [hX, hg]
    have HQ := Lib.hid (And.intro hp3 (And.intro hcp hR'))
    clear hw5 hL hR' hmr hz hR3 hb4 hown4 hp3 hcp
    refine wpIn_range_stops (by omega) (gf := 49) (lb := #[.pointer (some ⟨X + 1 + 1, 0, none⟩)]) rfl (enters_of Try.func49 (by kernel_rfl) rfl)
      hks (fun r h => by omega) (fun h k => KK.trans h k)
      (fun V l o o' hl ho hc hw' => ⟨belowK_b (w := w3) (Nat.le_refl _) V l o o' (by omega) ho hc hw', fun o2 h2 => by rw [World.putObj_heap_other (by omega)]; exact h2, fun o2 h2 => by rw [World.putObj_heap_other (by omega)]; exact h2, fun o2 h2 => by rw [World.putObj_heap_other (by omega)]; exact h2⟩)
      (Below.refl _ _) (fun _ => rfl) (MeI w (X + 1) w5.heap.size) (fun _ _ _ => False) (meI_kept (by omega)) (fun c => fun _ _ _ _ h => h.elim) (keysZ_kept (by omega))
      (fun s A B hI hW => meI_state hI hW (by omega) (by omega) (by omega) (by omega) (by omega) (by omega))
      ⟨_, hT5, World.ownsRow_nil _ _ _ _, Nat.le_refl _, hbw⟩
      (fun x a' V => a' = { tmps := #[.slice (some ⟨g3, 0, none⟩) ls.length c3, undef, .slice none 0 0, .int .i64 0, .int .i64 0, .int .i64 0, .pointer (some ⟨X, 0, none⟩), .pointer (some ⟨X + 1, 0, none⟩), .int .u64 x, .slice a ls.length c, .int .i64 0, .int .i64 0, .bool false, undef, .slice a ls.length c, .func (.func 47) #[] #[.pointer (some ⟨w.heap.size, 0, none⟩)], .slice (some ⟨g3, 0, none⟩) ls.length c3, .slice (some ⟨g3, 0, none⟩) ls.length c3, .slice (some ⟨g3, 0, none⟩) ls.length c3, .int .i64 ls.length, .slice (some ⟨g, 0, none⟩) ls.length ls.length, .agg #[.slice (some ⟨g3, 0, none⟩) ls.length c3, .slice (some ⟨g, 0, none⟩) ls.length ls.length, .int .i64 0], .pointer (some ⟨X, 0, none⟩), .pointer (some ⟨X, 0, none⟩), .func (.func 49) #[] #[.pointer (some ⟨X + 1 + 1, 0, none⟩)], .int .u64 x, undef, undef, undef, undef, undef, undef, undef, undef, undef], defers := [] })
      (fun x a' => fun _ A B' row h hg hr => h) ?assign ?body ?done (fun D c pre V hD hS hx hd => hx.elim)
    case assign =>
      intro l pre x V KQ hI hK
      simp only [encK]
      gi_wp2
      obtain ⟨v', g1, g2, g3, g4⟩ := hI
      have := g4.size
      exact hK _ _ (keeps_later (later_refl V) _) (KK.later (later_refl V) (by omega)) ⟨v', g1, g2, g3, g4⟩ rfl
    case body =>
      rintro l pre x a' V hl ⟨v, h1, h2, h3, h4⟩ rfl hpl
      obtain ⟨av, cv, rfl⟩ := owns_shape2 h2
      have t0 := box_cell (i := 0) h1
      have f0 := box_frozen (i := 0) h1
      simp at t0
      have hTV := lt_of_block h1
      have hrow0 := HQ.out.2.2.short 0 HQ.out.2.2.some
      gi_wp2_with (first
        | (gi_at_builtin; refine wpListIn_append_own _ rfl (.tmp 26) (.tmp 28) 32 rfl w5.heap.size 40 j0 _ 1 8 Try.underlying32 hj jz0 jz1 jz2 rfl (by decide) _ _ _ rfl (h2.alloc _) ⟨V.heap.size, 0, none⟩ 1 1 [.int .u64 x] rfl rfl (cells_new _ _ _) (by simp [Value.oneCell']) (by unfold maxLen; omega) (by omega) (by simp; omega) ?_; intro v6 w6 hown6 hgrow6 _; obtain ⟨g6, cap6, rfl⟩ := ownsRow_succ hown6; have hT6 := box_grown (h2.alloc _) hgrow6 (box_alloc h1 _) (by decide); have t6 := box_cell (i := 0) hT6; have f6 := box_frozen (i := 0) hT6; simp at t6))
      have hk := later_alloc V (.cells #[.int .u64 x] 40)
      have otherB : ∀ (b' : Nat) (o : Obj), b' < w5.heap.size → b' ≠ X + 1 → V.heap[b']? = some o → (w6.setCell ⟨X + 1, 0, none⟩ (.slice (some ⟨g6, 0, none⟩) (pre.length + 1) cap6)).heap[b']? = some o := by
        intro b' o e1 e2 hb'
        refine (heap_setCell_other _ ⟨X + 1, 0, none⟩ b' _ e2).trans ?_
        refine (hgrow6.block b' (by simp; omega) ?_).trans ((hk.block b' (by omega)).trans hb')
        intro e
        have := owns_above (h2.alloc (.cells #[.int .u64 x] 40)) b' e.symm
        omega
      refine ⟨?_, ⟨?_, fun o e => otherB _ o (by omega) (by omega) e, fun o e => otherB _ o (by omega) (by omega) e, fun o e => otherB _ o (by omega) (by omega) e⟩, ⟨_, box_set hT6 _, ?_, ?_, ?_⟩⟩
      · have k1 : KeepsOthers V _ := ((KeepsOthers.alloc V _).trans (KeepsOthers.of_grownBy hgrow6 (own_isCells (h2.alloc _)))).trans (KeepsOthers.setCell _ ⟨X + 1, 0, none⟩ (.slice (some ⟨g6, 0, none⟩) (pre.length + 1) cap6))
        exact k1.from _
      · exact ((hk.mono (by omega)).grown hgrow6 (by simp; omega) (fun k e => Nat.le_trans (by omega) (owns_above h2 k e))).setCell (show w3.heap.size ≤ X + 1 by omega) _
      · have h9 := own_set (i := 0) hown6 hT6 (by decide) (.slice (some ⟨g6, 0, none⟩) (pre.length + 1) cap6)
        simpa using h9
      · exact Nat.le_trans h3 (Nat.le_trans hk.size (Nat.le_trans hgrow6.size (by simp)))
      · exact ((later_trans h4 hk).grown hgrow6 (by simp; omega) (fun k e => Nat.le_trans (by omega) (owns_above h2 k e))).setCell (show w.heap.size ≤ X + 1 by omega) _
    case done =>
      rintro D ys V hD rfl hI ⟨ats, n9, T9, hL9, hn9, hT9⟩ hdef
      obtain ⟨v9, g1, g2, g3', g4⟩ := id hI
      rw [HQ.out.2.1] at g2
      obtain ⟨av, cv, rfl⟩ := owns_shape2 g2
      have t0 := box_cell (i := 0) g1
      simp at t0
      have t1 := box_cell (i := 2) hL9.box
      simp [Int.zero_add] at t1
      have hI3 := fun o' => OwnFrom.putObj (meI_kept (w := w) (T := X + 1) (base := w5.heap.size) (by omega)) o' hI hD hdef rfl
      refine ‹∀ (a : Act) (w_1 : World), _ → _› _ _ ?_
      go_wp2
      go_quiet (fail)
      refine ‹∀ (a : Act) (w_1 : World), Code.wp _ Code.ret _ a w_1 → _› _ _ ?_
      go_wp2
      have g2' := owns_later g2 (later_drewN V nq)
      have g4' := later_trans g4 (later_drewN V nq)
      have hdef' : (V.drewN nq).heap[D]? = some (.deferred (some [])) := hdef
      refine ⟨by simp, .inl ⟨_, _, rfl, run_takeDeferred hdef', ?_⟩⟩
      refine ⟨_, results_tmp3 rfl _ _ _, g4'.trans (belowK_b (w := w) (Nat.le_refl _) _ D _ _ (by omega) hdef' rfl rfl), .inr ⟨hok, _, n9, rfl, ?_, ?_⟩⟩
      · exact owns_down (ownsRow_kept (B := w5.heap.size) g2' (grownBy_putObj' (V.drewN nq) D _) (fun r e => by cases e; exact ⟨hD, _, hdef', rfl⟩)) (by omega)
      · obtain ⟨r, hr, er⟩ := minTo_is ls ls.length hl1
        have hT := perm_row (p := fun l => T9 ≤ ls'.length * (2 * (l.length + 1))) HQ.out.1.symm hT9 r hr
        rw [hle] at hT
        rw [er]
        exact bound_ok hT hn9
  · go_enter Try.func16, Try.ntmps16
    go_wp2_with first
      | (refine (Check_any _ _ _ H.out).mono ?_; rintro e w1 ⟨rfl, n, rfl⟩; rw [if_neg hok])
      | fail
    go_ret3
    exact ⟨later_drewN w n, .inl ⟨Bool.eq_false_iff.2 hok, rfl⟩⟩
end Go.Proofs.Ytenhpfhadbafbaa
