/-
  One cursor, as the laws have it: what each method does to it; the law's wakes.
-/
import Derived.Test.YtdfnfdgkhflonaaCuM
namespace Go.Proofs.Ytdfnfdgkhflonaa
open Go.RowKit
set_option linter.unusedVariables false

/-- A cursor whose blocks lie from B on. -/
def Cur1 (B : Nat) (w : World) (c : Nat) (bs : List Br) (ls : List Int) (ats : List Nat) (st : Int) : Prop := ∃ N rv, CuM w (fun b => b = c) c N rv bs ls ats st ∧ B ≤ c
theorem Cur1.later {B : Nat} {w w' : World} {c : Nat} {bs : List Br} {ls : List Int} {ats : List Nat} {st : Int} (h : Cur1 B w c bs ls ats st) (hb : Below w.heap.size w w') : Cur1 B w' c bs ls ats st := by
  obtain ⟨N, rv, h1, h2⟩ := h
  exact ⟨N, rv, h1.later hb, h2⟩
theorem Cur1.low {B : Nat} {w : World} {c : Nat} {bs : List Br} {ls : List Int} {ats : List Nat} {st : Int} (h : Cur1 B w c bs ls ats st) : B ≤ w.heap.size := by
  obtain ⟨N, rv, h1, h2⟩ := h
  obtain ⟨_, h3, h4, _⟩ := h1.rows
  omega
theorem Turn.below {w w' : World} {c B : Nat} {rv rv' : Value} (h : Turn w w' c rv rv') (hB : B ≤ c) (hs : B ≤ w.heap.size) (hr : ∀ b, rv.ownBlock = some b → B ≤ b) : Below B w w' :=
  ⟨h.os, h.tape, h.output, h.size, fun b hb => h.block b (by omega) (by omega) (fun e => by have := hr b e.symm; omega)⟩

/-- Blocks that are no cursor's and no rows' stay. -/
def Keeps (w w' : World) : Prop := ∀ (X : Nat) (cs : Array Value) (T : TypeId) (fr : Nat × Nat), w.heap[X]? = some (.cells cs T fr) → T ≠ 100 → T ≠ 112 → w'.heap[X]? = some (.cells cs T fr)
theorem keeps_below {w w' : World} (h : Below w.heap.size w w') : Keeps w w' := fun X cs T fr hX _ _ => (h.block X (lt_of_block hX)).trans hX
theorem Keeps.trans {a b c : World} (h : Keeps a b) (k : Keeps b c) : Keeps a c := fun X cs T fr hX h1 h2 => k X cs T fr (h X cs T fr hX h1 h2) h1 h2
theorem Keeps.refl (a : World) : Keeps a a := fun X cs T fr hX _ _ => hX
theorem owns_keeps {w w' : World} {base : Nat} {v : Value} {n : Nat} {xs : List Value} {e : TypeId} {size : Nat} (h : w.ownsRow base e size v n xs) (hk : Keeps w w') (h1 : e ≠ 100) (h2 : e ≠ 112) : w'.ownsRow base e size v n xs := by
  obtain ⟨o1, o2⟩ := h
  refine ⟨o1, ?_⟩
  rcases o2 with o2 | ⟨g, cap, cur, hv, hg, hh, r⟩
  · exact .inl o2
  · exact .inr ⟨g, cap, cur, hv, hg, hk _ _ _ _ hh h1 h2, r⟩
theorem CuM.keeps {w w' : World} {C : Nat → Prop} {c N : Nat} {rv rv' : Value} {bs : List Br} {ls : List Int} {ats : List Nat} {st : Int} (h : CuM w C c N rv bs ls ats st) (hT : Turn w w' c rv rv') : Keeps w w' := by
  obtain ⟨kv, bv, lv, rs, hS, _⟩ := h
  intro X cs T fr hX h1 h2
  refine (hT.block X (lt_of_block hX) (fun e => ?_) (fun e => ?_)).trans hX
  · subst e
    rw [hS.box] at hX
    cases hX
    exact h1 rfl
  · exact own_ne hS.own hX (Ne.symm h2) e

/-- What a move leaves of the cursor. -/
def Gone (B : Nat) (w : World) (c : Nat) (bs : List Br) (ls : List Int) (ats : List Nat) (st kind key : Int) (w' : World) : Prop :=
  (Below B w w' ∧ Keeps w w') ∧ (whyQ bs ls ats kind = 0 → ∃ n, Steps bs ls kind key ats n ∧ Cur1 B w' c bs ls (moved bs ls kind key ats) (st + n)) ∧ (whyQ bs ls ats kind ≠ 0 → Cur1 B w' c bs ls ats st)
theorem gone_of {B : Nat} {w w' : World} {c N : Nat} {rv : Value} {bs : List Br} {ls : List Int} {ats : List Nat} {st kind key : Int} (h : CuM w (fun b => b = c) c N rv bs ls ats st) (hB : B ≤ c) (hW : Went w (fun b => b = c) c N rv bs ls ats st kind key w') : Gone B w c bs ls ats st kind key w' := by
  obtain ⟨hC, hcN, hN, hrv⟩ := h.rows
  by_cases hq : whyQ bs ls ats kind = 0
  · obtain ⟨rv', k1, n, k2, k3⟩ := hW.1 hq
    exact ⟨⟨k1.below hB (by omega) (fun b hb => by have := (hrv b hb).1; omega), h.keeps k1⟩, fun _ => ⟨n, k2, N, rv', k3, hB⟩, fun h => absurd hq h⟩
  · exact ⟨⟨(hW.2 hq).mono (by omega), keeps_below (hW.2 hq)⟩, fun h => absurd h hq, fun _ => ⟨N, rv, h.later (hW.2 hq), hB⟩⟩

section
variable {B : Nat} {w : World} {c : Nat} {bs : List Br} {ls : List Int} {ats : List Nat} {st : Int}
theorem Open1 (h : Cur1 B w c bs ls ats st) (hT : TrieS bs ls) (hs0 : 0 ≤ st) (hs : st ≤ 4611686018427387904) :
    Calls Try.prog 26 #[.pointer (some ⟨c, 0, none⟩)] w fun e w' => e = .returned (.int .i64 (whyQ bs ls ats 1)) ∧ Gone B w c bs ls ats st 1 0 w' := by
  obtain ⟨N, rv, h1, h2⟩ := h
  exact (Open_any h1 hT hs0 hs).mono fun e w' ⟨k1, k2⟩ => ⟨k1, gone_of h1 h2 k2⟩
theorem Up1 (h : Cur1 B w c bs ls ats st) (hT : TrieS bs ls) (hs0 : 0 ≤ st) (hs : st ≤ 4611686018427387904) :
    Calls Try.prog 25 #[.pointer (some ⟨c, 0, none⟩)] w fun e w' => e = .returned (.int .i64 (whyQ bs ls ats 2)) ∧ Gone B w c bs ls ats st 2 0 w' := by
  obtain ⟨N, rv, h1, h2⟩ := h
  exact (Up_any h1 hT hs0 hs).mono fun e w' ⟨k1, k2⟩ => ⟨k1, gone_of h1 h2 k2⟩
theorem Next1 (h : Cur1 B w c bs ls ats st) (hT : TrieS bs ls) (hs0 : 0 ≤ st) (hs : st ≤ 4611686018427387904) :
    Calls Try.prog 27 #[.pointer (some ⟨c, 0, none⟩)] w fun e w' => e = .returned (.int .i64 (whyQ bs ls ats 3)) ∧ Gone B w c bs ls ats st 3 0 w' := by
  obtain ⟨N, rv, h1, h2⟩ := h
  exact (Next_any h1 hT hs0 hs).mono fun e w' ⟨k1, k2⟩ => ⟨k1, gone_of h1 h2 k2⟩
theorem Seek1 {key : Int} (h : Cur1 B w c bs ls ats st) (hT : TrieS bs ls) (hs0 : 0 ≤ st) (hs : st ≤ 4611686018427387904) :
    Calls Try.prog 28 #[.pointer (some ⟨c, 0, none⟩), .int .u64 key] w fun e w' => e = .returned (.int .i64 (whyQ bs ls ats 4)) ∧ Gone B w c bs ls ats st 4 key w' := by
  obtain ⟨N, rv, h1, h2⟩ := h
  exact (CSeek_any h1 hT hs0 hs).mono fun e w' ⟨k1, k2⟩ => ⟨k1, gone_of h1 h2 k2⟩
/-- Why a move of any kind can't be made. -/
def whyM (bs : List Br) (ls : List Int) (ats : List Nat) (kind : Int) : Int := if kind < 1 ∨ 4 < kind then 180 else whyQ bs ls ats kind
/-- What a move of any kind leaves. -/
def GoneM (B : Nat) (w : World) (c : Nat) (bs : List Br) (ls : List Int) (ats : List Nat) (st kind key : Int) (w' : World) : Prop :=
  (Below B w w' ∧ Keeps w w') ∧ (whyM bs ls ats kind = 0 → 1 ≤ kind ∧ kind ≤ 4 ∧ ∃ n, Steps bs ls kind key ats n ∧ Cur1 B w' c bs ls (moved bs ls kind key ats) (st + n)) ∧ (whyM bs ls ats kind ≠ 0 → Cur1 B w' c bs ls ats st)
theorem Move1 {kind key : Int} (h : Cur1 B w c bs ls ats st) (hT : TrieS bs ls) (hs0 : 0 ≤ st) (hs : st ≤ 4611686018427387904) :
    Calls Try.prog 20 #[.pointer (some ⟨c, 0, none⟩), .agg #[.int .i64 kind, .int .u64 key]] w fun e w' => e = .returned (.int .i64 (whyM bs ls ats kind)) ∧ GoneM B w c bs ls ats st kind key w' := by
  have hlow := h.low
  obtain ⟨N, rv, h1, h2⟩ := h
  by_cases hk : kind < 1 ∨ 4 < kind
  · have e : whyM bs ls ats kind = 180 := if_pos hk
    refine (Move_bad c hk).mono fun e' w' ⟨k1, k2⟩ => ⟨by rw [e]; exact k1, ⟨k2.mono hlow, keeps_below k2⟩, fun h => absurd h (by rw [e]; decide), fun _ => ⟨N, rv, h1.later k2, h2⟩⟩
  · have e : whyM bs ls ats kind = whyQ bs ls ats kind := if_neg hk
    unfold GoneM
    rw [e]
    have go : ∀ F, Enters F → Moves F kind → (∀ W, Sem.run Try.prog (Instr.index 109 theMoves (.int .i64 kind)) W = .ok (.func (.func F) #[] #[]) W) → Calls Try.prog 20 #[.pointer (some ⟨c, 0, none⟩), .agg #[.int .i64 kind, .int .u64 key]] w fun e w' => e = .returned (.int .i64 (whyQ bs ls ats kind)) ∧ (Below B w w' ∧ Keeps w w') ∧ (whyQ bs ls ats kind = 0 → 1 ≤ kind ∧ kind ≤ 4 ∧ ∃ n, Steps bs ls kind key ats n ∧ Cur1 B w' c bs ls (moved bs ls kind key ats) (st + n)) ∧ (whyQ bs ls ats kind ≠ 0 → Cur1 B w' c bs ls ats st) := fun F hF hM hix =>
      (Move_kind (by omega) (by omega) hix hF hM h1 hT hs0 hs).mono fun e w' ⟨k1, k2⟩ => by
        obtain ⟨g1, g2, g3⟩ := gone_of h1 h2 k2
        exact ⟨k1, g1, fun hq => ⟨by omega, by omega, g2 hq⟩, g3⟩
    have hc : kind = 1 ∨ kind = 2 ∨ kind = 3 ∨ kind = 4 := by omega
    rcases hc with rfl | rfl | rfl | rfl
    · exact go _ enters_open open_moves moves_at1
    · exact go _ enters_up up_moves moves_at2
    · exact go _ enters_next next_moves moves_at3
    · exact go _ enters_seek seek_moves moves_at4
theorem Depth1 (h : Cur1 B w c bs ls ats st) : Calls Try.prog 22 #[.pointer (some ⟨c, 0, none⟩)] w fun e w' => e = .returned (.int .i64 ats.length) ∧ w = w' := by
  obtain ⟨N, rv, h1, h2⟩ := h; exact Depth_any h1
theorem Steps1 (h : Cur1 B w c bs ls ats st) : Calls Try.prog 19 #[.pointer (some ⟨c, 0, none⟩)] w fun e w' => e = .returned (.int .i64 st) ∧ w = w' := by
  obtain ⟨N, rv, h1, h2⟩ := h; exact Steps_any h1
theorem Left1 (h : Cur1 B w c bs ls ats st) (hT : TrieS bs ls) : Calls Try.prog 23 #[.pointer (some ⟨c, 0, none⟩)] w fun e w' => e = .returned (.int .i64 (leftOf bs ls ats : Nat)) ∧ ∃ n, w' = w.drewN n := by
  obtain ⟨N, rv, h1, h2⟩ := h; exact Left_any h1 hT
theorem Key1 (h : Cur1 B w c bs ls ats st) (hT : TrieS bs ls) : Calls Try.prog 29 #[.pointer (some ⟨c, 0, none⟩)] w fun e w' => e = .returned (.tuple #[.int .u64 (keyOf bs ls ats), .bool (isKey bs ls ats)]) ∧ ∃ n, w' = w.drewN n := by
  obtain ⟨N, rv, h1, h2⟩ := h; exact Key_any h1 hT
theorem Path1 (h : Cur1 B w c bs ls ats st) : Calls Try.prog 21 #[.pointer (some ⟨c, 0, none⟩)] w fun e w' => ∃ v', e = .returned v' ∧ w'.ownsRow w.heap.size 38 1 v' (pathOf bs ls ats).length ((pathOf bs ls ats).map (.int .u64)) ∧ Below w.heap.size w w' := by
  obtain ⟨N, rv, h1, h2⟩ := h; exact Path_any h1
end
/-- A new cursor. -/
theorem New1 (vb vl : Value) (bs : List Br) (ls : List Int) (w : World) (hB : SlB w vb bs) (hL : SlI .u64 w vl ls) (hT : TrieS bs ls) :
    Calls Try.prog 15 #[.agg #[vb, vl]] w fun e w' => ∃ c, e = .returned (.tuple #[.pointer (some ⟨c, 0, none⟩), .int .i64 0]) ∧ Below w.heap.size w w' ∧ Cur1 w.heap.size w' c bs ls [] 0 :=
  (New_ok vb vl bs ls w hB hL hT).mono fun e w' ⟨c, k1, k2, k3, k4⟩ => ⟨c, k1, k2, _, _, k4 (fun b => b = c) rfl (fun b _ _ hb => hb), k3⟩
theorem Cur1.down {B B' : Nat} {w : World} {c : Nat} {bs : List Br} {ls : List Int} {ats : List Nat} {st : Int} (h : Cur1 B w c bs ls ats st) (hB : B' ≤ B) : Cur1 B' w c bs ls ats st := by
  obtain ⟨N, rv, h1, h2⟩ := h
  exact ⟨N, rv, h1, by omega⟩
end Go.Proofs.Ytdfnfdgkhflonaa
