/-
  Two cursors side by side.
-/
import Derived.Test.YtdfnfdgkhflonaaCuQ
namespace Go.Proofs.Ytdfnfdgkhflonaa
open Go.RowKit
set_option linter.unusedVariables false

/-- Two cursors over one trie, apart from each other. -/
def Two (B N : Nat) (w : World) (a b : Nat) (bs : List Br) (ls : List Int) (atsA : List Nat) (stA : Int) (atsB : List Nat) (stB : Int) : Prop :=
  ∃ rva rvb, CuM w (fun k => k = a ∨ k = b) a N rva bs ls atsA stA ∧ CuM w (fun k => k = a ∨ k = b) b N rvb bs ls atsB stB ∧ B ≤ a ∧ B ≤ b ∧ a ≠ b ∧ ∀ k, rva.ownBlock = some k → rvb.ownBlock ≠ some k
section
variable {B N : Nat} {w w' : World} {a b : Nat} {bs : List Br} {ls : List Int} {atsA atsB : List Nat} {stA stB : Int} {kind key : Int}
theorem Two.symm (h : Two B N w a b bs ls atsA stA atsB stB) : Two B N w b a bs ls atsB stB atsA stA := by
  obtain ⟨rva, rvb, h1, h2, h3, h4, h5, h6⟩ := h
  have e : (fun k => k = a ∨ k = b) = (fun k => k = b ∨ k = a) := by funext k; exact propext Or.comm
  rw [e] at h1 h2
  exact ⟨rvb, rva, h2, h1, h4, h3, h5.symm, fun k hk hk' => h6 k hk' hk⟩
theorem Two.later (h : Two B N w a b bs ls atsA stA atsB stB) (hb : Below w.heap.size w w') : Two B N w' a b bs ls atsA stA atsB stB := by
  obtain ⟨rva, rvb, h1, h2, r⟩ := h
  exact ⟨rva, rvb, h1.later hb, h2.later hb, r⟩
theorem Two.low (h : Two B N w a b bs ls atsA stA atsB stB) : B ≤ w.heap.size := by
  obtain ⟨rva, rvb, h1, h2, h3, _⟩ := h
  obtain ⟨_, g1, g2, _⟩ := h1.rows
  omega
theorem Two.bound (h : Two B N w a b bs ls atsA stA atsB stB) (hT : TrieS bs ls) : lastAt atsA ≤ (rowAt bs ls atsA).length ∧ (rowAt bs ls atsA).length ≤ 1048576 := by
  obtain ⟨rva, rvb, h1, _⟩ := h; exact h1.bound hT
theorem Two.ats (h : Two B N w a b bs ls atsA stA atsB stB) (hT : TrieS bs ls) (h0 : atsA ≠ []) : atsA = atsA.dropLast ++ [lastAt atsA] := by
  obtain ⟨rva, rvb, ⟨kv, bv, lv, rs, hS, hC, h1, h2, h3, l1, l2, l3, hR⟩, _⟩ := h
  rcases rows_last hT h1 hR with ⟨rfl, _⟩ | ⟨rs0, v, _, _, ra, _⟩
  · exact absurd rfl h0
  · exact ra
theorem Two.one (h : Two B N w a b bs ls atsA stA atsB stB) : ∃ N rv, CuM w (fun k => k = a ∨ k = b) a N rv bs ls atsA stA ∧ B ≤ a := by
  obtain ⟨rva, rvb, h1, h2, h3, _⟩ := h
  exact ⟨N, rva, h1, h3⟩

/-- What a move of the first leaves of the two. -/
def Gone2 (B N : Nat) (w : World) (a b : Nat) (bs : List Br) (ls : List Int) (atsA : List Nat) (stA : Int) (atsB : List Nat) (stB : Int) (why kind key : Int) (w' : World) : Prop :=
  (Below B w w' ∧ Keeps w w') ∧ (why = 0 → 1 ≤ kind ∧ kind ≤ 4 ∧ ∃ n, Steps bs ls kind key atsA n ∧ Two B N w' a b bs ls (moved bs ls kind key atsA) (stA + n) atsB stB) ∧ (why ≠ 0 → Two B N w' a b bs ls atsA stA atsB stB)
theorem two_went {rva rvb : Value} (h1 : CuM w (fun k => k = a ∨ k = b) a N rva bs ls atsA stA) (h2 : CuM w (fun k => k = a ∨ k = b) b N rvb bs ls atsB stB) (h3 : B ≤ a) (h4 : B ≤ b) (h5 : a ≠ b) (h6 : ∀ k, rva.ownBlock = some k → rvb.ownBlock ≠ some k)
    (hk : 1 ≤ kind ∧ kind ≤ 4) (hW : Went w (fun k => k = a ∨ k = b) a N rva bs ls atsA stA kind key w') : Gone2 B N w a b bs ls atsA stA atsB stB (whyQ bs ls atsA kind) kind key w' := by
  obtain ⟨hC, hcN, hN, hrv⟩ := h1.rows
  obtain ⟨hC2, hcN2, hN2, hrv2⟩ := h2.rows
  by_cases hq : whyQ bs ls atsA kind = 0
  · obtain ⟨rv', k1, n, k2, k3⟩ := hW.1 hq
    refine ⟨⟨k1.below h3 (by omega) (fun b hb => by have := (hrv b hb).1; omega), h1.keeps k1⟩, fun _ => ⟨hk.1, hk.2, n, k2, rv', rvb, k3, ?_, h3, h4, h5, fun k hk1 hk2 => ?_⟩, fun h => absurd hq h⟩
    · refine h2.agree (k1.agree hN hC (fun b hb => (hrv b hb).1)) (k1.block b (by omega) (Ne.symm h5) (fun e => by have := (hrv b e.symm).1; omega)) (fun k hk => k1.block k (hrv2 k hk).2 (fun e => by have := (hrv2 k hk).1; omega) (fun e => h6 k e.symm hk))
    · rcases k1.rows with g | g
      · exact h6 k (g ▸ hk1) hk2
      · have := g k hk1; have := (hrv2 k hk2).2; omega
  · exact ⟨⟨(hW.2 hq).mono (by omega), keeps_below (hW.2 hq)⟩, fun h => absurd h hq, fun _ => ⟨rva, rvb, h1.later (hW.2 hq), h2.later (hW.2 hq), h3, h4, h5, h6⟩⟩

theorem Open2 (h : Two B N w a b bs ls atsA stA atsB stB) (hT : TrieS bs ls) (hs0 : 0 ≤ stA) (hs : stA ≤ 4611686018427387904) :
    Calls Try.prog 26 #[.pointer (some ⟨a, 0, none⟩)] w fun e w' => e = .returned (.int .i64 (whyQ bs ls atsA 1)) ∧ Gone2 B N w a b bs ls atsA stA atsB stB (whyQ bs ls atsA 1) 1 0 w' := by
  obtain ⟨rva, rvb, h1, h2, h3, h4, h5, h6⟩ := h
  exact (Open_any h1 hT hs0 hs).mono fun e w' ⟨k1, k2⟩ => ⟨k1, two_went h1 h2 h3 h4 h5 h6 (by decide) k2⟩
theorem Up2 (h : Two B N w a b bs ls atsA stA atsB stB) (hT : TrieS bs ls) (hs0 : 0 ≤ stA) (hs : stA ≤ 4611686018427387904) :
    Calls Try.prog 25 #[.pointer (some ⟨a, 0, none⟩)] w fun e w' => e = .returned (.int .i64 (whyQ bs ls atsA 2)) ∧ Gone2 B N w a b bs ls atsA stA atsB stB (whyQ bs ls atsA 2) 2 0 w' := by
  obtain ⟨rva, rvb, h1, h2, h3, h4, h5, h6⟩ := h
  exact (Up_any h1 hT hs0 hs).mono fun e w' ⟨k1, k2⟩ => ⟨k1, two_went h1 h2 h3 h4 h5 h6 (by decide) k2⟩
theorem Next2 (h : Two B N w a b bs ls atsA stA atsB stB) (hT : TrieS bs ls) (hs0 : 0 ≤ stA) (hs : stA ≤ 4611686018427387904) :
    Calls Try.prog 27 #[.pointer (some ⟨a, 0, none⟩)] w fun e w' => e = .returned (.int .i64 (whyQ bs ls atsA 3)) ∧ Gone2 B N w a b bs ls atsA stA atsB stB (whyQ bs ls atsA 3) 3 0 w' := by
  obtain ⟨rva, rvb, h1, h2, h3, h4, h5, h6⟩ := h
  exact (Next_any h1 hT hs0 hs).mono fun e w' ⟨k1, k2⟩ => ⟨k1, two_went h1 h2 h3 h4 h5 h6 (by decide) k2⟩
theorem Seek2 (h : Two B N w a b bs ls atsA stA atsB stB) (hT : TrieS bs ls) (hs0 : 0 ≤ stA) (hs : stA ≤ 4611686018427387904) :
    Calls Try.prog 28 #[.pointer (some ⟨a, 0, none⟩), .int .u64 key] w fun e w' => e = .returned (.int .i64 (whyQ bs ls atsA 4)) ∧ Gone2 B N w a b bs ls atsA stA atsB stB (whyQ bs ls atsA 4) 4 key w' := by
  obtain ⟨rva, rvb, h1, h2, h3, h4, h5, h6⟩ := h
  exact (CSeek_any h1 hT hs0 hs).mono fun e w' ⟨k1, k2⟩ => ⟨k1, two_went h1 h2 h3 h4 h5 h6 (by decide) k2⟩
theorem Move2 (h : Two B N w a b bs ls atsA stA atsB stB) (hT : TrieS bs ls) (hs0 : 0 ≤ stA) (hs : stA ≤ 4611686018427387904) :
    Calls Try.prog 20 #[.pointer (some ⟨a, 0, none⟩), .agg #[.int .i64 kind, .int .u64 key]] w fun e w' => e = .returned (.int .i64 (whyM bs ls atsA kind)) ∧ Gone2 B N w a b bs ls atsA stA atsB stB (whyM bs ls atsA kind) kind key w' := by
  have hlow := h.low
  have h0 := h
  obtain ⟨rva, rvb, h1, h2, h3, h4, h5, h6⟩ := h
  by_cases hk : kind < 1 ∨ 4 < kind
  · have e : whyM bs ls atsA kind = 180 := if_pos hk
    refine (Move_bad a hk).mono fun e' w' ⟨k1, k2⟩ => ⟨by rw [e]; exact k1, ⟨k2.mono hlow, keeps_below k2⟩, fun h => absurd h (by rw [e]; decide), fun _ => h0.later k2⟩
  · have e : whyM bs ls atsA kind = whyQ bs ls atsA kind := if_neg hk
    rw [e]
    have go : ∀ F, Enters F → Moves F kind → (∀ W, Sem.run Try.prog (Instr.index 109 theMoves (.int .i64 kind)) W = .ok (.func (.func F) #[] #[]) W) → Calls Try.prog 20 #[.pointer (some ⟨a, 0, none⟩), .agg #[.int .i64 kind, .int .u64 key]] w fun e w' => e = .returned (.int .i64 (whyQ bs ls atsA kind)) ∧ Gone2 B N w a b bs ls atsA stA atsB stB (whyQ bs ls atsA kind) kind key w' := fun F hF hM hix =>
      (Move_kind (by omega) (by omega) hix hF hM h1 hT hs0 hs).mono fun e w' ⟨k1, k2⟩ => ⟨k1, two_went h1 h2 h3 h4 h5 h6 (by omega) k2⟩
    have hc : kind = 1 ∨ kind = 2 ∨ kind = 3 ∨ kind = 4 := by omega
    rcases hc with rfl | rfl | rfl | rfl
    · exact go _ enters_open open_moves moves_at1
    · exact go _ enters_up up_moves moves_at2
    · exact go _ enters_next next_moves moves_at3
    · exact go _ enters_seek seek_moves moves_at4
theorem Depth2 (h : Two B N w a b bs ls atsA stA atsB stB) : Calls Try.prog 22 #[.pointer (some ⟨a, 0, none⟩)] w fun e w' => e = .returned (.int .i64 atsA.length) ∧ w = w' := by
  obtain ⟨rva, rvb, h1, _⟩ := h; exact Depth_any h1
theorem Steps2 (h : Two B N w a b bs ls atsA stA atsB stB) : Calls Try.prog 19 #[.pointer (some ⟨a, 0, none⟩)] w fun e w' => e = .returned (.int .i64 stA) ∧ w = w' := by
  obtain ⟨rva, rvb, h1, _⟩ := h; exact Steps_any h1
theorem Left2 (h : Two B N w a b bs ls atsA stA atsB stB) (hT : TrieS bs ls) : Calls Try.prog 23 #[.pointer (some ⟨a, 0, none⟩)] w fun e w' => e = .returned (.int .i64 (leftOf bs ls atsA : Nat)) ∧ ∃ n, w' = w.drewN n := by
  obtain ⟨rva, rvb, h1, _⟩ := h; exact Left_any h1 hT
theorem Key2 (h : Two B N w a b bs ls atsA stA atsB stB) (hT : TrieS bs ls) : Calls Try.prog 29 #[.pointer (some ⟨a, 0, none⟩)] w fun e w' => e = .returned (.tuple #[.int .u64 (keyOf bs ls atsA), .bool (isKey bs ls atsA)]) ∧ ∃ n, w' = w.drewN n := by
  obtain ⟨rva, rvb, h1, _⟩ := h; exact Key_any h1 hT
theorem Path2 (h : Two B N w a b bs ls atsA stA atsB stB) : Calls Try.prog 21 #[.pointer (some ⟨a, 0, none⟩)] w fun e w' => ∃ v', e = .returned v' ∧ w'.ownsRow w.heap.size 38 1 v' (pathOf bs ls atsA).length ((pathOf bs ls atsA).map (.int .u64)) ∧ Below w.heap.size w w' := by
  obtain ⟨rva, rvb, h1, _⟩ := h; exact Path_any h1
end
/-- A new cursor's bound may be raised. -/
theorem CuM.raise {w : World} {C : Nat → Prop} {c N N' : Nat} {rv : Value} {bs : List Br} {ls : List Int} {st : Int} (h : CuM w C c N (.slice none 0 0) bs ls [] st) (hN : N ≤ N') (hN' : N' ≤ w.heap.size) : CuM w C c N' (.slice none 0 0) bs ls [] st := by
  obtain ⟨kv, bv, lv, rs, hS, hC, h1, h2, h3, l1, l2, l3, hR⟩ := h
  have hR : rs = [] := hR
  subst hR
  have up : ∀ v, Low N C v → Low N' C v := fun v hv b hb => ⟨Nat.lt_of_lt_of_le (hv b hb).1 hN, (hv b hb).2⟩
  exact ⟨kv, bv, lv, [], ⟨hS.box, Nat.lt_of_lt_of_le hS.low hN, hN', World.ownsRow_nil _ _ _ _⟩, hC, h1, h2, h3, up _ l1, up _ l2, up _ l3, rfl⟩
/-- Two new cursors. -/
theorem two_new {B : Nat} {w1 w2 wx w3 : World} {a b : Nat} {bs : List Br} {ls : List Int} (hB : B ≤ w1.heap.size) (ha : w1.heap.size ≤ a)
    (Ha : ∀ C : Nat → Prop, C a → (∀ k, w1.heap.size ≤ k → k < w2.heap.size → k ≠ a → ¬ C k) → CuM w2 C a w2.heap.size (.slice none 0 0) bs ls [] 0) (hx : Below w2.heap.size w2 wx) (hb : Below wx.heap.size wx w3) (hbx : wx.heap.size ≤ b)
    (Hb : ∀ C : Nat → Prop, C b → (∀ k, wx.heap.size ≤ k → k < w3.heap.size → k ≠ b → ¬ C k) → CuM w3 C b w3.heap.size (.slice none 0 0) bs ls [] 0) (h12 : w1.heap.size ≤ w2.heap.size) : Two B w3.heap.size w3 a b bs ls [] 0 [] 0 := by
  have hx2 := hx.size
  have hb2 := hb.size
  have e1 := Ha (fun k => k = a ∨ k = b) (.inl rfl) (fun k k1 k2 k3 k4 => by rcases k4 with k4 | k4 <;> omega)
  have hlt := e1.rows.2.1
  have e2 := Hb (fun k => k = a ∨ k = b) (.inr rfl) (fun k k1 k2 k3 k4 => by rcases k4 with k4 | k4 <;> omega)
  refine ⟨_, _, CuM.raise (rv := .slice none 0 0) ((e1.later hx).later hb) (by omega) (Nat.le_refl _), e2, by omega, by omega, by omega, fun k hk => by cases hk⟩
end Go.Proofs.Ytdfnfdgkhflonaa
