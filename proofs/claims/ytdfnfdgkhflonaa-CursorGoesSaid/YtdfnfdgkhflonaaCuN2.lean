/-
  One cursor, the bound of its blocks said.
-/
import Derived.Test.YtdfnfdgkhflonaaCuN
namespace Go.Proofs.Ytdfnfdgkhflonaa
open Go.RowKit
set_option linter.unusedVariables false

/-- A cursor whose blocks lie from B on. -/
def CurN (B N : Nat) (w : World) (c : Nat) (bs : List Br) (ls : List Int) (ats : List Nat) (st : Int) : Prop := ∃ rv, CuM w (fun b => b = c) c N rv bs ls ats st ∧ B ≤ c
theorem CurN.later {B N : Nat} {w w' : World} {c : Nat} {bs : List Br} {ls : List Int} {ats : List Nat} {st : Int} (h : CurN B N w c bs ls ats st) (hb : Below w.heap.size w w') : CurN B N w' c bs ls ats st := by
  obtain ⟨rv, h1, h2⟩ := h
  exact ⟨rv, h1.later hb, h2⟩
theorem CurN.low {B N : Nat} {w : World} {c : Nat} {bs : List Br} {ls : List Int} {ats : List Nat} {st : Int} (h : CurN B N w c bs ls ats st) : B ≤ w.heap.size := by
  obtain ⟨rv, h1, h2⟩ := h
  obtain ⟨_, h3, h4, _⟩ := h1.rows
  omega
/-- What a move leaves of the cursor. -/
def GoneN (B N : Nat) (w : World) (c : Nat) (bs : List Br) (ls : List Int) (ats : List Nat) (st kind key : Int) (w' : World) : Prop :=
  (Below B w w' ∧ Keeps w w') ∧ (whyQ bs ls ats kind = 0 → ∃ n, Steps bs ls kind key ats n ∧ CurN B N w' c bs ls (moved bs ls kind key ats) (st + n)) ∧ (whyQ bs ls ats kind ≠ 0 → CurN B N w' c bs ls ats st)
theorem goneN_of {B : Nat} {w w' : World} {c N : Nat} {rv : Value} {bs : List Br} {ls : List Int} {ats : List Nat} {st kind key : Int} (h : CuM w (fun b => b = c) c N rv bs ls ats st) (hB : B ≤ c) (hW : Went w (fun b => b = c) c N rv bs ls ats st kind key w') : GoneN B N w c bs ls ats st kind key w' := by
  obtain ⟨hC, hcN, hN, hrv⟩ := h.rows
  by_cases hq : whyQ bs ls ats kind = 0
  · obtain ⟨rv', k1, n, k2, k3⟩ := hW.1 hq
    exact ⟨⟨k1.below hB (by omega) (fun b hb => by have := (hrv b hb).1; omega), h.keeps k1⟩, fun _ => ⟨n, k2, rv', k3, hB⟩, fun h => absurd hq h⟩
  · exact ⟨⟨(hW.2 hq).mono (by omega), keeps_below (hW.2 hq)⟩, fun h => absurd h hq, fun _ => ⟨rv, h.later (hW.2 hq), hB⟩⟩

section
variable {B N : Nat} {w : World} {c : Nat} {bs : List Br} {ls : List Int} {ats : List Nat} {st : Int}
theorem OpenN (h : CurN B N w c bs ls ats st) (hT : TrieS bs ls) (hs0 : 0 ≤ st) (hs : st ≤ 4611686018427387904) :
    Calls Try.prog 26 #[.pointer (some ⟨c, 0, none⟩)] w fun e w' => e = .returned (.int .i64 (whyQ bs ls ats 1)) ∧ GoneN B N w c bs ls ats st 1 0 w' := by
  obtain ⟨rv, h1, h2⟩ := h
  exact (Open_any h1 hT hs0 hs).mono fun e w' ⟨k1, k2⟩ => ⟨k1, goneN_of h1 h2 k2⟩
theorem UpN (h : CurN B N w c bs ls ats st) (hT : TrieS bs ls) (hs0 : 0 ≤ st) (hs : st ≤ 4611686018427387904) :
    Calls Try.prog 25 #[.pointer (some ⟨c, 0, none⟩)] w fun e w' => e = .returned (.int .i64 (whyQ bs ls ats 2)) ∧ GoneN B N w c bs ls ats st 2 0 w' := by
  obtain ⟨rv, h1, h2⟩ := h
  exact (Up_any h1 hT hs0 hs).mono fun e w' ⟨k1, k2⟩ => ⟨k1, goneN_of h1 h2 k2⟩
theorem NextN (h : CurN B N w c bs ls ats st) (hT : TrieS bs ls) (hs0 : 0 ≤ st) (hs : st ≤ 4611686018427387904) :
    Calls Try.prog 27 #[.pointer (some ⟨c, 0, none⟩)] w fun e w' => e = .returned (.int .i64 (whyQ bs ls ats 3)) ∧ GoneN B N w c bs ls ats st 3 0 w' := by
  obtain ⟨rv, h1, h2⟩ := h
  exact (Next_any h1 hT hs0 hs).mono fun e w' ⟨k1, k2⟩ => ⟨k1, goneN_of h1 h2 k2⟩
theorem SeekN {key : Int} (h : CurN B N w c bs ls ats st) (hT : TrieS bs ls) (hs0 : 0 ≤ st) (hs : st ≤ 4611686018427387904) :
    Calls Try.prog 28 #[.pointer (some ⟨c, 0, none⟩), .int .u64 key] w fun e w' => e = .returned (.int .i64 (whyQ bs ls ats 4)) ∧ GoneN B N w c bs ls ats st 4 key w' := by
  obtain ⟨rv, h1, h2⟩ := h
  exact (CSeek_any h1 hT hs0 hs).mono fun e w' ⟨k1, k2⟩ => ⟨k1, goneN_of h1 h2 k2⟩
/-- What a move of any kind leaves. -/
def GoneMN (B N : Nat) (w : World) (c : Nat) (bs : List Br) (ls : List Int) (ats : List Nat) (st kind key : Int) (w' : World) : Prop :=
  (Below B w w' ∧ Keeps w w') ∧ (whyM bs ls ats kind = 0 → 1 ≤ kind ∧ kind ≤ 4 ∧ ∃ n, Steps bs ls kind key ats n ∧ CurN B N w' c bs ls (moved bs ls kind key ats) (st + n)) ∧ (whyM bs ls ats kind ≠ 0 → CurN B N w' c bs ls ats st)
theorem MoveN {kind key : Int} (h : CurN B N w c bs ls ats st) (hT : TrieS bs ls) (hs0 : 0 ≤ st) (hs : st ≤ 4611686018427387904) :
    Calls Try.prog 20 #[.pointer (some ⟨c, 0, none⟩), .agg #[.int .i64 kind, .int .u64 key]] w fun e w' => e = .returned (.int .i64 (whyM bs ls ats kind)) ∧ GoneMN B N w c bs ls ats st kind key w' := by
  have hlow := h.low
  obtain ⟨rv, h1, h2⟩ := h
  by_cases hk : kind < 1 ∨ 4 < kind
  · have e : whyM bs ls ats kind = 180 := if_pos hk
    refine (Move_bad c hk).mono fun e' w' ⟨k1, k2⟩ => ⟨by rw [e]; exact k1, ⟨k2.mono hlow, keeps_below k2⟩, fun h => absurd h (by rw [e]; decide), fun _ => ⟨rv, h1.later k2, h2⟩⟩
  · have e : whyM bs ls ats kind = whyQ bs ls ats kind := if_neg hk
    unfold GoneMN
    rw [e]
    have go : ∀ F, Enters F → Moves F kind → (∀ W, Sem.run Try.prog (Instr.index 109 theMoves (.int .i64 kind)) W = .ok (.func (.func F) #[] #[]) W) → Calls Try.prog 20 #[.pointer (some ⟨c, 0, none⟩), .agg #[.int .i64 kind, .int .u64 key]] w fun e w' => e = .returned (.int .i64 (whyQ bs ls ats kind)) ∧ (Below B w w' ∧ Keeps w w') ∧ (whyQ bs ls ats kind = 0 → 1 ≤ kind ∧ kind ≤ 4 ∧ ∃ n, Steps bs ls kind key ats n ∧ CurN B N w' c bs ls (moved bs ls kind key ats) (st + n)) ∧ (whyQ bs ls ats kind ≠ 0 → CurN B N w' c bs ls ats st) := fun F hF hM hix =>
      (Move_kind (by omega) (by omega) hix hF hM h1 hT hs0 hs).mono fun e w' ⟨k1, k2⟩ => by
        obtain ⟨g1, g2, g3⟩ := goneN_of h1 h2 k2
        exact ⟨k1, g1, fun hq => ⟨by omega, by omega, g2 hq⟩, g3⟩
    have hc : kind = 1 ∨ kind = 2 ∨ kind = 3 ∨ kind = 4 := by omega
    rcases hc with rfl | rfl | rfl | rfl
    · exact go _ enters_open open_moves moves_at1
    · exact go _ enters_up up_moves moves_at2
    · exact go _ enters_next next_moves moves_at3
    · exact go _ enters_seek seek_moves moves_at4
theorem DepthN (h : CurN B N w c bs ls ats st) : Calls Try.prog 22 #[.pointer (some ⟨c, 0, none⟩)] w fun e w' => e = .returned (.int .i64 ats.length) ∧ w = w' := by
  obtain ⟨rv, h1, h2⟩ := h; exact Depth_any h1
theorem StepsN (h : CurN B N w c bs ls ats st) : Calls Try.prog 19 #[.pointer (some ⟨c, 0, none⟩)] w fun e w' => e = .returned (.int .i64 st) ∧ w = w' := by
  obtain ⟨rv, h1, h2⟩ := h; exact Steps_any h1
theorem LeftN (h : CurN B N w c bs ls ats st) (hT : TrieS bs ls) : Calls Try.prog 23 #[.pointer (some ⟨c, 0, none⟩)] w fun e w' => e = .returned (.int .i64 (leftOf bs ls ats : Nat)) ∧ ∃ n, w' = w.drewN n := by
  obtain ⟨rv, h1, h2⟩ := h; exact Left_any h1 hT
theorem KeyN (h : CurN B N w c bs ls ats st) (hT : TrieS bs ls) : Calls Try.prog 29 #[.pointer (some ⟨c, 0, none⟩)] w fun e w' => e = .returned (.tuple #[.int .u64 (keyOf bs ls ats), .bool (isKey bs ls ats)]) ∧ ∃ n, w' = w.drewN n := by
  obtain ⟨rv, h1, h2⟩ := h; exact Key_any h1 hT
theorem PathN (h : CurN B N w c bs ls ats st) : Calls Try.prog 21 #[.pointer (some ⟨c, 0, none⟩)] w fun e w' => ∃ v', e = .returned v' ∧ w'.ownsRow w.heap.size 38 1 v' (pathOf bs ls ats).length ((pathOf bs ls ats).map (.int .u64)) ∧ Below w.heap.size w w' := by
  obtain ⟨rv, h1, h2⟩ := h; exact Path_any h1
end
/-- A new cursor. -/
theorem NewN (vb vl : Value) (bs : List Br) (ls : List Int) (w : World) (hB : SlB w vb bs) (hL : SlI .u64 w vl ls) (hT : TrieS bs ls) :
    Calls Try.prog 15 #[.agg #[vb, vl]] w fun e w' => ∃ c, e = .returned (.tuple #[.pointer (some ⟨c, 0, none⟩), .int .i64 0]) ∧ Below w.heap.size w w' ∧ CurN w.heap.size w'.heap.size w' c bs ls [] 0 :=
  (New_ok vb vl bs ls w hB hL hT).mono fun e w' ⟨c, k1, k2, k3, k4⟩ => ⟨c, k1, k2, _, k4 (fun b => b = c) rfl (fun b _ _ hb => hb), k3⟩
theorem CurN.down {B B' N : Nat} {w : World} {c : Nat} {bs : List Br} {ls : List Int} {ats : List Nat} {st : Int} (h : CurN B N w c bs ls ats st) (hB : B' ≤ B) : CurN B' N w c bs ls ats st := by
  obtain ⟨rv, h1, h2⟩ := h
  exact ⟨rv, h1, by omega⟩
end Go.Proofs.Ytdfnfdgkhflonaa
