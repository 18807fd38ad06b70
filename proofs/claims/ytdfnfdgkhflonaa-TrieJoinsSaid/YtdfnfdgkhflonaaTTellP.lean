/-
  The keys under a path, and whether there is one, in plain terms. No program in sight.
-/
import Derived.Test.YtdfnfdgkhflonaaTCutF
namespace Go.Proofs.Ytdfnfdgkhflonaa
open Go.RowKit
set_option linter.unusedVariables false

/-- The keys under a path. -/
def keysL (B : List Br) (L : List Int) : List Int → List Int
  | [] => B.map Br.k
  | [key] => underL B L key
  | _ => []
/-- Is there a path? -/
def hasL (B : List Br) (L : List Int) : List Int → Bool
  | [] => decide (0 < B.length)
  | [key] => decide (∃ b ∈ B, b.k = key)
  | [key, leaf] => decide (leaf ∈ underL B L key)
  | _ => false

theorem mem_seg {L : List Int} {b : Br} {p : Pr} : p ∈ segOf L b ↔ p.a = b.k ∧ p.b ∈ (L.drop b.f.toNat).take (b.t.toNat - b.f.toNat) := by
  unfold segOf segTo
  rw [List.mem_map]
  constructor
  · rintro ⟨x, hx, rfl⟩; exact ⟨rfl, hx⟩
  · rintro ⟨h1, h2⟩; exact ⟨p.b, h2, by rw [← h1]⟩
theorem seg_ne {B : List Br} {L : List Int} (h : TrieOk B L) {b : Br} (hb : b ∈ B) : ∃ x, x ∈ (L.drop b.f.toNat).take (b.t.toNat - b.f.toNat) := by
  obtain ⟨i, hi, rfl⟩ := List.getElem_of_mem hb
  obtain ⟨h1, h2, h3⟩ := br_at h hi
  have hl : 0 < ((L.drop B[i].f.toNat).take (B[i].t.toNat - B[i].f.toNat)).length := by simp; omega
  exact ⟨_, List.getElem_mem hl⟩
theorem under_mem {B : List Br} {L : List Int} (h : TrieOk B L) {b : Br} (hb : b ∈ B) : underL B L b.k = (L.drop b.f.toNat).take (b.t.toNat - b.f.toNat) := by
  obtain ⟨i, hi, rfl⟩ := List.getElem_of_mem hb
  unfold underL
  rw [find_yes h hi]
theorem under_none {B : List Br} {L : List Int} {key : Int} (h : ¬ ∃ b ∈ B, b.k = key) : underL B L key = [] := by
  unfold underL
  rw [List.find?_eq_none.2 (fun b hb => by simpa using fun e => h ⟨b, hb, e⟩)]
theorem any0 {B : List Br} {L : List Int} (h : TrieOk B L) : (runOf B L).any (fun _ => true) = decide (0 < B.length) := by
  by_cases h0 : 0 < B.length
  · rw [decide_eq_true h0, List.any_eq_true]
    have hb : B[0] ∈ B := List.getElem_mem h0
    obtain ⟨x, hx⟩ := seg_ne h hb
    exact ⟨⟨B[0].k, x⟩, List.mem_flatMap.2 ⟨B[0], hb, mem_seg.2 ⟨rfl, hx⟩⟩, rfl⟩
  · have : B = [] := List.eq_nil_of_length_eq_zero (by omega)
    subst this
    rfl
theorem any1 {B : List Br} {L : List Int} (h : TrieOk B L) (key : Int) : (runOf B L).any (fun p => p.a == key) = decide (∃ b ∈ B, b.k = key) := by
  by_cases h0 : ∃ b ∈ B, b.k = key
  · rw [decide_eq_true h0, List.any_eq_true]
    obtain ⟨b, hb, hk⟩ := h0
    obtain ⟨x, hx⟩ := seg_ne h hb
    exact ⟨⟨b.k, x⟩, List.mem_flatMap.2 ⟨b, hb, mem_seg.2 ⟨rfl, hx⟩⟩, by simpa using hk⟩
  · rw [decide_eq_false h0, List.any_eq_false]
    intro p hp
    obtain ⟨b, hb, hp⟩ := List.mem_flatMap.1 hp
    have := (mem_seg.1 hp).1
    simpa using fun e => h0 ⟨b, hb, by rw [← this]; exact e⟩
theorem any2 {B : List Br} {L : List Int} (h : TrieOk B L) (key leaf : Int) : (runOf B L).any (fun p => p.a == key && p.b == leaf) = decide (leaf ∈ underL B L key) := by
  by_cases h0 : leaf ∈ underL B L key
  · rw [decide_eq_true h0, List.any_eq_true]
    by_cases h1 : ∃ b ∈ B, b.k = key
    · obtain ⟨b, hb, rfl⟩ := h1
      rw [under_mem h hb] at h0
      exact ⟨⟨b.k, leaf⟩, List.mem_flatMap.2 ⟨b, hb, mem_seg.2 ⟨rfl, h0⟩⟩, by simp⟩
    · rw [under_none h1] at h0; cases h0
  · rw [decide_eq_false h0, List.any_eq_false]
    intro p hp
    obtain ⟨b, hb, hp⟩ := List.mem_flatMap.1 hp
    obtain ⟨e1, e2⟩ := mem_seg.1 hp
    intro hc
    simp at hc
    obtain ⟨c1, c2⟩ := hc
    apply h0
    rw [← c1, ← c2, e1, under_mem h hb]
    exact e2
theorem trieOk_nil : TrieOk [] [] := ⟨by simp, fun i hi => by simp at hi, rfl⟩
theorem keysL_nil (p : List Int) : keysL [] [] p = [] := by
  match p with
  | [] => rfl
  | [_] => rfl
  | _ :: _ :: _ => rfl
theorem hasL_nil (p : List Int) : hasL [] [] p = false := by
  match p with
  | [] => rfl
  | [_] => simp [hasL]
  | [_, _] => simp [hasL, underL]
  | _ :: _ :: _ :: _ => rfl
theorem keysL_len {B : List Br} {L : List Int} {b l : Nat} (hB : B.length ≤ b) (hL : L.length ≤ l) (p : List Int) : (keysL B L p).length ≤ b + l := by
  match p with
  | [] => simp [keysL]; omega
  | [k] => have := under_len (B := B) (L := L) k; simp only [keysL]; omega
  | _ :: _ :: _ => simp [keysL]
theorem keysL_wf {B : List Br} {L : List Int} (hB : ∀ b ∈ B, b.wf) (hL : ∀ x ∈ L, (Lit.int .u64 x).wf = true) (p : List Int) : ∀ x ∈ keysL B L p, (Lit.int .u64 x).wf = true := by
  match p with
  | [] =>
    intro x hx
    obtain ⟨b, hb, rfl⟩ := List.mem_map.1 hx
    exact (hB b hb).1
  | [k] => exact under_wf hL k
  | _ :: _ :: _ => intro x hx; cases hx
end Go.Proofs.Ytdfnfdgkhflonaa
