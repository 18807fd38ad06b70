/-
  Relations, said plainly: how rows stand, rows in order, columns. No program in sight.
-/
import Derived.Test.YtdeiinfljfgmeaaCom
namespace Go.Proofs.Ytdeiinfljfgmeaa
set_option linter.unusedVariables false

/-- How two rows, as wide, stand: -1, 0, 1. -/
def lexC : List Int → List Int → Int
  | x :: a, y :: b => if x < y then -1 else if y < x then 1 else lexC a b
  | _, _ => 0
theorem lexC_cases (a b : List Int) : lexC a b = -1 ∨ lexC a b = 0 ∨ lexC a b = 1 := by
  induction a generalizing b with
  | nil => exact .inr (.inl rfl)
  | cons x a ih =>
    cases b with
    | nil => exact .inr (.inl rfl)
    | cons y b =>
      unfold lexC
      split
      · exact .inl rfl
      · split
        · exact .inr (.inr rfl)
        · exact ih b
theorem lexC_self (a : List Int) : lexC a a = 0 := by
  induction a with
  | nil => rfl
  | cons x a ih => unfold lexC; rw [if_neg (by omega), if_neg (by omega), ih]
theorem lexC_neg (a b : List Int) : lexC b a = -lexC a b := by
  induction a generalizing b with
  | nil => cases b <;> rfl
  | cons x a ih =>
    cases b with
    | nil => rfl
    | cons y b =>
      unfold lexC
      by_cases h1 : x < y
      · rw [if_neg (by omega), if_pos h1, if_pos h1]; rfl
      · by_cases h2 : y < x
        · rw [if_pos h2, if_neg h1, if_pos h2]
        · rw [if_neg h2, if_neg h1, if_neg h1, if_neg h2, ih]
theorem lexC_eq {a b : List Int} (hl : a.length = b.length) (h : lexC a b = 0) : a = b := by
  induction a generalizing b with
  | nil => exact (List.eq_nil_of_length_eq_zero hl.symm).symm
  | cons x a ih =>
    cases b with
    | nil => simp at hl
    | cons y b =>
      unfold lexC at h
      by_cases h1 : x < y
      · rw [if_pos h1] at h; omega
      · by_cases h2 : y < x
        · rw [if_neg h1, if_pos h2] at h; omega
        · rw [if_neg h1, if_neg h2] at h
          rw [ih (by simpa using hl) h, show x = y by omega]
theorem lexC_trans {a b c : List Int} (h1 : a.length = b.length) (h2 : b.length = c.length) (hab : lexC a b = -1) (hbc : lexC b c = -1) : lexC a c = -1 := by
  induction a generalizing b c with
  | nil => cases b <;> simp [lexC] at hab
  | cons x a ih =>
    cases b with
    | nil => simp at h1
    | cons y b =>
      cases c with
      | nil => simp at h2
      | cons z c =>
        unfold lexC at hab hbc ⊢
        by_cases p1 : x < y
        · by_cases q1 : y < z
          · rw [if_pos (by omega)]
          · by_cases q2 : z < y
            · rw [if_neg q1, if_pos q2] at hbc; omega
            · rw [if_pos (by omega)]
        · by_cases p2 : y < x
          · rw [if_neg p1, if_pos p2] at hab; omega
          · by_cases q1 : y < z
            · rw [if_pos (by omega)]
            · by_cases q2 : z < y
              · rw [if_neg q1, if_pos q2] at hbc; omega
              · rw [if_neg p1, if_neg p2] at hab
                rw [if_neg q1, if_neg q2] at hbc
                rw [if_neg (by omega), if_neg (by omega)]
                exact ih (by simpa using h1) (by simpa using h2) hab hbc
/-- As wide. -/
def Wd (n : Nat) (l : List (List Int)) : Prop := ∀ r ∈ l, r.length = n
/-- Rows that rise. -/
def RiseR (l : List (List Int)) : Prop := l.Pairwise fun a b => lexC a b = -1
/-- Rows in order with one more. -/
def putL : List (List Int) → List Int → List (List Int)
  | [], r => [r]
  | x :: l, r => if lexC x r = -1 then x :: putL l r else if x = r then x :: l else r :: x :: l
/-- Rows, put in order, each once. -/
def ofL (rows : List (List Int)) : List (List Int) := rows.foldl putL []
theorem putL_mem (l : List (List Int)) (r x : List Int) : x ∈ putL l r ↔ x = r ∨ x ∈ l := by
  induction l with
  | nil => simp [putL]
  | cons y l ih =>
    unfold putL
    split
    · rw [List.mem_cons, ih, List.mem_cons]
      constructor
      · rintro (h | h | h)
        · exact .inr (.inl h)
        · exact .inl h
        · exact .inr (.inr h)
      · rintro (h | h | h)
        · exact .inr (.inl h)
        · exact .inl h
        · exact .inr (.inr h)
    · split
      · rename_i h2
        subst h2
        rw [List.mem_cons]
        constructor
        · exact fun h => .inr h
        · rintro (h | h)
          · exact .inl h
          · exact h
      · rw [List.mem_cons]
theorem putL_wd {n : Nat} {l : List (List Int)} {r : List Int} (h : Wd n l) (hr : r.length = n) : Wd n (putL l r) := fun x hx => by
  rcases (putL_mem l r x).1 hx with e | e
  · rw [e]; exact hr
  · exact h x e
theorem putL_rise {n : Nat} {l : List (List Int)} {r : List Int} (hw : Wd n l) (hr : r.length = n) (h : RiseR l) : RiseR (putL l r) := by
  induction l with
  | nil => exact List.pairwise_singleton _ _
  | cons y l ih =>
    obtain ⟨h1, h2⟩ := List.pairwise_cons.1 h
    have hy := hw y List.mem_cons_self
    have hwl : Wd n l := fun x hx => hw x (List.mem_cons_of_mem _ hx)
    unfold putL
    split
    · rename_i g1
      refine List.pairwise_cons.2 ⟨fun x hx => ?_, ih hwl h2⟩
      rcases (putL_mem l r x).1 hx with e | e
      · rw [e]; exact g1
      · exact h1 x e
    · rename_i g1
      split
      · exact h
      · rename_i g2
        have g3 : lexC r y = -1 := by
          rw [lexC_neg y r]
          rcases lexC_cases y r with e | e | e
          · exact absurd e g1
          · exact absurd (lexC_eq (by omega) e) g2
          · rw [e]
        refine List.pairwise_cons.2 ⟨fun x hx => ?_, h⟩
        rcases List.mem_cons.1 hx with e | e
        · rw [e]; exact g3
        · exact lexC_trans (by omega) (by rw [hy, hwl x e]) g3 (h1 x e)
theorem fold_put {n : Nat} (rows acc : List (List Int)) (hr : Wd n rows) (hw : Wd n acc) (hs : RiseR acc) : Wd n (rows.foldl putL acc) ∧ RiseR (rows.foldl putL acc) ∧ ∀ x, x ∈ rows.foldl putL acc ↔ x ∈ acc ∨ x ∈ rows := by
  induction rows generalizing acc with
  | nil => exact ⟨hw, hs, fun x => by simp⟩
  | cons r rows ih =>
    have hrl := hr r List.mem_cons_self
    obtain ⟨h1, h2, h3⟩ := ih (putL acc r) (fun x hx => hr x (List.mem_cons_of_mem _ hx)) (putL_wd hw hrl) (putL_rise hw hrl hs)
    refine ⟨h1, h2, fun x => ?_⟩
    rw [List.foldl_cons, h3 x, putL_mem, List.mem_cons]
    constructor
    · rintro ((h | h) | h)
      · exact .inr (.inl h)
      · exact .inl h
      · exact .inr (.inr h)
    · rintro (h | h | h)
      · exact .inl (.inr h)
      · exact .inl (.inl h)
      · exact .inr h
theorem ofL_wd {n : Nat} {rows : List (List Int)} (h : Wd n rows) : Wd n (ofL rows) := (fold_put rows [] h (fun _ h => by cases h) List.Pairwise.nil).1
theorem ofL_rise {n : Nat} {rows : List (List Int)} (h : Wd n rows) : RiseR (ofL rows) := (fold_put rows [] h (fun _ h => by cases h) List.Pairwise.nil).2.1
theorem ofL_mem {n : Nat} {rows : List (List Int)} (h : Wd n rows) (x : List Int) : x ∈ ofL rows ↔ x ∈ rows := by
  have := (fold_put rows [] h (fun _ h => by cases h) List.Pairwise.nil).2.2 x
  unfold ofL
  rw [this]
  simp
/-- Rows that rise are told by what they have. -/
theorem rise_unique {n : Nat} {l m : List (List Int)} (hl : Wd n l) (hm : Wd n m) (h1 : RiseR l) (h2 : RiseR m) (h : ∀ x, x ∈ l ↔ x ∈ m) : l = m := by
  induction l generalizing m with
  | nil =>
    cases m with
    | nil => rfl
    | cons y m => exact absurd ((h y).2 List.mem_cons_self) (by simp)
  | cons x l ih =>
    cases m with
    | nil => exact absurd ((h x).1 List.mem_cons_self) (by simp)
    | cons y m =>
      obtain ⟨p1, p2⟩ := List.pairwise_cons.1 h1
      obtain ⟨q1, q2⟩ := List.pairwise_cons.1 h2
      have irr : ∀ a : List Int, lexC a a ≠ -1 := fun a => by rw [lexC_self]; decide
      have asym : ∀ a b : List Int, lexC a b = -1 → lexC b a ≠ -1 := fun a b e => by rw [lexC_neg a b, e]; decide
      have hxy : x = y := by
        rcases List.mem_cons.1 ((h x).1 List.mem_cons_self) with e | e
        · exact e
        · rcases List.mem_cons.1 ((h y).2 List.mem_cons_self) with e' | e'
          · exact e'.symm
          · exact absurd (p1 y e') (asym _ _ (q1 x e))
      subst hxy
      rw [ih (fun r hr => hl r (List.mem_cons_of_mem _ hr)) (fun r hr => hm r (List.mem_cons_of_mem _ hr)) p2 q2 (fun z => ?_)]
      constructor
      · intro hz
        rcases List.mem_cons.1 ((h z).1 (List.mem_cons_of_mem _ hz)) with e | e
        · subst e; exact absurd (p1 z hz) (irr z)
        · exact e
      · intro hz
        rcases List.mem_cons.1 ((h z).2 (List.mem_cons_of_mem _ hz)) with e | e
        · subst e; exact absurd (q1 z hz) (irr z)
        · exact e
theorem ofL_is {n : Nat} {rows out : List (List Int)} (h : Wd n rows) (ho : RiseR out) (hm : ∀ x, x ∈ out ↔ x ∈ rows) : out = ofL rows :=
  rise_unique (n := n) (fun r hr => h r ((hm r).1 hr)) (ofL_wd h) ho (ofL_rise h) (fun x => by rw [hm x, ofL_mem h])
theorem ofL_self {n : Nat} {rows : List (List Int)} (h : Wd n rows) (hs : RiseR rows) : ofL rows = rows := (ofL_is h hs (fun _ => Iff.rfl)).symm
theorem putL_len (l : List (List Int)) (r : List Int) : (putL l r).length ≤ l.length + 1 := by
  induction l with
  | nil => simp [putL]
  | cons y l ih =>
    unfold putL
    split
    · simp; omega
    · split
      · simp
      · simp
theorem fold_len (rows acc : List (List Int)) : (rows.foldl putL acc).length ≤ acc.length + rows.length := by
  induction rows generalizing acc with
  | nil => simp
  | cons r rows ih =>
    have h1 := ih (putL acc r)
    have h2 := putL_len acc r
    simp at h1 ⊢
    omega
theorem ofL_len (rows : List (List Int)) : (ofL rows).length ≤ rows.length := by
  have := fold_len rows []
  unfold ofL
  simpa using this
/-- A relation. -/
structure Rl where
  vars : List Int
  rows : List (List Int)
  deriving DecidableEq
/-- May variables be a relation's? -/
def colAt (vs : List Int) (i : Nat) : Bool := decide (0 ≤ vs.getD i 0) && !decide (vs.getD i 0 ∈ vs.take i)
def colB (vs : List Int) : Bool := (List.range vs.length).all (colAt vs) && decide (vs.length ≤ 64)
/-- May a relation be? -/
def rowAt (R : Rl) (i : Nat) : Bool := decide ((rowN R.rows i).length = R.vars.length) && (decide (i = 0) || decide (lexC (rowN R.rows (i - 1)) (rowN R.rows i) = -1))
def rightB (R : Rl) : Bool := colB R.vars && (decide (R.rows.length ≤ 1048576) && (List.range R.rows.length).all (rowAt R))
end Go.Proofs.Ytdeiinfljfgmeaa
