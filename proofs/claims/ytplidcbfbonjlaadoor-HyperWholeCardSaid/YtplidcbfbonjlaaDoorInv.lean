/-
  A region that draws its order, by an invariant over what is listed: each operation is shown once, whatever the order. No walk, no program.
-/
import Derived.Deep.RegionHeld3
namespace Go.Proofs.YtplidcbfbonjlaaDoor.Inv
open Go
set_option linter.unusedVariables false

/-- How many are not yet listed. -/
def left (n : Nat) (L : Array Bool) : Nat := (List.range n).countP fun i => !L.getD i true
theorem countP_lt {α : Type} {p q : α → Bool} (h : ∀ x, q x = true → p x = true) {y : α} (hp : p y = true) (hq : q y = false) : ∀ {l : List α}, y ∈ l → l.countP q < l.countP p
  | [], hy => by cases hy
  | x :: l, hy => by
    have hle : l.countP q ≤ l.countP p := List.countP_mono_left fun x _ hx => h x hx
    rcases List.mem_cons.1 hy with rfl | hy
    · rw [List.countP_cons, List.countP_cons, hp, hq]; simp; omega
    · have ih := countP_lt h hp hq hy
      rw [List.countP_cons, List.countP_cons]
      cases hx : q x
      · simp; omega
      · rw [h x hx]; simp; omega
theorem left_set {n i : Nat} {L : Array Bool} (hi : i < n) (h : L.getD i true = false) : left n (L.setIfInBounds i true) < left n L := by
  have hs : i < L.size := by
    rcases Nat.lt_or_ge i L.size with h1 | h1
    · exact h1
    · simp [Array.getElem?_eq_none h1] at h
  refine countP_lt (y := i) (fun x hx => ?_) (by rw [h]; rfl) ?_ (List.mem_range.2 hi)
  · by_cases e : i = x
    · subst e; rw [h]; rfl
    · rw [getD_set_ne true e] at hx; exact hx
  · simp [hs]
section
variable {P : Program} {md : Region.Mode} {ops : Array Oper} {Q : Exit → Act → World → Prop} {J : Array Bool → Act → World → Prop}
/-- Each waits only for what stands ahead of it. -/
def ahead (ops : Array Oper) : Bool := (List.range ops.size).all fun i => ((ops[i]?).map fun o => o.after.all fun e => decide (e.on < i)).getD true
theorem ahead_lt (h : ahead ops = true) {i : Nat} {o : Oper} (ho : ops[i]? = some o) : ∀ e ∈ o.after, e.on < i := by
  have hi : i < ops.size := (Array.getElem?_eq_some_iff.1 ho).1
  have := List.all_eq_true.1 h i (List.mem_range.2 hi)
  rw [ho] at this
  simp only [Option.map_some, Option.getD_some, Array.all_eq_true_iff_forall_mem, decide_eq_true_eq] at this
  exact this
theorem all_listed (h : ahead ops = true) {L : Array Bool} (hs : L.size = ops.size) (hr : Region.ready md ops L = []) : ∀ i, i < ops.size → L.getD i false = true := by
  intro i
  induction i using Nat.strongRecOn with
  | _ i ih =>
    intro hi
    cases hL : L.getD i true with
    | true =>
      have hi' : i < L.size := by omega
      simpa [hi'] using hL
    | false =>
      exfalso
      have hm : i ∈ Region.ready md ops L := mem_ready.2 ⟨hL, ops[i], by simp [hi], fun e he hb => ih e.on (ahead_lt h (show ops[i]? = some ops[i] by simp [hi]) e he) (by have := ahead_lt h (show ops[i]? = some ops[i] by simp [hi]) e he; omega)⟩
      rw [hr] at hm
      cases hm
theorem wpAny_inv (h : ahead ops = true)
    (hstep : ∀ L a w i o, J L a w → L.getD i true = false → ops[i]? = some o → (∀ e ∈ o.after, Region.binds md e = true → L.getD e.on false = true) → wpOp P ops Q i (J (L.setIfInBounds i true)) a w)
    (hdone : ∀ L a w, J L a w → (∀ i, i < ops.size → L.getD i false = true) → Q .normal a w) :
    ∀ fuel L a w, L.size = ops.size → left ops.size L ≤ fuel → J L a w → wpAny P md ops Q fuel L a w
  | 0, L, a, w, hs, hf, hJ => by
    have hr : Region.ready md ops L = [] := by
      cases hr : Region.ready md ops L with
      | nil => rfl
      | cons i l =>
        exfalso
        have hm : i ∈ Region.ready md ops L := by rw [hr]; exact List.mem_cons_self
        obtain ⟨h0, o, ho, -⟩ := mem_ready.1 hm
        have := left_set (n := ops.size) (Array.getElem?_eq_some_iff.1 ho).1 h0
        omega
    exact ⟨hr, hdone L a w hJ (all_listed h hs hr)⟩
  | fuel + 1, L, a, w, hs, hf, hJ => by
    refine ⟨fun hr => hdone L a w hJ (all_listed h hs hr), fun i hi => ?_⟩
    obtain ⟨h0, o, ho, hall⟩ := mem_ready.1 hi
    have hlt := left_set (n := ops.size) (Array.getElem?_eq_some_iff.1 ho).1 h0
    exact wpOp_mono (fun a' w' hJ' => wpAny_inv h hstep hdone fuel _ a' w' (by simp [hs]) (by omega) hJ') (hstep L a w i o hJ h0 ho hall)
theorem wp_region_inv {id : Nat} {a : Act} {w : World} (hm : P.follows .mixedOrders = true) (h : ahead ops = true)
    (hstart : J (Array.replicate ops.size false) a w.drew)
    (hstep : ∀ L a w i o, J L a w → L.getD i true = false → ops[i]? = some o → (∀ e ∈ o.after, Region.binds .any e = true → L.getD e.on false = true) → wpOp P ops Q i (J (L.setIfInBounds i true)) a w)
    (hdone : ∀ L a w, J L a w → (∀ i, i < ops.size → L.getD i false = true) → Q .normal a w) : (Code.region id ops true).wp P Q a w :=
  wp_region_any hm (wpAny_inv h hstep hdone _ _ _ _ (by simp) (by
    refine Nat.le_trans (List.countP_le_length) ?_
    simp) hstart)
/-- One operation without a guard. -/
theorem wpOp_of {i : Nat} {o : Oper} {a : Act} {w : World} {K : Act → World → Prop} (ho : ops[i]? = some o) (h : if Region.wanted o (yielded ops a.tmps) = true then Oper.wp P o a w K Q else K (a.put o.dst undef) w) : wpOp P ops Q i K a w := by
  unfold wpOp
  rw [ho]
  simp only
  split
  · next hw => rw [if_pos hw] at h; exact .inl h
  · next hw => rw [if_neg hw] at h; exact h
/-- What is listed behind one more. -/
theorem listed_set {L : Array Bool} {i : Nat} (h : L.getD i true = false) (j : Nat) : (L.setIfInBounds i true).getD j false = (decide (i = j) || L.getD j false) := by
  have hs : i < L.size := by
    rcases Nat.lt_or_ge i L.size with h1 | h1
    · exact h1
    · simp [Array.getElem?_eq_none h1] at h
  by_cases e : i = j
  · subst e; simp [hs]
  · rw [getD_set_ne false e]; simp [e]
end
end Go.Proofs.YtplidcbfbonjlaaDoor.Inv
