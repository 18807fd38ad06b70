/-
  The document's steps reduce; what is left, put in order, is what Left tells. Plain: no program in sight.
-/
import Derived.Test.YtplidcbfbonjlaaDoorHzRd
import Derived.Test.YtplidcbfbonjlaaDoorHzRa
import Derived.Test.YtplidcbfbonjlaaDoorHzLeft
namespace Go.Proofs.YtplidcbfbonjlaaDoor
set_option linter.unusedVariables false
set_option linter.unusedSimpArgs false

theorem edge_pw {m : Int} {e : List Int} (h : edgeB m e = true) : e.Pairwise (· < ·) := by
  unfold edgeB at h
  rw [Bool.and_eq_true] at h
  have hr : ∀ j, j + 1 < e.length → e.getD j 0 < e.getD (j + 1) 0 := fun j hj => by
    have h2 := List.all_eq_true.1 h.2 (j + 1) (List.mem_range.2 hj)
    unfold riseI at h2
    rw [Bool.or_eq_true] at h2
    rcases h2 with h2 | h2
    · exact absurd (of_decide_eq_true h2) (by omega)
    · exact of_decide_eq_true h2
  have hr2 : ∀ d j, j + 1 + d < e.length → e.getD j 0 < e.getD (j + 1 + d) 0 := by
    intro d
    induction d with
    | zero => intro j hj; exact hr j hj
    | succ d ih =>
      intro j hj
      have h1 := ih j (by omega)
      have h2 := hr (j + 1 + d) (by omega)
      have e1 : j + 1 + (d + 1) = j + 1 + d + 1 := by omega
      rw [e1]
      omega
  rw [List.pairwise_iff_getElem]
  intro i j hi hj hij
  have := hr2 (j - i - 1) i (by omega)
  rw [show i + 1 + (j - i - 1) = j by omega, getD_at hi, getD_at hj] at this
  exact this
/-- Sets and rows. -/
theorem sub_rows {a b : List Int} (ha : ∀ x ∈ a, 0 ≤ x ∧ x < (64 : Nat)) (hb : ∀ x ∈ b, 0 ≤ x ∧ x < (64 : Nat)) : Sub (setL a) (setL b) ↔ ∀ x ∈ a, x ∈ b := by
  constructor
  · intro h x hx
    have h1 := h x.toNat (by rw [setL_bit (fun y hy => (ha y hy).1), decide_eq_true_iff, Int.toNat_of_nonneg (ha x hx).1]; exact hx)
    rw [setL_bit (fun y hy => (hb y hy).1), decide_eq_true_iff, Int.toNat_of_nonneg (ha x hx).1] at h1
    exact h1
  · intro h v hv
    rw [setL_bit (fun y hy => (ha y hy).1), decide_eq_true_iff] at hv
    rw [setL_bit (fun y hy => (hb y hy).1), decide_eq_true_iff]
    exact h _ hv
theorem each_row {e : List Int} (hp : e.Pairwise (· < ·)) (h : ∀ x ∈ e, 0 ≤ x ∧ x < (64 : Nat)) : eachL (setL e) = e := by
  refine lt_unique (eachL_pw _) hp fun x => ?_
  rw [eachL_mem (setL_lt h), setL_bit (fun y hy => (h y hy).1), decide_eq_true_iff]
  constructor
  · rintro ⟨h1, h2⟩
    rwa [Int.toNat_of_nonneg h1] at h2
  · intro hx
    exact ⟨(h x hx).1, by rw [Int.toNat_of_nonneg (h x hx).1]; exact hx⟩
theorem cut_at {α : Type} {l : List α} {i : Nat} (h : i < l.length) : l = l.take i ++ l[i] :: l.drop (i + 1) := by
  rw [← List.drop_eq_getElem_cons h, List.take_append_drop]
theorem set_split {α : Type} {l : List α} {i : Nat} (h : i < l.length) (x : α) : l.set i x = l.take i ++ x :: l.drop (i + 1) := by
  rw [List.set_eq_take_append_cons_drop, if_pos h]
theorem dropAt_sub (e : List Int) (k : Nat) : (dropAt e k).Sublist e := by
  unfold dropAt
  rw [← List.eraseIdx_eq_take_drop_succ]
  exact List.eraseIdx_sublist ..
theorem dropAt_mem {e : List Int} {k : Nat} (hk : k < e.length) {x : Int} (hx : x ∈ e) : x ∈ dropAt e k ∨ x = e.getD k 0 := by
  rw [cut_at hk] at hx
  unfold dropAt
  rw [getD_at hk]
  rcases List.mem_append.1 hx with q | q
  · exact .inl (List.mem_append.2 (.inl q))
  · rcases List.mem_cons.1 q with q | q
    · exact .inr q
    · exact .inl (List.mem_append.2 (.inr q))
theorem dropAt_len {e : List Int} {k : Nat} (hk : k < e.length) : (dropAt e k).length + 1 = e.length := by
  unfold dropAt
  rw [List.length_append, List.length_take, List.length_drop]
  omega
theorem manyL_split {ls : List (List Int)} {i : Nat} (h : i < ls.length) (x : Int) : manyL ls x = manyL (ls.take i) x + (if decide (x ∈ rowN ls i) = true then 1 else 0) + manyL (ls.drop (i + 1)) x := by
  have e : manyL ls x = manyL (ls.take i ++ ls[i] :: ls.drop (i + 1)) x := by rw [← cut_at h]
  rw [e, rowN_at h]
  unfold manyL
  rw [List.countP_append, List.countP_cons]
  omega
theorem manyL_zero {ls : List (List Int)} {x : Int} (h : manyL ls x = 0) {e : List Int} (he : e ∈ ls) : x ∉ e := by
  unfold manyL at h
  have := List.countP_eq_zero.1 h e he
  simpa using this
theorem manyL_pos {ls : List (List Int)} {x : Int} (h : manyL ls x ≠ 0) : ∃ e ∈ ls, x ∈ e := by
  unfold manyL at h
  obtain ⟨e, he, hx⟩ := List.countP_pos_iff.1 (Nat.pos_of_ne_zero h)
  exact ⟨e, he, of_decide_eq_true hx⟩
/-- What is known of edges that are reduced. -/
structure RedQ (E : List Nat) (ls : List (List Int)) : Prop where
  pw : ∀ e ∈ ls, e.Pairwise (· < ·)
  ok : VertsOk ls
  cof : Cof E (ls.map setL)
  keep : Keep E (ls.map setL)
  len : ls.length ≤ 40
theorem RedQ.start {m : Int} {ls : List (List Int)} (h : hypB m ls = true) : RedQ (ls.map setL) ls :=
  ⟨fun e he => by
    obtain ⟨j, hj, rfl⟩ := List.getElem_of_mem he
    rw [← rowN_at hj]
    exact edge_pw (hypB_edge h hj), hypB_ok h, Cof.self _, Keep.self _, (hypB_yes h).2.2.1⟩
theorem RedQ.row {E : List Nat} {ls : List (List Int)} (h : RedQ E ls) {e : List Int} (he : e ∈ ls) : e.length ≤ 64 := by
  have := nodup_leI (o := e) (l := upL 64) (pw_nodup (h.pw e he)) fun x hx => upL_mem.2 (h.ok e he x hx)
  unfold upL at this
  rwa [List.length_map, List.length_range] at this
def sizeR (ls : List (List Int)) : Nat := ls.length + (ls.map List.length).sum
theorem goesTo_yes {ls : List (List Int)} {i : Nat} (h : goesTo ls i ls.length = true) : rowN ls i = [] ∨ ∃ j, j < ls.length ∧ j ≠ i ∧ ∀ x ∈ rowN ls i, x ∈ rowN ls j := by
  unfold goesTo at h
  rw [Bool.or_eq_true] at h
  rcases h with h | h
  · exact .inl (List.eq_nil_of_length_eq_zero (of_decide_eq_true h))
  · obtain ⟨j, hj, h2⟩ := List.any_eq_true.1 h
    rw [Bool.and_eq_true] at h2
    exact .inr ⟨j, List.mem_range.1 hj, of_decide_eq_true h2.1, withinB_iff.1 h2.2⟩
theorem goesTo_no {ls : List (List Int)} {i : Nat} (h : goesTo ls i ls.length = false) : rowN ls i ≠ [] ∧ ∀ j, j < ls.length → j ≠ i → ∃ x ∈ rowN ls i, x ∉ rowN ls j := by
  unfold goesTo at h
  rw [Bool.or_eq_false_iff] at h
  refine ⟨fun e => absurd (of_decide_eq_false h.1) (by rw [e]; simp), fun j hj hne => ?_⟩
  have h2 := List.any_eq_false.1 h.2 j (List.mem_range.2 hj)
  rw [Bool.and_eq_true] at h2
  apply Classical.byContradiction
  intro hc
  refine h2 ⟨decide_eq_true hne, withinB_iff.2 fun x hx => ?_⟩
  apply Classical.byContradiction
  intro hx'
  exact hc ⟨x, hx, hx'⟩
theorem RedQ.next {E : List Nat} {ls ls' : List (List Int)} (h : RedQ E ls) (hs : StepP ls ls' true) : RedQ E ls' ∧ sizeR ls' < sizeR ls := by
  rcases hs with ⟨h1, -⟩ | ⟨-, i, hi, hs⟩
  · cases h1
  have hsp := cut_at hi
  have hrow : rowN ls i ∈ ls := rowN_mem hi
  have hA : ∀ e ∈ ls.take i, e ∈ ls := fun e he => List.mem_of_mem_take he
  have hB : ∀ e ∈ ls.drop (i + 1), e ∈ ls := fun e he => List.mem_of_mem_drop he
  have hE : ls.map setL = (ls.take i).map setL ++ setL (rowN ls i) :: (ls.drop (i + 1)).map setL := by
    rw [rowN_at hi]
    have := congrArg (List.map setL) hsp
    rwa [List.map_append, List.map_cons] at this
  have hz : (ls.map List.length).sum = ((ls.take i).map List.length).sum + ((rowN ls i).length + ((ls.drop (i + 1)).map List.length).sum) := by
    rw [rowN_at hi]
    have e : (ls.map List.length).sum = ((ls.take i ++ ls[i] :: ls.drop (i + 1)).map List.length).sum := by rw [← cut_at hi]
    rw [e, List.map_append, List.map_cons, List.sum_append, List.sum_cons]
  have hc := h.cof
  have hk := h.keep
  rw [hE] at hc hk
  rcases hs with ⟨k, hkl, hm, rfl⟩ | ⟨hg, rfl⟩
  · have hsub := dropAt_sub (rowN ls i) k
    have hok : ∀ x ∈ dropAt (rowN ls i) k, 0 ≤ x ∧ x < (64 : Nat) := fun x hx => h.ok _ hrow x (hsub.subset hx)
    rw [set_split hi]
    have hmem : ∀ e ∈ ls.take i ++ dropAt (rowN ls i) k :: ls.drop (i + 1), e = dropAt (rowN ls i) k ∨ e ∈ ls := fun e he => by
      rcases List.mem_append.1 he with q | q
      · exact .inr (hA e q)
      · rcases List.mem_cons.1 q with q | q
        · exact .inl q
        · exact .inr (hB e q)
    have hL : Loses ((ls.take i).map setL) (setL (rowN ls i)) (setL (dropAt (rowN ls i) k)) ((ls.drop (i + 1)).map setL) := by
      refine ⟨(sub_rows hok (h.ok _ hrow)).2 fun x hx => hsub.subset hx, fun v hv hv' => ?_⟩
      rw [setL_bit (fun y hy => (h.ok _ hrow y hy).1), decide_eq_true_iff] at hv
      rw [setL_bit (fun y hy => (hok y hy).1), decide_eq_false_iff_not] at hv'
      have hx : (v : Int) = (rowN ls i).getD k 0 := by
        rcases dropAt_mem hkl hv with q | q
        · exact absurd q hv'
        · exact q
      have hsp2 := manyL_split hi (v : Int)
      rw [if_pos (decide_eq_true hv), hx, hm] at hsp2
      have out : ∀ l : List (List Int), (∀ e ∈ l, e ∈ ls) → manyL l ((rowN ls i).getD k 0) = 0 → ∀ t ∈ l.map setL, t.testBit v = false := fun l hl h0 t ht => by
        obtain ⟨e, he, rfl⟩ := List.mem_map.1 ht
        rw [setL_bit (fun y hy => (h.ok _ (hl e he) y hy).1), decide_eq_false_iff_not, hx]
        exact manyL_zero h0 he
      exact ⟨out _ hA (by omega), out _ hB (by omega)⟩
    refine ⟨⟨fun e he => ?_, fun e he x hx => ?_, ?_, ?_, ?_⟩, ?_⟩
    · rcases hmem e he with rfl | q
      · exact (h.pw _ hrow).sublist hsub
      · exact h.pw e q
    · rcases hmem e he with rfl | q
      · exact hok x hx
      · exact h.ok e q x hx
    · rw [List.map_append, List.map_cons]; exact hL.cof hc
    · rw [List.map_append, List.map_cons]; exact hL.keep hc hk
    · have := h.len
      rw [List.length_append, List.length_cons, List.length_take, List.length_drop]
      omega
    · have hd := dropAt_len hkl
      unfold sizeR
      rw [hz]
      simp only [List.length_append, List.length_cons, List.length_take, List.length_drop, List.map_append, List.map_cons, List.sum_append, List.sum_cons]
      omega
  · have hG : Goes ((ls.take i).map setL) (setL (rowN ls i)) ((ls.drop (i + 1)).map setL) := by
      rcases goesTo_yes hg with q | ⟨j, hj, hne, q⟩
      · left; rw [q]; rfl
      · refine .inr ⟨setL (rowN ls j), ?_, (sub_rows (h.ok _ hrow) (h.ok _ (rowN_mem hj))).2 q⟩
        rcases Nat.lt_or_ge j i with c | c
        · left
          refine List.mem_map.2 ⟨_, ?_, rfl⟩
          rw [rowN_at hj]
          exact List.mem_take_iff_getElem.2 ⟨j, by omega, rfl⟩
        · right
          refine List.mem_map.2 ⟨_, ?_, rfl⟩
          rw [rowN_at hj]
          exact List.mem_drop_iff_getElem.2 ⟨j - (i + 1), by omega, by congr 1; omega⟩
    have hmem : ∀ e ∈ ls.take i ++ ls.drop (i + 1), e ∈ ls := fun e he => by
      rcases List.mem_append.1 he with q | q
      · exact hA e q
      · exact hB e q
    refine ⟨⟨fun e he => h.pw e (hmem e he), fun e he => h.ok e (hmem e he), ?_, ?_, ?_⟩, ?_⟩
    · rw [List.map_append]; exact hG.cof hc
    · rw [List.map_append]; exact hG.keep hk
    · have := h.len
      rw [List.length_append, List.length_take, List.length_drop]
      omega
    · unfold sizeR
      rw [hz]
      simp only [List.length_append, List.length_take, List.length_drop, List.map_append, List.sum_append]
      omega
theorem RedQ.irr {E : List Nat} {ls : List (List Int)} (h : RedQ E ls) (hs : Stuck ls ls.length) : Irr (ls.map setL) := by
  have nosub : ∀ i j, i < ls.length → j < ls.length → j ≠ i → ¬ Sub (setL (rowN ls i)) (setL (rowN ls j)) := fun i j hi hj hne hsub => by
    obtain ⟨x, hx, hx'⟩ := (goesTo_no (hs i hi).2).2 j hj hne
    exact hx' ((sub_rows (h.ok _ (rowN_mem hi)) (h.ok _ (rowN_mem hj))).1 hsub x hx)
  have at' : ∀ s ∈ ls.map setL, ∃ i, i < ls.length ∧ s = setL (rowN ls i) := fun s hs => by
    obtain ⟨e, he, rfl⟩ := List.mem_map.1 hs
    obtain ⟨i, hi, rfl⟩ := List.getElem_of_mem he
    exact ⟨i, hi, by rw [rowN_at hi]⟩
  refine ⟨?_, fun s hsm => ?_, fun s hsm v hv => ?_⟩
  · rw [List.pairwise_iff_getElem]
    intro i j hi hj hij
    rw [List.length_map] at hi hj
    simp only [List.getElem_map]
    rw [← rowN_at hi, ← rowN_at hj]
    exact ⟨nosub i j hi hj (by omega), nosub j i hj hi (by omega)⟩
  · obtain ⟨i, hi, rfl⟩ := at' s hsm
    have hne := (goesTo_no (hs i hi).2).1
    obtain ⟨x, hx⟩ := List.exists_mem_of_ne_nil _ hne
    have hb := h.ok _ (rowN_mem hi)
    exact ⟨x.toNat, by rw [setL_bit (fun y hy => (hb y hy).1), decide_eq_true_iff, Int.toNat_of_nonneg (hb x hx).1]; exact hx⟩
  · obtain ⟨i, hi, rfl⟩ := at' s hsm
    have hb := h.ok _ (rowN_mem hi)
    rw [setL_bit (fun y hy => (hb y hy).1), decide_eq_true_iff] at hv
    obtain ⟨t, ht, et⟩ := List.getElem_of_mem hv
    have hm := (hs i hi).1 t ht
    rw [getD_at ht, et] at hm
    have hsp := manyL_split hi (v : Int)
    rw [if_pos (decide_eq_true hv)] at hsp
    have fin : ∀ j, j < ls.length → j ≠ i → (v : Int) ∈ rowN ls j → ∃ t ∈ ls.map setL, t ≠ setL (rowN ls i) ∧ t.testBit v = true := fun j hj hne hvj => by
      refine ⟨setL (rowN ls j), List.mem_map.2 ⟨_, rowN_mem hj, rfl⟩, fun e => ?_, ?_⟩
      · exact nosub j i hj hi (fun q => hne q.symm) (by rw [e]; exact Sub.refl _)
      · rw [setL_bit (fun y hy => (h.ok _ (rowN_mem hj) y hy).1), decide_eq_true_iff]; exact hvj
    by_cases h1 : manyL (ls.take i) (v : Int) = 0
    · have h2 : manyL (ls.drop (i + 1)) (v : Int) ≠ 0 := by omega
      obtain ⟨e, he, hve⟩ := manyL_pos h2
      obtain ⟨d, hd, rfl⟩ := List.mem_drop_iff_getElem.1 he
      refine fin (i + 1 + d) (by omega) (by omega) ?_
      rw [rowN_at (by omega)]
      first
        | exact hve
        | (have e9 : d + (i + 1) = i + 1 + d := by omega
           simpa [e9] using hve)
    · obtain ⟨e, he, hve⟩ := manyL_pos h1
      obtain ⟨d, hd, rfl⟩ := List.mem_take_iff_getElem.1 he
      refine fin d (by omega) (by omega) ?_
      rw [rowN_at (by omega)]
      exact hve
theorem RedQ.nodup {E : List Nat} {ls : List (List Int)} (h : RedQ E ls) (hs : Stuck ls ls.length) : ls.Nodup := by
  unfold List.Nodup
  rw [List.pairwise_iff_getElem]
  intro i j hi hj hij e
  have h1 := (List.pairwise_iff_getElem.1 (h.irr hs).apart) i j (by simpa using hi) (by simpa using hj) hij
  simp only [List.getElem_map] at h1
  rw [e] at h1
  exact h1.1 (Sub.refl _)
/-- A row put in its place. -/
theorem rise_put {out : List (List Int)} {e : List Int} {k : Nat} (h : RiseC out) (hk : k ≤ out.length) (h1 : ∀ j, j < k → lessB (rowN out j) e = true) (h2 : k < out.length → lessB (rowN out k) e = false) (hn : e ∉ out) : RiseC (out.take k ++ [e] ++ out.drop k) := by
  have ha : ∀ x ∈ out.take k, cmpL x e = -1 := fun x hx => by
    obtain ⟨j, hj, rfl⟩ := List.mem_take_iff_getElem.1 hx
    have := h1 j (by omega)
    rw [rowN_at (by omega)] at this
    exact of_decide_eq_true this
  have hb : ∀ x ∈ out.drop k, cmpL e x = -1 := fun x hx => by
    by_cases hkl : k < out.length
    · have h3 : cmpL (rowN out k) e ≠ -1 := of_decide_eq_false (h2 hkl)
      have h4 : cmpL e (rowN out k) = -1 := by
        rcases cmpL_cases (rowN out k) e with q | q | q
        · exact absurd q h3
        · exact absurd (by rw [← cmpL_eq q]; exact rowN_mem hkl) hn
        · rw [cmpL_neg (rowN out k), q]
      rw [List.drop_eq_getElem_cons hkl] at hx
      rcases List.mem_cons.1 hx with rfl | hx
      · rw [← rowN_at hkl]; exact h4
      · obtain ⟨d, hd, rfl⟩ := List.mem_drop_iff_getElem.1 hx
        refine cmpL_trans h4 ?_
        rw [rowN_at hkl]
        exact (List.pairwise_iff_getElem.1 h) k _ hkl (by omega) (by omega)
    · rw [List.drop_of_length_le (by omega)] at hx
      cases hx
  have hs1 : (out.take k ++ out.drop k).Pairwise fun a b => cmpL a b = -1 := by rw [List.take_append_drop]; exact h
  obtain ⟨p1, p2, p3⟩ := List.pairwise_append.1 hs1
  unfold RiseC
  rw [List.pairwise_append, List.pairwise_append]
  refine ⟨⟨p1, List.pairwise_singleton _ _, fun a ha' b hb' => ?_⟩, p2, fun a ha' b hb' => ?_⟩
  · rw [List.mem_singleton.1 hb']; exact ha a ha'
  · rcases List.mem_append.1 ha' with q | q
    · exact p3 a q b hb'
    · rw [List.mem_singleton.1 q]; exact hb b hb'
/-- Rows put in order so far. -/
structure PutI (ls : List (List Int)) (i : Nat) (out : List (List Int)) : Prop where
  rise : RiseC out
  mem : ∀ x, x ∈ out ↔ x ∈ ls.take i
  len : out.length = i
theorem PutI.start (ls : List (List Int)) : PutI ls 0 [] := ⟨List.Pairwise.nil, fun x => by simp, rfl⟩
theorem PutI.next {ls out : List (List Int)} {i k : Nat} (h : PutI ls i out) (hn : ls.Nodup) (hi : i < ls.length) (hk : k ≤ out.length) (h1 : ∀ j, j < k → lessB (rowN out j) (rowN ls i) = true) (h2 : k < out.length → lessB (rowN out k) (rowN ls i) = false) : PutI ls (i + 1) (out.take k ++ [rowN ls i] ++ out.drop k) := by
  have hni : rowN ls i ∉ out := fun hm => by
    have hm := (h.mem _).1 hm
    obtain ⟨j, hj, e⟩ := List.mem_take_iff_getElem.1 hm
    rw [rowN_at hi] at e
    exact (List.pairwise_iff_getElem.1 hn) j i (by omega) hi (by omega) e
  refine ⟨rise_put h.rise hk h1 h2 hni, fun x => ?_, ?_⟩
  · have e1 : x ∈ out ↔ x ∈ out.take k ∨ x ∈ out.drop k := by rw [← List.mem_append, List.take_append_drop]
    rw [List.take_succ_eq_append_getElem hi, ← rowN_at hi]
    simp only [List.mem_append, List.mem_singleton, ← h.mem x]
    rw [e1]
    constructor
    · rintro ((q | q) | q)
      · exact .inl (.inl q)
      · exact .inr q
      · exact .inl (.inr q)
    · rintro ((q | q) | q)
      · exact .inl (.inl q)
      · exact .inr q
      · exact .inl (.inr q)
  · have := h.len
    simp only [List.length_append, List.length_take, List.length_drop, List.length_singleton]
    omega
theorem PutI.done {E : List Nat} {ls out : List (List Int)} (h : PutI ls ls.length out) (hq : RedQ E ls) (hs : Stuck ls ls.length) : LeftR E out := by
  refine ⟨ls.map setL, ⟨hq.cof, hq.keep, hq.irr hs⟩, h.rise, fun x => ?_⟩
  rw [h.mem, List.take_length]
  constructor
  · intro hx
    exact ⟨setL x, List.mem_map.2 ⟨x, hx, rfl⟩, (each_row (hq.pw x hx) (hq.ok x hx)).symm⟩
  · rintro ⟨s, hs, rfl⟩
    obtain ⟨e, he, rfl⟩ := List.mem_map.1 hs
    rw [each_row (hq.pw e he) (hq.ok e he)]
    exact he
end Go.Proofs.YtplidcbfbonjlaaDoor
