/-
  plan.Limit, walked.
-/
import Derived.Test.YtdmfhlfhlflakaaDoorPlBnd2
import Derived.Test.YtdmfhlfhlflakaaDoorPlLog
import Derived.Test.YtdmfhlfhlflakaaDoorPlApp
namespace Go.Proofs.YtdmfhlfhlflakaaDoor
open Go.RowKit
set_option linter.unusedVariables false
set_option linter.unusedSimpArgs false

set_option maxRecDepth 100000 in
set_option maxHeartbeats 1000000 in
theorem of64_any (n : Int) (hn : -9223372036854775808 ≤ n) (hn' : n ≤ 9223372036854775807) (w : World) : Calls Tryd.prog 64 #[.int .i64 n] w fun e w' => e = .returned (wv (max n 1).toNat) ∧ Below w.heap.size w w' := by
  obtain ⟨a1, ha1⟩ : ∃ a1 : Nat, (max n 1).toNat = a1 := ⟨_, rfl⟩
  have hle : a1 ≤ 9223372036854775807 := by omega
  have hOf := fun W => Of_any a1 (by omega) W
  rw [ha1]
  obtain ⟨h, l, hw, -⟩ := wv_open a1 (by omega)
  rw [hw] at hOf ⊢
  have hmx : Value.int .i64 (if n < 1 then 1 else n) = .int .i64 a1 := by rw [← ha1]; congr 1; split <;> omega
  have hwr : IntKind.u64.wrap (a1 : Int) = a1 := wrap_u64 (by omega) (by omega)
  clear ha1 hw hn hn'
  go_enter Tryd.func64, Tryd.ntmps64
  go_wp2_with fail
  refine (hOf _).mono ?_
  rintro e w1 ⟨rfl, hb1⟩
  obtain ⟨n0, n1, f0, f1, ln⟩ := new2 hb1
  have HB := Lib.hid hb1
  clear hb1
  go_wp2_with fail
  refine bodyPost_ret (v := .agg #[.int .u64 h, .int .u64 l]) (by simp [results, Tryd.results64, go_sem, n0, n1]) rfl ?_
  exact ⟨rfl, below_set (below_set (below_new HB.out) (Nat.le_refl _)) (Nat.le_refl _)⟩

/-- What a limit is the product of. -/
noncomputable def limL (S : Shp) (c : Cov) : List Nat := [16, (max S.many 1).toNat, (max (S.edges.length : Int) 1).toNat, 1 + lg (maxTo (1 :: S.sizes) (S.sizes.length + 1)), boundN S c]
noncomputable def limitV (S : Shp) (c : Cov) : Value := if boundE S c = 0 then wres (prodTo (limL S c) 5) else .tuple #[wv 0, .int .i64 (boundE S c)]

theorem maxTo_bound {xs : List Int} {b : Int} (h : ∀ x ∈ xs, x ≤ b) (h0 : 0 < xs.length) : ∀ k, k ≤ xs.length → maxTo xs k ≤ b
  | 0, _ => by show xs.getD 0 0 ≤ b; rw [getD_at h0]; exact h _ (List.getElem_mem h0)
  | k + 1, hk => by
    rw [maxTo_succ (by omega)]
    have h1 := maxTo_bound h h0 k (by omega)
    have h2 : xs.getD k 0 ≤ b := by rw [getD_at (by omega)]; exact h _ (List.getElem_mem _)
    omega
theorem maxTo_ge {xs : List Int} (h0 : 0 < xs.length) : ∀ k, k ≤ xs.length → xs.getD 0 0 ≤ maxTo xs k
  | 0, _ => Int.le_refl _
  | k + 1, hk => by
    rw [maxTo_succ (by omega)]
    have h1 := maxTo_ge h0 k (by omega)
    omega
theorem rootN_spec {n o : Nat} (ho : 1 ≤ o) (hn : 1 ≤ n) : n ≤ rootN n o ^ o ∧ (∀ m, m < rootN n o → m ^ o < n) ∧ 1 ≤ rootN n o ∧ rootN n o ≤ n := by
  have hex : ∃ b, n ≤ b ^ o := ⟨n, Nat.le_self_pow (by omega) n⟩
  obtain ⟨g1, g2⟩ := (least_of hex).choose_spec
  have e : rootN n o = (least_of hex).choose := by unfold rootN; rw [dif_pos hex]
  rw [← e] at g1 g2
  refine ⟨g1, fun m hm => ?_, ?_, g2 n (Nat.le_self_pow (by omega) n)⟩
  · rcases Nat.lt_or_ge (m ^ o) n with h | h
    · exact h
    · have := g2 m h; omega
  · rcases Nat.eq_zero_or_pos (rootN n o) with h | h
    · rw [h, Nat.zero_pow (by omega)] at g1; omega
    · exact h
theorem boundE_zero {S : Shp} {c : Cov} (h : boundE S c = 0) : shpB S = true ∧ coversB S c = true ∧ needN S c < 340282366920938463463374607431768211456 := by
  unfold boundE at h
  by_cases h1 : shpB S = true
  · rw [if_pos h1] at h
    by_cases h2 : coversB S c = true
    · rw [if_pos h2] at h
      by_cases h3 : needN S c < 340282366920938463463374607431768211456
      · exact ⟨h1, h2, h3⟩
      · rw [if_neg h3] at h; cases h
    · rw [if_neg h2] at h; cases h
  · rw [if_neg h1] at h; cases h
theorem coversB_of {S : Shp} {c : Cov} (h : coversB S c = true) : c.ws.length = S.edges.length ∧ 1 ≤ c.of ∧ c.of ≤ 16 ∧ ∀ i, i < c.ws.length → 0 ≤ c.ws.getD i 0 ∧ c.ws.getD i 0 ≤ 16 := by
  have hpre : coverPre S c = true := by rw [coversB_pre, Bool.and_eq_true] at h; exact h.1
  unfold coverPre at hpre
  simp only [Bool.and_eq_true, decide_eq_true_eq, Bool.not_eq_true'] at hpre
  obtain ⟨p1, p2, p3, p4⟩ := hpre
  refine ⟨p1, p2, ?_, okWs p4⟩
  unfold badB at p3
  simp only [Bool.or_eq_false_iff, decide_eq_false_iff_not] at p3
  omega
theorem needN_pos (S : Shp) (c : Cov) : 1 ≤ needN S c := prodTo_pos (powL_pos _ _ _) (by rw [powL_len]; exact Nat.le_refl _)
theorem boundN_lt {S : Shp} {c : Cov} (h : boundE S c = 0) : 1 ≤ boundN S c ∧ boundN S c < 340282366920938463463374607431768211456 ∧ boundN S c = rootN (needN S c) c.of.toNat := by
  obtain ⟨h1, h2, h3⟩ := boundE_zero h
  obtain ⟨-, q1, -, -⟩ := coversB_of h2
  have e : boundN S c = rootN (needN S c) c.of.toNat := by unfold boundN; rw [if_pos h]
  obtain ⟨-, -, k1, k2⟩ := rootN_spec (n := needN S c) (o := c.of.toNat) (by omega) (needN_pos S c)
  rw [e]
  exact ⟨k1, by omega, rfl⟩
theorem sizes_le {S : Shp} (h : shpB S = true) : ∀ x ∈ S.sizes, 0 ≤ x ∧ x ≤ 1048576 := by
  obtain ⟨-, -, -, -, q5⟩ := shpB_yes h
  intro x hx
  rw [List.any_eq_false] at q5
  have := q5 x hx
  unfold badB at this
  simp only [Bool.or_eq_true, decide_eq_true_eq, not_or] at this
  omega
theorem lim_most {S : Shp} (h : shpB S = true) : 1 ≤ maxTo (1 :: S.sizes) (S.sizes.length + 1) ∧ maxTo (1 :: S.sizes) (S.sizes.length + 1) ≤ 1048576 := by
  have h1 := maxTo_ge (xs := 1 :: S.sizes) (by simp) (S.sizes.length + 1) (by simp)
  refine ⟨h1, maxTo_bound (fun x hx => ?_) (by simp) _ (by simp)⟩
  rcases List.mem_cons.1 hx with rfl | hx
  · decide
  · exact (sizes_le h x hx).2
theorem limL_ok {S : Shp} {c : Cov} (h : boundE S c = 0) : (∀ n ∈ limL S c, 1 ≤ n) ∧ ∀ n ∈ limL S c, n < 340282366920938463463374607431768211456 := by
  obtain ⟨h1, -, -⟩ := boundE_zero h
  obtain ⟨q1, q2, q3, -, -⟩ := shpB_yes h1
  obtain ⟨b1, b2, -⟩ := boundN_lt h
  obtain ⟨m1, m2⟩ := lim_most h1
  have hl := lg_le (maxTo (1 :: S.sizes) (S.sizes.length + 1)) (by omega)
  unfold limL
  constructor
  · intro n hn
    simp only [List.mem_cons, List.not_mem_nil, or_false] at hn
    omega
  · intro n hn
    simp only [List.mem_cons, List.not_mem_nil, or_false] at hn
    omega

theorem ownsRow_one (w : World) (u : Value) (t : TypeId) : (w.alloc (.cells #[u] t)).ownsRow w.heap.size t 1 (.slice (some ⟨w.heap.size, 0, none⟩) 1 1) 1 [u] :=
  ⟨by simp, .inr ⟨w.heap.size, 1, #[u], rfl, Nat.le_refl _, box_new _ _ _, Nat.le_refl _, by unfold maxLen; omega, by simp, by simp⟩⟩

set_option maxRecDepth 100000 in
set_option maxHeartbeats 4000000 in
theorem limit_no (S : Shp) (c : Cov) (ev sv wv' : Value) (w : World) (h : ShR w ev sv S) (hw : SlI .i64 w wv' c.ws) (hO : One w) (hE : boundE S c ≠ 0) :
    Calls Tryd.prog 29 #[shpV S.many ev sv, covV wv' c.of] w fun e w' => e = .returned (.tuple #[.agg #[.int .u64 0, .int .u64 0], .int .i64 (boundE S c)]) ∧ Below w.heap.size w w' := by
  have hS := BndW.start (w := w) (m := S.many) (ev := ev) (sv := sv) (wv := wv') (o := c.of)
  have hB := Bound_any S c ev sv wv' _ (h.later hS.bel) (SlI.later hw hS.bel) (hO.later hS.bel)
  have hV : boundV S c = .tuple #[.agg #[.int .u64 0, .int .u64 0], .int .i64 (boundE S c)] := by
    unfold boundV boundN; rw [if_neg hE]; rfl
  rw [hV] at hB
  have HB := Lib.hid hB
  have HS := Lib.hid hS
  generalize hq : boundE S c = q at *
  have hq1 : (q != 0) = true := by simpa using hE
  obtain ⟨m, ls, zs⟩ := S
  obtain ⟨ws, o⟩ := c
  obtain ⟨ae, ce, rfl, -⟩ := h.edges.open
  obtain ⟨az, cz, rfl, -⟩ := h.sizes.open
  obtain ⟨aw, cw, rfl, -⟩ := hw.open
  simp only at HB HS ⊢
  clear h hw hB hS hV hE hO hq
  go_enter Tryd.func29, Tryd.ntmps29
  go_wp2_with fail
  refine HB.out.mono ?_
  rintro e w1 ⟨rfl, hb1⟩
  have H1 := Lib.hid (HS.out.later hb1)
  obtain ⟨r0, r1, f0, f1, lr⟩ := H1.out.res
  clear hb1
  go_wp2_with fail
  refine bodyPost_ret (v := .tuple #[.agg #[.int .u64 0, .int .u64 0], .int .i64 q]) (by simp [results, Tryd.results29, go_sem, r0, r1, lr]) rfl ?_
  exact ⟨rfl, (H1.out.done _ _).alloc (by have := H1.out.bel.size; simpa using this) _⟩

end Go.Proofs.YtdmfhlfhlflakaaDoor
