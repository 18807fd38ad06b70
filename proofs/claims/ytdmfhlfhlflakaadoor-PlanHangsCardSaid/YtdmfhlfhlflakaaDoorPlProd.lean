/-
  plan.product, walked.
-/
import Derived.Test.YtdmfhlfhlflakaaDoorPlCov
namespace Go.Proofs.YtdmfhlfhlflakaaDoor
open Go.RowKit
set_option linter.unusedVariables false

def wcells (n : Nat) : List Value := [.int .u64 ((n / 18446744073709551616 : Nat) : Int), .int .u64 ((n % 18446744073709551616 : Nat) : Int)]
theorem wcells_len (n : Nat) : (wcells n).length = 2 := rfl
/-- A slice of wide numbers, read. -/
def SlW (w : World) (v : Value) (ns : List Nat) : Prop := SlT wcells 2 w v ns
theorem SlW.later {w w' : World} {v : Value} {ns : List Nat} (h : SlW w v ns) (hb : Below w.heap.size w w') : SlW w' v ns := SlT.later h hb
theorem SlW.open {w : World} {v : Value} {ns : List Nat} (h : SlW w v ns) :
    ∃ (a : Option Addr) (c : Nat), v = .slice a ns.length c ∧ ns.length ≤ c ∧ c ≤ 9223372036854775807 ∧ (a = none → c = 0) ∧
      (0 < ns.length → ∃ b o, a = some ⟨b, o, none⟩ ∧ b < w.heap.size ∧ ∀ i, (hi : i < ns.length) → w.cell? ⟨b, o + i * 2, none⟩ = some (.int .u64 ((ns[i] / 18446744073709551616 : Nat) : Int)) ∧ w.cell? ⟨b, o + i * 2 + 1, none⟩ = some (.int .u64 ((ns[i] % 18446744073709551616 : Nat) : Int))) := by
  obtain ⟨a, c, e, h1, h2, h3, h4⟩ := SlT.open wcells_len h
  refine ⟨a, c, e, h1, h2, h3, fun h0 => ?_⟩
  obtain ⟨b, o, e1, hlt, hc⟩ := h4 h0
  exact ⟨b, o, e1, hlt, fun i hi => ⟨hc i hi 0 _ rfl, hc i hi 1 _ rfl⟩⟩

/-- The product of the first k. -/
def prodTo (ns : List Nat) (k : Nat) : Nat := (ns.take k).foldl (· * ·) 1
theorem prodTo_zero (ns : List Nat) : prodTo ns 0 = 1 := rfl
theorem prodTo_succ {ns : List Nat} {k : Nat} (h : k < ns.length) : prodTo ns (k + 1) = prodTo ns k * ns[k] := by
  unfold prodTo
  rw [List.take_succ_eq_append_getElem h, List.foldl_append]
  rfl
theorem prodTo_mono {ns : List Nat} (h : ∀ n ∈ ns, 1 ≤ n) {k : Nat} : ∀ d, k + d ≤ ns.length → prodTo ns k ≤ prodTo ns (k + d)
  | 0, _ => Nat.le_refl _
  | d + 1, hd => by
    have h1 := prodTo_mono h (k := k) d (by omega)
    rw [show k + (d + 1) = (k + d) + 1 from rfl, prodTo_succ (by omega)]
    have h2 := h _ (List.getElem_mem (show k + d < ns.length by omega))
    exact Nat.le_trans h1 (Nat.le_mul_of_pos_right _ h2)

/-- What the loop of product keeps. -/
structure ProW (w : World) (B : Nat) (p : Nat) (W : World) : Prop where
  bel : Below w.heap.size w W
  br : W.heap[w.heap.size]? = some (.cells #[.int .u64 0, .int .u64 0] 35 (0, 0))
  bo : WB W B p
theorem ProW.later {w W W' : World} {B p : Nat} (h : ProW w B p W) (hb : Below W.heap.size W W') : ProW w B p W' :=
  ⟨later_trans h.bel hb, kept hb h.br, h.bo.later hb⟩
theorem ProW.set {w W : World} {B p q : Nat} (h : ProW w B p W) (hB : w.heap.size < B) :
    ProW w B q ((W.setCell ⟨B, 0, none⟩ (.int .u64 ((q / 18446744073709551616 : Nat) : Int))).setCell ⟨B, 1, none⟩ (.int .u64 ((q % 18446744073709551616 : Nat) : Int))) := by
  refine ⟨below_set (below_set h.bel (by omega)) (by omega), box_other (box_other h.br (by omega) _) (by omega) _, ?_⟩
  have := box_set (i := 1) (box_set (i := 0) h.bo (.int .u64 ((q / 18446744073709551616 : Nat) : Int))) (.int .u64 ((q % 18446744073709551616 : Nat) : Int))
  unfold WB
  simpa using this

set_option maxRecDepth 100000 in
set_option maxHeartbeats 4000000 in
theorem product_any (v : Value) (ns : List Nat) (w : World) (h : SlW w v ns) (h1 : ∀ n ∈ ns, 1 ≤ n) (hM : ∀ n ∈ ns, n < 340282366920938463463374607431768211456) :
    Calls Tryd.prog 50 #[v] w fun e w' => e = .returned (wres (prodTo ns ns.length)) ∧ Below w.heap.size w w' := by
  have HS := Lib.hid h
  have HP := Lib.hid (And.intro h1 hM)
  obtain ⟨a, c, rfl, l1, l2, l3, l4⟩ := h.open
  have hm : ns.length ≤ 9223372036854775807 := by omega
  have hO := fun W => Of_any 1 (by decide) W
  rw [show wv 1 = .agg #[.int .u64 0, .int .u64 1] from rfl] at hO
  clear h l3 l4 l1 h1 hM
  go_enter Tryd.func50, Tryd.ntmps50
  go_wp2_with fail
  refine (hO _).mono ?_
  rintro e w1 ⟨rfl, hb1⟩
  have b0 := new_kept hb1
  have hsz := hb1.size
  rw [World.size_alloc] at hsz
  have h0 : ProW w w1.heap.size 1 (w1.alloc (.cells #[.int .u64 0, .int .u64 1] 35)) := ⟨later_trans (below_new hb1) (later_alloc _ _), box_alloc b0 _, box_new _ _ _⟩
  have H0 := Lib.hid h0
  obtain ⟨B, hB⟩ : ∃ B, w1.heap.size = B := ⟨_, rfl⟩
  have HBB : Hid (w.heap.size < B) := Lib.hid (by rw [← hB]; omega)
  clear hb1 b0 h0
  go_wp2_with fail
  rw [hB] at H0 hsz
  clear hB
  go_loopw [12] (fun i wr => ∃ k : Nat, k ≤ ns.length ∧ i = .int .i64 k ∧ ProW w B (prodTo ns k) wr ∧ prodTo ns k < 340282366920938463463374607431768211456) (fun i _ => ns.length - (intOf i).toNat)
  case atStart => exact ⟨0, Nat.zero_le _, rfl, H0.out, by rw [prodTo_zero]; decide⟩
  case round =>
    obtain ⟨k, hk, rfl, hI, hlt0⟩ := hrel
    have HI := Lib.hid hI
    have bo := hI.bo
    have br := hI.br
    unfold WB at bo
    obtain ⟨p, hp⟩ : ∃ p, prodTo ns k = p := ⟨_, rfl⟩
    rw [hp] at bo HI hlt0
    obtain ⟨ph, hph⟩ : ∃ ph, p / 18446744073709551616 = ph := ⟨_, rfl⟩
    obtain ⟨pl, hpl⟩ : ∃ pl, p % 18446744073709551616 = pl := ⟨_, rfl⟩
    rw [hph, hpl] at bo
    have HPH := Lib.hid (And.intro hph hpl)
    have o0 := box_cell (i := 0) bo
    have o1 := box_cell (i := 1) bo
    have fo0 := box_frozen (i := 0) bo
    have fo1 := box_frozen (i := 1) bo
    have r0 := box_cell (i := 0) br
    have r1 := box_cell (i := 1) br
    have fr0 := box_frozen (i := 0) br
    have fr1 := box_frozen (i := 1) br
    have lB := lt_of_block bo
    simp at o0 o1 r0 r1
    by_cases hlt : k < ns.length
    · obtain ⟨_, _, e1, _, _, _, g4⟩ := (HS.out.later hI.bel).open
      obtain ⟨b, o, e2, hbw, gc⟩ := g4 (by omega)
      obtain ⟨c0, c1⟩ := gc k hlt
      injection e1 with e1a e1b e1c
      subst e1a
      subst e2
      have hn1 := HP.out.1 _ (List.getElem_mem hlt)
      have hn2 := HP.out.2 _ (List.getElem_mem hlt)
      have hst := prodTo_succ hlt
      rw [hp] at hst
      obtain ⟨n, hn⟩ : ∃ n, ns[k] = n := ⟨_, rfl⟩
      rw [hn] at c0 c1 hn1 hn2 hst
      have hMul := fun W => Mul_any p n hlt0 hn2 W
      have HK := Lib.hid (And.intro hlt hst)
      clear gc g4 e1b e1c hn hI hp bo br
      by_cases hov : p * n < 340282366920938463463374607431768211456
      · have hr : wres (p * n) = .tuple #[wv (p * n), .int .i64 0] := by unfold wres; rw [if_pos hov]
        rw [hr] at hMul
        have HO := Lib.hid hov
        unfold wv at hMul
        obtain ⟨q, hq⟩ : ∃ q, p * n = q := ⟨_, rfl⟩
        rw [hq] at hMul HO HK
        obtain ⟨qh, hqh⟩ : ∃ qh, q / 18446744073709551616 = qh := ⟨_, rfl⟩
        obtain ⟨ql, hql⟩ : ∃ ql, q % 18446744073709551616 = ql := ⟨_, rfl⟩
        rw [hqh, hql, hph, hpl] at hMul
        have HQ := Lib.hid (And.intro hqh hql)
        generalize n / 18446744073709551616 = nh at *
        generalize n % 18446744073709551616 = nl at *
        clear hr hov hq hqh hql hn1 hn2 hst hlt hlt0 hph hpl
        have hltI : (k : Int) < ns.length := by have := HK.out.1; omega
        go_wp2_with fail
        refine (hMul _).mono ?_
        rintro e w2 ⟨rfl, hb2⟩
        have H2 := Lib.hid (HI.out.later (later_trans (later_alloc _ _) hb2))
        have bo2 := H2.out.bo
        unfold WB at bo2
        have fo0 := box_frozen (i := 0) bo2
        have fo1 := box_frozen (i := 1) bo2
        have o0 := box_cell (i := 0) bo2
        have o1 := box_cell (i := 1) bo2
        have lB2 := lt_of_block bo2
        rw [HPH.out.1, HPH.out.2] at o0 o1
        have q0 : w2.cell? ⟨B, 0, none⟩ = some (.int .u64 (ph : Int)) := o0
        have q1 : w2.cell? ⟨B, 1, none⟩ = some (.int .u64 (pl : Int)) := o1
        clear hb2 bo2 o0 o1
        go_wp2_with fail
        go_roundw
        case rel =>
          refine ⟨k + 1, HK.out.1, by go_num, ?_, by rw [HK.out.2]; exact HO.out⟩
          rw [HK.out.2]
          have h3 := (ProW.set (q := q) H2.out HBB.out).later (later_alloc _ (.cells #[.int .u64 (qh : Int), .int .u64 (ql : Int)] 35))
          rw [HQ.out.1, HQ.out.2] at h3
          exact h3
        case measure => simp [intOf]; omega
      · have hr : wres (p * n) = .tuple #[.agg #[.int .u64 0, .int .u64 0], .int .i64 110] := by unfold wres; rw [if_neg hov]; rfl
        have HE : Hid (wres (prodTo ns ns.length) = .tuple #[.agg #[.int .u64 0, .int .u64 0], .int .i64 110]) := Lib.hid (by
          have hmo := prodTo_mono HP.out.1 (k := k + 1) (ns.length - (k + 1)) (by have := HK.out.1; omega)
          rw [show k + 1 + (ns.length - (k + 1)) = ns.length from by have := HK.out.1; omega, HK.out.2] at hmo
          unfold wres
          rw [if_neg (by omega)]; rfl)
        rw [hr] at hMul
        unfold wv at hMul
        rw [hph, hpl] at hMul
        generalize n / 18446744073709551616 = nh at *
        generalize n % 18446744073709551616 = nl at *
        clear hr hov hn1 hn2 hst hlt hlt0 hph hpl
        have hltI : (k : Int) < ns.length := by have := HK.out.1; omega
        go_wp2_with fail
        refine (hMul _).mono ?_
        rintro e w2 ⟨rfl, hb2⟩
        have H2 := Lib.hid (HI.out.later (later_trans (later_alloc _ _) hb2))
        have br2 := H2.out.br
        have fr0 := box_frozen (i := 0) br2
        have fr1 := box_frozen (i := 1) br2
        have r0 : w2.cell? ⟨w.heap.size, 0, none⟩ = some (.int .u64 0) := box_cell (i := 0) br2
        have r1 : w2.cell? ⟨w.heap.size, 1, none⟩ = some (.int .u64 0) := box_cell (i := 1) br2
        have lR2 := lt_of_block br2
        clear hb2 br2
        go_wp2_with fail
        refine bodyPost_ret (v := .tuple #[.agg #[.int .u64 0, .int .u64 0], .int .i64 110]) (by simp [results, Tryd.results50, go_sem, r0, r1, lR2]) rfl ?_
        exact ⟨by rw [HE.out], (below_set (below_set H2.out.bel (Nat.le_refl _)) (Nat.le_refl _)).alloc (by have := H2.out.bel.size; simpa using this) _⟩
    · obtain rfl : k = ns.length := by omega
      have HE : Hid (wres (prodTo ns ns.length) = .tuple #[.agg #[.int .u64 (ph : Int), .int .u64 (pl : Int)], .int .i64 0]) := Lib.hid (by
        rw [hp]; unfold wres; rw [if_pos hlt0]; unfold wv; rw [hph, hpl])
      clear hp hI bo br hph hpl
      go_wp2_with fail
      refine bodyPost_ret (v := .tuple #[.agg #[.int .u64 (ph : Int), .int .u64 (pl : Int)], .int .i64 0]) (by simp [results, Tryd.results50, go_sem, r0, r1]) rfl ?_
      exact ⟨by rw [HE.out], below_set (below_set HI.out.bel (Nat.le_refl _)) (Nat.le_refl _)⟩
end Go.Proofs.YtdmfhlfhlflakaaDoor
