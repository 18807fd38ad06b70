/-
  slices.Repeat of one element; math/bits.Mul. (Mul64 as in XWiMul.)
-/
import Derived.Shelf.Bits.Mul64
import Derived.Laws.CopyOwn
import Derived.Deep.RegionLaw
import Derived.Test.YtplidcbfbonjlaaDoorHzChk
namespace Go.Proofs.YtplidcbfbonjlaaDoor
open Go.RowKit Go.Lib Go.Shelf
set_option linter.unusedVariables false
set_option linter.unusedSimpArgs false

set_option maxHeartbeats 1000000 in
theorem mul64_any (x y : Nat) (hx : x < 18446744073709551616) (hy : y < 18446744073709551616) (w : World) :
    Calls Tryd.prog 91 #[.int .u64 x, .int .u64 y] w fun e w' => e = .returned (.tuple #[.int .u64 ((x * y / 18446744073709551616 : Nat) : Int), .int .u64 ((x * y % 18446744073709551616 : Nat) : Int)]) ∧ w' = w := by
  obtain ⟨bd, bt, bw, hhi⟩ := Lib.mul64_hi x y hx hy
  have ba := Lib.half_mul_le (a := x / 4294967296) (b := y / 4294967296) (by omega) (by omega)
  have bb := Lib.half_mul_le (a := x / 4294967296) (b := y % 4294967296) (by omega) (by omega)
  have bc := Lib.half_mul_le (a := x % 4294967296) (b := y / 4294967296) (by omega) (by omega)
  have ba' : x / 4294967296 * (y / 4294967296) < 18446744073709551616 := by omega
  have bb' : x / 4294967296 * (y % 4294967296) < 18446744073709551616 := by omega
  have bc' : x % 4294967296 * (y / 4294967296) < 18446744073709551616 := by omega
  have bh1 : x / 4294967296 * (y / 4294967296) + (x / 4294967296 * (y % 4294967296) + x % 4294967296 * (y % 4294967296) / 4294967296) / 4294967296 < 18446744073709551616 := by omega
  have bh : x / 4294967296 * (y / 4294967296) + (x / 4294967296 * (y % 4294967296) + x % 4294967296 * (y % 4294967296) / 4294967296) / 4294967296 + ((x / 4294967296 * (y % 4294967296) + x % 4294967296 * (y % 4294967296) / 4294967296) % 4294967296 + x % 4294967296 * (y / 4294967296)) / 4294967296 < 18446744073709551616 := by omega
  go_enter Tryd.func91, Tryd.ntmps91
  go_wp2
  -- the walk's numbers, folded from the inside out: each step of the school method is a natural number that does not wrap
  simp only [Mul64.maskN x hx, Mul64.maskN y hy, Mul64.divN, Mul64.mulN, Mul64.addN, Mul64.wrapN _ bd, Mul64.wrapN _ bb', Mul64.wrapN _ bt, Mul64.maskN _ bt, Mul64.wrapN _ bc', Mul64.wrapN _ bw, Mul64.wrapN _ ba', Mul64.wrapN _ bh1, Mul64.wrapN _ bh, Mul64.wrapM (x * y)]
  rw [hhi]
  go_ret2
  exact ⟨rfl, rfl⟩


theorem Mul_any (x y : Nat) (hx : x < 18446744073709551616) (hy : y < 18446744073709551616) (w : World) :
    Calls Tryd.prog 76 #[.int .u64 x, .int .u64 y] w fun e w' => e = .returned (.tuple #[.int .u64 ((x * y / 18446744073709551616 : Nat) : Int), .int .u64 ((x * y % 18446744073709551616 : Nat) : Int)]) ∧ w' = w := by
  have hM := mul64_any x y hx hy w
  obtain ⟨h1, e1⟩ : ∃ q, x * y / 18446744073709551616 = q := ⟨_, rfl⟩
  obtain ⟨h2, e2⟩ : ∃ q, x * y % 18446744073709551616 = q := ⟨_, rfl⟩
  rw [e1, e2] at hM ⊢
  clear e1 e2
  go_enter Tryd.func76, Tryd.ntmps76
  go_wp2_with fail
  refine hM.mono ?_
  rintro e w' ⟨rfl, rfl⟩
  go_wp2_with fail
  go_ret2
  exact ⟨rfl, rfl⟩
theorem splice_rep {v z : Value} {n k m : Nat} (hm : k + m ≤ n) : splice (List.replicate k v ++ List.replicate (n - k) z) k (List.replicate m v) = List.replicate (k + m) v ++ List.replicate (n - (k + m)) z := by
  unfold splice
  rw [List.take_left' (by simp), List.length_replicate, List.drop_append, List.length_replicate, List.drop_eq_nil_of_le (by simp), List.nil_append, List.drop_replicate, show k + m - k = m by omega, ← List.append_assoc, List.replicate_append_replicate]
  congr 2
  omega
theorem rep_src {W : World} {aa : Option Addr} {ca m0 g : Nat} {v : Value} (h : SlC W (.slice aa 1 ca) [v]) (hm : m0 ≤ 1) : 0 < (List.replicate m0 v).length → some (⟨g, 0, none⟩ : Addr) = some ⟨g, 0, none⟩ ∧ ∃ ad, aa = some ad ∧ ∀ j u, (List.replicate m0 v)[j]? = some u → W.cell? (ad.add j) = some u := fun h0 => by
  rw [List.length_replicate] at h0
  obtain rfl : m0 = 1 := by omega
  exact copy_srcI h (by simp)
theorem rep_self {W : World} {g k m n : Nat} {v z : Value} {e : TypeId} (h : W.heap[g]? = some (.cells (List.replicate k v ++ List.replicate (n - k) z).toArray e (0, 0))) (hm : m ≤ k) : ∀ j u, (List.replicate m v)[j]? = some u → W.cell? ((⟨g, 0, none⟩ : Addr).add j) = some u := fun j u hj => by
  rw [List.getElem?_replicate] at hj
  split at hj
  · cases hj
    have e : (⟨g, 0, none⟩ : Addr).add j = ⟨g, j, none⟩ := by
      unfold Addr.add
      split
      · rename_i q; rw [q]
      · simp
    rw [e, box_cell h]
    simp [List.getElem?_append, List.getElem?_replicate]
    rw [if_pos (by omega), if_pos (by omega)]
  · cases hj
theorem rep_owns {W : World} {g n k base : Nat} {v z : Value} {e : TypeId} (h : W.heap[g]? = some (.cells (List.replicate k v ++ List.replicate (n - k) z).toArray e (0, 0))) (hk : k = n) (hg : base ≤ g) (hn : n ≤ maxLen) : W.ownsRow base e 1 (.slice (some ⟨g, 0, none⟩) n n) n (List.replicate n v) := by
  subst hk
  rw [Nat.sub_self, List.replicate_zero, List.append_nil] at h
  exact ⟨by simp, .inr ⟨g, k, _, rfl, hg, h, Nat.le_refl _, hn, by simp, by simp⟩⟩
set_option maxRecDepth 100000 in
set_option maxHeartbeats 4000000 in
theorem Repeat_any (a : Value) (x : Int) (n : Nat) (w : World) (h : SlI .i64 w a [x]) (hn : n ≤ 1048576) :
    Calls Tryd.prog 56 #[a, .int .i64 (n : Int)] w fun e w' => ∃ v', e = .returned v' ∧ w'.ownsRow w.heap.size 3 1 v' n (List.replicate n (.int .i64 x)) ∧ Below w.heap.size w w' := by
  obtain ⟨i0, hi, hz0, hz1, hz2⟩ := info_parts info_int
  have hM := Mul_any 1 n (by decide) (by omega) w
  rw [Nat.one_mul, Nat.div_eq_of_lt (by omega), Nat.mod_eq_of_lt (by omega)] at hM
  have HM := Lib.hid hM
  obtain ⟨aa, ca, rfl, -⟩ := h.open
  simp only [List.length_cons, List.length_nil, Nat.zero_add]
  have HH : Hid (SlI .i64 w (.slice aa 1 ca) [x]) := Lib.hid h
  have w1 : IntKind.u64.wrap (n : Int) = n := by simp [IntKind.wrap, IntKind.bits, IntKind.signed]; omega
  have w2 : IntKind.i64.wrap (n : Int) = n := by simp [IntKind.wrap, IntKind.bits, IntKind.signed]; omega
  have w3 : ¬ (n : Int) < 0 := by omega
  have w4 : ¬ (9223372036854775807 : Int) < n := by omega
  obtain ⟨m0, hm0⟩ : ∃ m, min 1 n = m := ⟨_, rfl⟩
  have HM0 := Lib.hid hm0
  have hs0 : w.heap.size ≤ w.heap.size := Nat.le_refl _
  clear hM h hm0
  go_enter Tryd.func56, Tryd.ntmps56
  go_wp2_with fail
  refine HM.out.mono ?_
  rintro e w9 ⟨rfl, h9⟩
  rw [h9]
  clear h9 w9
  have hcx : (List.replicate m0 (Value.int .i64 x)).length = m0 := List.length_replicate
  have hn1 : m0 = Nat.min 1 n := HM0.out.symm
  have hmn : m0 ≤ n := by rw [hn1]; exact Nat.min_le_right _ _
  have hm1 : m0 ≤ 1 := by rw [hn1]; exact Nat.min_le_left _ _
  go_wp2_with (first | (at_make; refine wpList_make_full w rfl (.tmp 29) (.tmp 29) 27 rfl w.heap.size 3 i0 (.int .i64 0) 1 Tryd.underlying27 hi hz0 hz1 .i64 .i64 _ _ n rfl rfl rfl rfl (by rw [hz2]; omega) (by unfold maxLen; omega) hs0 ?_; intro w3 hown3 hgrow3; have hblk := owns_blockI hown3; have hb3 : Below w.heap.size w w3 := (Below.refl _ w).grown hgrow3 hs0 (fun k e => by cases e); have hcs := (SlI.later HH.out hb3).1) | ((with_reducible show wpList _ _ _ _ _ _); refine wpList_copy_splice rfl (.tmp 31) (.tmp 32) 27 27 rfl 3 Tryd.underlying27 info1_int _ _ _ _ _ _ rfl rfl w.heap.size 0 _ 3 hblk (List.replicate m0 (Value.int .i64 x)) (by rw [hcx]; exact hn1) (rep_src hcs hm1) (by simp [madeCells, Value.cells, w2]; omega) (by intro v hv; rw [List.eq_of_mem_replicate hv]; rfl) w.heap.size w hb3 (Nat.le_refl _) ?_; intro w5 hw5 hb5))
  have hw6 : w5.heap[w.heap.size]? = some (.cells (List.replicate m0 (Value.int .i64 x) ++ List.replicate (n - m0) (Value.int .i64 0)).toArray 3 (0, 0)) := by
    have e := hw5.out
    have e0 : (madeCells (Value.int .i64 0).cells (n * 1)).toList = List.replicate n (Value.int .i64 0) := by
      rw [List.eq_replicate_iff]
      simp [madeCells, Value.cells, Nat.mod_one]
    have e1 := splice_rep (v := Value.int .i64 x) (z := Value.int .i64 0) (n := n) (k := 0) (m := m0) (by omega)
    rw [List.replicate_zero, List.nil_append, Nat.sub_zero, Nat.zero_add] at e1
    rw [e0, e1] at e
    exact e
  have H5 := Lib.hid (And.intro hw6 hb5)
  clear hw5 hw6 hb5
  rw [← hn1]
  have hm00 : 0 < n → 0 < m0 := fun h => by rw [hn1]; exact Nat.lt_min.2 ⟨by decide, h⟩
  clear hn1 hcx
  go_loopw [8] (fun i wr => ∃ k : Nat, k ≤ n ∧ (0 < n → 0 < k) ∧ i = .int .i64 k ∧ wr.heap[w.heap.size]? = some (.cells (List.replicate k (Value.int .i64 x) ++ List.replicate (n - k) (Value.int .i64 0)).toArray 3 (0, 0)) ∧ Below w.heap.size w wr) (fun i _ => n - (intOf i).toNat)
  case atStart => exact ⟨m0, hmn, hm00, rfl, H5.out.1, H5.out.2⟩
  case round =>
    obtain ⟨k, hk, hk0, rfl, hh, hb⟩ := hrel
    by_cases hlt : k < n
    · have hkp : 0 < k := hk0 (by omega)
      have hltI : (k : Int) < n := by omega
      have hnk : ¬ n = k := by omega
      obtain ⟨m, hm⟩ : ∃ m, Nat.min k (n - k) = m := ⟨_, rfl⟩
      have hmk : m ≤ k := by rw [← hm]; exact Nat.min_le_left _ _
      have hmn2 : m ≤ n - k := by rw [← hm]; exact Nat.min_le_right _ _
      have hmp : 0 < m := by rw [← hm]; exact Nat.lt_min.2 ⟨hkp, by omega⟩
      have hwk : IntKind.i64.wrap ((k : Int) + m) = ((k + m : Nat) : Int) := by simp [IntKind.wrap, IntKind.bits, IntKind.signed]; omega
      have hsp := splice_rep (v := Value.int .i64 x) (z := Value.int .i64 0) (n := n) (k := k) (m := m) (by omega)
      have hhd := (show wr.drew.heap[w.heap.size]? = _ from hh)
      have hsf := rep_self hhd hmk
      have HF := Lib.hid (And.intro hhd (And.intro hsf (And.intro hsp (And.intro hm hb.drew))))
      clear hh hhd hsf hsp hm hb
      go_wp2_with fail
      go_region_law (refine step_copy_splice rfl (.tmp 41) (.tmp 44) 27 27 rfl 3 Tryd.underlying27 info1_int (some ⟨w.heap.size, k, none⟩) (some ⟨w.heap.size, 0, none⟩) (n - k) (n - k) k n (by simp [Act.eval, Act.put]) (by simp [Act.eval, Act.put]) w.heap.size k _ 3 HF.out.1 (List.replicate m (Value.int .i64 x)) (by rw [List.length_replicate]; exact HF.out.2.2.2.1.symm) (fun _ => ⟨rfl, _, rfl, HF.out.2.1⟩) (by simp; omega) (by intro v hv; rw [List.eq_of_mem_replicate hv]; rfl) w.heap.size w HF.out.2.2.2.2 (Nat.le_refl _) ?_; intro w6 hw6 hb6)
      have hw7 := hw6.out
      rw [HF.out.2.2.1] at hw7
      have H7 := Lib.hid (And.intro hw7 hb6)
      clear hw6 hw7 hb6
      simp [Act.put, Act.eval]
      go_wp2_with fail
      go_roundw
      case rel => exact ⟨k + m, by omega, fun _ => by omega, by first | rfl | go_num, H7.out.1, H7.out.2⟩
      case measure => simp [intOf]; omega
    · obtain rfl : k = n := by omega
      have HF := Lib.hid (And.intro (rep_owns hh rfl (Nat.le_refl _) (by unfold maxLen; omega)) hb)
      clear hh hb
      go_wp2_with fail
      go_ret
      exact ⟨_, rfl, HF.out.1, HF.out.2⟩
end Go.Proofs.YtplidcbfbonjlaaDoor
