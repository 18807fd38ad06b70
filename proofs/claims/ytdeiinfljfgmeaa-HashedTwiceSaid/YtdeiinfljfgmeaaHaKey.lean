/-
  hashed.key, walked: eight bytes a value.
-/
import Derived.Laws.IdiomStrings
import Derived.Test.YtdeiinfljfgmeaaHaCells
namespace Go.Proofs.Ytdeiinfljfgmeaa
open Go.RowKit
set_option linter.unusedVariables false
set_option linter.unusedSimpArgs false

/-- The first bytes of a value, the lowest first. -/
def bytesN (n : Nat) : Nat → List UInt8
  | 0 => []
  | j + 1 => bytesN n j ++ [UInt8.ofNat (n / 256 ^ j)]
def keyL (xs : List Int) : List UInt8 := xs.flatMap fun x => bytesN x.toNat 8
theorem bytesN_len (n : Nat) : ∀ j, (bytesN n j).length = j
  | 0 => rfl
  | j + 1 => by rw [bytesN, List.length_append, bytesN_len n j]; rfl
theorem keyL_snoc (xs : List Int) (x : Int) : keyL (xs ++ [x]) = keyL xs ++ bytesN x.toNat 8 := by simp [keyL]
theorem keyL_len (xs : List Int) : (keyL xs).length = 8 * xs.length := by
  induction xs with
  | nil => rfl
  | cons x xs ih =>
    have : keyL (x :: xs) = bytesN x.toNat 8 ++ keyL xs := by simp [keyL]
    rw [this, List.length_append, bytesN_len, ih, List.length_cons]
    omega
theorem bytesN_eq {a b : Nat} : ∀ j, bytesN a j = bytesN b j → a % 256 ^ j = b % 256 ^ j
  | 0, _ => by simp [Nat.mod_one]
  | j + 1, h => by
    rw [bytesN, bytesN] at h
    have hl : (bytesN a j).length = (bytesN b j).length := by rw [bytesN_len, bytesN_len]
    obtain ⟨h1, h2⟩ := List.append_inj h hl
    have e1 := bytesN_eq j h1
    have e2 : (UInt8.ofNat (a / 256 ^ j)).toNat = (UInt8.ofNat (b / 256 ^ j)).toNat := by
      have := List.cons.inj h2
      rw [this.1]
    rw [UInt8.toNat_ofNat', UInt8.toNat_ofNat'] at e2
    rw [Nat.pow_succ, Nat.mod_mul, Nat.mod_mul, e1]
    have e3 : a / 256 ^ j % 256 = b / 256 ^ j % 256 := e2
    rw [e3]
theorem bytes8_inj {x y : Int} (hx : 0 ≤ x ∧ x < 18446744073709551616) (hy : 0 ≤ y ∧ y < 18446744073709551616) (h : bytesN x.toNat 8 = bytesN y.toNat 8) : x = y := by
  have e := bytesN_eq 8 h
  rw [Nat.mod_eq_of_lt (by omega), Nat.mod_eq_of_lt (by omega)] at e
  omega
theorem keyL_inj : ∀ {xs ys : List Int}, (∀ x ∈ xs, 0 ≤ x ∧ x < 18446744073709551616) → (∀ y ∈ ys, 0 ≤ y ∧ y < 18446744073709551616) → keyL xs = keyL ys → xs = ys
  | [], [], _, _, _ => rfl
  | [], y :: ys, _, _, h => by
    have := congrArg List.length h
    rw [keyL_len, keyL_len, List.length_cons] at this
    simp at this
  | x :: xs, [], _, _, h => by
    have := congrArg List.length h
    rw [keyL_len, keyL_len, List.length_cons] at this
    simp at this
  | x :: xs, y :: ys, h1, h2, h => by
    have c : ∀ (z : Int) (zs : List Int), keyL (z :: zs) = bytesN z.toNat 8 ++ keyL zs := fun z zs => by simp [keyL]
    rw [c, c] at h
    obtain ⟨e1, e2⟩ := List.append_inj h (by rw [bytesN_len, bytesN_len])
    rw [bytes8_inj (h1 x (List.mem_cons_self ..)) (h2 y (List.mem_cons_self ..)) e1, keyL_inj (fun z hz => h1 z (List.mem_cons_of_mem _ hz)) (fun z hz => h2 z (List.mem_cons_of_mem _ hz)) e2]
theorem info_u8 : (Try.prog.info? 5).map (fun i => (i.zero, i.size, i.bytes)) = some (some (.int .u8 0), 1, 1) := by kernel_rfl
abbrev byV (b : UInt8) : Value := .int .u8 (b.toNat : Int)
set_option maxRecDepth 100000 in
theorem conv_bytes {w : World} {base : Nat} {v : Value} {L : List UInt8} (h : w.ownsRow base 5 1 v L.length (L.map byV)) : (convert 93 9 v).run Try.prog w = .ok (.string ⟨L.toArray⟩) w := by
  obtain ⟨a, c, rfl⟩ := owns_shape2 h
  rcases h.2 with ⟨e, h0⟩ | ⟨g, cap, cur, e, -⟩
  · have hL : L = [] := List.length_eq_zero_iff.1 h0
    subst hL
    simp only [Value.slice.injEq] at e
    obtain ⟨rfl, -, rfl⟩ := e
    rw [run_convert_bytes_string w _ _ 5 none _ _ Try.underlying93 Try.underlying5 Try.underlying9]
    rfl
  · simp only [Value.slice.injEq] at e
    obtain ⟨rfl, -, rfl⟩ := e
    refine run_convert_bytes_back w _ _ 5 ⟨g, 0, none⟩ c L Try.underlying93 Try.underlying5 Try.underlying9 fun j hj => ?_
    have hne : L.map byV ≠ [] := fun q => by rw [List.map_eq_nil_iff.1 q] at hj; simp at hj
    obtain ⟨a', c', e', _, _, _, k4⟩ := SlC.of_owns h
    obtain ⟨b, o, eb, _, hc⟩ := k4 hne
    simp only [Value.slice.injEq] at e'
    obtain ⟨rfl, -, rfl⟩ := e'
    have hadd : (⟨g, 0, none⟩ : Addr).add j = ⟨g, 0 + j, none⟩ := by unfold Addr.add; split <;> simp_all
    simp only [Option.some.injEq, Addr.mk.injEq] at eb
    obtain ⟨rfl, rfl, -⟩ := eb
    rw [hadd]
    exact hc j _ (by simp [hj])
set_option maxRecDepth 100000 in
set_option maxHeartbeats 2000000 in
theorem key_any (v : Value) (xs : List Int) (w : World) (h : SlI .u64 w v xs) (hl : xs.length ≤ 1048576) :
    Calls Try.prog 51 #[v] w fun e w' => e = .returned (.string ⟨(keyL xs).toArray⟩) ∧ Below w.heap.size w w' := by
  obtain ⟨i0, hi, hz0, hz1, hz2⟩ := info_parts info_u8
  have H := Lib.hid h
  obtain ⟨a, c, rfl, -⟩ := h.open
  clear h
  go_enter Try.func51, Try.ntmps51
  go_wp2_with fail
  go_loopw [3, 8] (fun v i wr => ∃ k : Nat, k ≤ xs.length ∧ i = .int .i64 k ∧ wr.ownsRow w.heap.size 5 1 v (8 * k) ((keyL (xs.take k)).map byV) ∧ Below w.heap.size w wr) (fun _ i _ => xs.length - (intOf i).toNat)
  case atStart => exact ⟨0, Nat.zero_le _, rfl, World.ownsRow_nil _ _ _ _, Below.refl _ _⟩
  case round =>
    obtain ⟨k, hk, rfl, hO, hb⟩ := hrel
    by_cases hlt : k < xs.length
    · obtain ⟨_, _, e1, _, _, _, g4⟩ := (SlI.later H.out hb).open
      obtain ⟨be, oe, e2, _, gc⟩ := g4 (by omega)
      have ce1 := gc k hlt
      injection e1 with e1a e1b e1c
      subst e1a e1c
      subst e2
      obtain ⟨x, hx⟩ : ∃ x, xs[k] = x := ⟨_, rfl⟩
      have hst : keyL (xs.take (k + 1)) = keyL (xs.take k) ++ bytesN x.toNat 8 := by
        rw [List.take_succ_eq_append_getElem hlt, keyL_snoc, hx]
      have hxw : 0 ≤ x ∧ x < 18446744073709551616 := by
        have := H.out.2 xs[k] (List.getElem_mem hlt)
        rw [hx] at this
        have e1 : IntKind.u64.min = 0 := by decide
        have e2 : IntKind.u64.max = 18446744073709551615 := by decide
        simp [Lit.wf, e1, e2] at this
        omega
      obtain ⟨m, rfl⟩ : ∃ m : Nat, x = (m : Int) := ⟨x.toNat, by omega⟩
      rw [hx] at ce1
      obtain ⟨L, hL⟩ : ∃ L, keyL (xs.take k) = L := ⟨_, rfl⟩
      rw [hL] at hO hst
      have HO := Lib.hid (And.intro hO (And.intro hb (And.intro hlt hst)))
      clear gc g4 e1b hst hb hL hO
      go_wp2_with fail
      go_loopw [3, 5, 12] (fun v n j W => ∃ i : Nat, i ≤ 8 ∧ j = .int .i64 i ∧ n = .int .u64 ((m / 256 ^ i : Nat) : Int) ∧ W.ownsRow w.heap.size 5 1 v (8 * k + i) ((L ++ bytesN m i).map byV) ∧ Below w.heap.size w W) (fun _ _ j _ => 8 - (intOf j).toNat)
      case atStart => exact ⟨0, by omega, rfl, by simp, by simpa [bytesN] using HO.out.1, HO.out.2.1⟩
      case round =>
        obtain ⟨i, hi8, rfl, rfl, hO2, hb2⟩ := hrel
        by_cases hi8' : i < 8
        · obtain ⟨q, hq⟩ : ∃ q, m / 256 ^ i = q := ⟨_, rfl⟩
          have hq2 : m / 256 ^ (i + 1) = q / 256 := by rw [← hq, Nat.pow_succ, Nat.div_div_eq_div_mul]
          have hqm : q < 18446744073709551616 := by have := Nat.div_le_self m (256 ^ i); omega
          rw [hq]
          obtain ⟨av, cv, rfl⟩ := owns_shape2 hO2
          have hk20 : k ≤ 1048576 := by omega
          have hbz := hb2.size
          have HO2 := Lib.hid (And.intro hO2 hb2)
          go_wp2_with (at_builtin; refine wpList_append_own _ rfl (.tmp 14) (.tmp 17) 93 rfl w.heap.size 5 i0 _ 1 1 Try.underlying93 hi hz0 hz1 hz2 rfl (by decide) _ _ _ rfl (hO2.alloc _) ⟨wr.heap.size, 0, none⟩ 1 1 [.int .u8 ((q : Int) % 256)] rfl rfl (cells_new _ _ _) (by simp [Value.oneCell']) (by unfold maxLen; omega) (by omega) (by simp; omega) ?_; intro v6 w6 hown6 hgrow6 _; obtain ⟨g6, cap6, rfl⟩ := ownsRow_succ hown6)
          have hB6 : Below w.heap.size w w6 := (later_trans HO2.out.2 (later_alloc wr _)).grown hgrow6 (by simp; omega) (fun k e => owns_above HO2.out.1 k e)
          have hby : byV (UInt8.ofNat q) = .int .u8 ((q : Int) % 256) := by
            unfold byV
            rw [UInt8.toNat_ofNat']
            congr 1
          have hmp : (L ++ bytesN m (i + 1)).map byV = (L ++ bytesN m i).map byV ++ [.int .u8 ((q : Int) % 256)] := by
            rw [bytesN, hq, ← List.append_assoc, List.map_append, ← hby]
            rfl
          have HN := Lib.hid (And.intro (show w6.ownsRow w.heap.size 5 1 (.slice (some ⟨g6, 0, none⟩) (8 * k + i + 1) cap6) (8 * k + (i + 1)) ((L ++ bytesN m (i + 1)).map byV) by rw [hmp]; exact hown6) hB6)
          clear hO2 hown6 hgrow6 hB6 hb2 hmp hby
          go_roundw
          case rel => exact ⟨i + 1, by omega, by go_num, by rw [hq2]; first | rfl | simp, HN.out.1, HN.out.2⟩
          case measure => simp [intOf]; omega
        · obtain rfl : i = 8 := by omega
          have hL8 : L ++ bytesN m 8 = keyL (xs.take (k + 1)) := by rw [HO.out.2.2.2]; rfl
          rw [hL8] at hO2
          have HN := Lib.hid (And.intro hO2 hb2)
          clear hO2 hb2 hL8
          go_wp2_with fail
          go_roundw
          case rel => exact ⟨k + 1, HO.out.2.2.1, by go_num, HN.out.1, HN.out.2⟩
          case measure => simp [intOf]; have := HO.out.2.2.1; omega
    · obtain rfl : k = xs.length := by omega
      rw [List.take_length] at hO
      have hcv := conv_bytes (by rw [keyL_len]; exact hO)
      obtain ⟨av, cv, rfl⟩ := owns_shape2 hO
      have HR := Lib.hid hb
      clear hO hb
      go_wp2_with fail
      go_ret
      exact ⟨rfl, HR.out⟩
end Go.Proofs.Ytdeiinfljfgmeaa
