/-
  hyper's sets, walked: of, sets, the iterator over a set's elements; TrailingZeros64.
-/
import Derived.Test.YtplidcbfbonjlaaDoorHyPaP
import Derived.Test.YtplidcbfbonjlaaDoorHzChk
namespace Go.Proofs.YtplidcbfbonjlaaDoor
open Go.RowKit Go.Lib Go.Shelf
set_option linter.unusedVariables false
set_option linter.unusedSimpArgs false

/-- TrailingZeros64's table. -/
def TabW (w : World) : Prop := ∀ j, j < deBruijn64tab.length → w.cell? ⟨0, j, none⟩ = some (.int .u8 (deBruijn64tab.getD j 0))
theorem TabW.later {w w' : World} (h : TabW w) (hb : Below w.heap.size w w') : TabW w' := fun j hj => cell_next hb (h j hj)
theorem tz64_key (x a : Nat) (hx : x < 18446744073709551616) (hx0 : x ≠ 0) (hlow : x &&& (18446744073709551616 - x) = a) :
    IntKind.u64.wrap (bits BinOp.and IntKind.u64 (x : Int) (IntKind.u64.wrap (-(x : Int))) * 285870213051353865) / 288230376151711744 = ((a * 285870213051353865 % 18446744073709551616 / 288230376151711744 : Nat) : Int) := by
  have e1 : IntKind.u64.wrap (-(x : Int)) = ((18446744073709551616 - x : Nat) : Int) := by rw [IntKind.wrap_u64]; omega
  rw [e1, bits_and_u64_nat x _ hx (by omega), hlow, IntKind.wrap_u64]
  omega
set_option maxHeartbeats 1000000 in
theorem tz_core (x k idx : Nat) (w : World) (hx0 : ((x : Int) == 0) = false)
    (key : IntKind.u64.wrap (bits BinOp.and IntKind.u64 (x : Int) (IntKind.u64.wrap (-(x : Int))) * 285870213051353865) / 288230376151711744 = (idx : Int))
    (hi : idx < 64) (hk : k < 64) (hcell : w.cell? ⟨0, idx, none⟩ = some (.int .u8 k)) :
    Calls Tryd.prog 60 #[.int .u64 x] w fun e w' => e = .returned (.int .i64 k) ∧ w' = w := by
  go_enter Tryd.func60, Tryd.ntmps60
  go_wp2_with (simp only [key])
  go_ret
  exact ⟨rfl, rfl⟩
theorem tz_any (x : Nat) (hx : x < 18446744073709551616) (hx0 : x ≠ 0) (w : World) (hT : TabW w) :
    Calls Tryd.prog 60 #[.int .u64 x] w fun e w' => e = .returned (.int .i64 (ctz 64 x)) ∧ w' = w := by
  obtain ⟨hlow, hk⟩ := lowest_bit 64 x hx0 hx
  obtain ⟨hi, htab⟩ := deBruijn64_at _ hk
  have hcell := hT _ hi
  rw [htab] at hcell
  exact tz_core x _ _ w (by rw [beq_eq_false_iff_ne]; omega) (tz64_key x _ hx hx0 hlow) hi hk hcell

theorem or_bit {s n : Nat} (hs : s < 2 ^ 64) (hn : n < 64) : bits .or .u64 (s : Int) (IntKind.u64.wrap (2 ^ n)) = ((s ||| 2 ^ n : Nat) : Int) := by
  have hp : (2 : Nat) ^ n < 2 ^ 64 := Nat.pow_lt_pow_right (by decide) hn
  have hw : IntKind.u64.wrap (2 ^ n) = ((2 ^ n : Nat) : Int) := by
    rw [show ((2 : Int) ^ n) = ((2 ^ n : Nat) : Int) from by push_cast; rfl]
    generalize 2 ^ n = q at hp ⊢
    exact wrapU (by omega) (by omega)
  rw [hw, bits_or_u64_nat s (2 ^ n) hs hp]
theorem andNot_bit {s n : Nat} (hs : s < 2 ^ 64) (hn : n < 64) : bits .andNot .u64 (s : Int) (IntKind.u64.wrap (2 ^ n)) = ((minus s (2 ^ n) : Nat) : Int) := by
  have hp : (2 : Nat) ^ n < 2 ^ 64 := Nat.pow_lt_pow_right (by decide) hn
  have hw : IntKind.u64.wrap (2 ^ n) = ((2 ^ n : Nat) : Int) := by
    rw [show ((2 : Int) ^ n) = ((2 ^ n : Nat) : Int) from by push_cast; rfl]
    generalize 2 ^ n = q at hp ⊢
    exact wrapU (by omega) (by omega)
  rw [hw, bits_andNot_u64_nat s (2 ^ n) hs hp]

set_option maxHeartbeats 1000000 in
theorem of_any (v : Value) (e : List Int) (w : World) (h : SlI .i64 w v e) (hb : ∀ x ∈ e, 0 ≤ x ∧ x < (64 : Nat)) :
    Calls Tryd.prog 45 #[v] w fun en w' => en = .returned (.int .u64 ((setL e : Nat) : Int)) ∧ w' = w := by
  have hlt : ∀ k, setL (e.take k) < 2 ^ 64 := fun k => setL_lt fun x hx => hb x (List.mem_of_mem_take hx)
  obtain ⟨a, c, rfl, h1, h2, h3, h4⟩ := h.open
  have HX := Lib.hid (And.intro h4 (And.intro hb hlt))
  have hm : e.length ≤ 9223372036854775807 := by omega
  clear h h1 h2 h3 h4 hb hlt
  go_enter Tryd.func45, Tryd.ntmps45
  go_wp2
  go_loop [3, 8] (fun s i => ∃ k : Nat, k ≤ e.length ∧ i = .int .i64 k ∧ s = .int .u64 ((setL (e.take k) : Nat) : Int)) (fun _ i => e.length - (intOf i).toNat)
  case atStart => exact ⟨0, Nat.zero_le _, rfl, rfl⟩
  case round =>
    obtain ⟨k, hk, rfl, rfl⟩ := hrel
    by_cases hlt : k < e.length
    · obtain ⟨b, o, rfl, hbw, hc⟩ := HX.out.1 (by omega)
      have c1 := hc k hlt
      have hx := HX.out.2.1 e[k] (List.getElem_mem hlt)
      have hs := HX.out.2.2 k
      have hst : setL (e.take (k + 1)) = setL (e.take k) ||| 2 ^ (e[k]).toNat := by
        rw [List.take_succ_eq_append_getElem hlt, setL_snoc]
      obtain ⟨x, hxe⟩ : ∃ x, e[k] = x := ⟨_, rfl⟩
      rw [hxe] at c1 hx hst
      obtain ⟨n, rfl⟩ : ∃ n : Nat, x = n := ⟨x.toNat, by omega⟩
      rw [show ((n : Int)).toNat = n from rfl] at hst
      obtain ⟨s, hse⟩ : ∃ s, setL (e.take k) = s := ⟨_, rfl⟩
      rw [hse] at hs hst ⊢
      have hn64 : n < 64 := by omega
      have hor := or_bit hs hn64
      have HST := Lib.hid hst
      clear hc hxe hse hst hx
      go_wp2
      go_round
      case rel => first | exact ⟨k + 1, by omega, by go_num, by rw [HST.out]⟩ | ((repeat apply Exists.intro); refine ⟨?_, rfl⟩; exact ⟨k + 1, by omega, by go_num, by rw [HST.out]⟩)
      case measure => simp [intOf]; omega
    · obtain rfl : k = e.length := by omega
      rw [List.take_length]
      go_wp2
      go_ret
      exact ⟨rfl, rfl⟩

theorem info_set : (Tryd.prog.info? 58).map (fun i => (i.zero, i.size, i.bytes)) = some (some (.int .u64 0), 1, 8) := by kernel_rfl
/-- The edges as sets. -/
def setsV (ls : List (List Int)) : List Value := ls.map fun e => .int .u64 ((setL e : Nat) : Int)
set_option maxRecDepth 100000 in
set_option maxHeartbeats 2000000 in
theorem sets_any (m : Int) (ev : Value) (ls : List (List Int)) (w : World) (h : SlRK .i64 w ev ls) (hv : VertsOk ls) (hl : ls.length ≤ 1000000) :
    Calls Tryd.prog 37 #[hypV m ev] w fun e w' => ∃ v', e = .returned v' ∧ w'.ownsRow w.heap.size 58 1 v' ls.length (setsV ls) ∧ Below w.heap.size w w' := by
  obtain ⟨i0, hi, hz0, hz1, hz2⟩ := info_parts info_set
  have hb0 := later_alloc w (.cells #[.int .i64 m, ev] 24)
  have H := Lib.hid (And.intro (h.later hb0) (And.intro hv (And.intro hl (box_new w #[.int .i64 m, ev] 24))))
  obtain ⟨ae, ce, rfl, -⟩ := h.open
  have HB := Lib.hid hb0
  clear h hv hl hb0
  go_enter Tryd.func37, Tryd.ntmps37
  go_wp2_with fail
  go_loopw [3, 9] (fun v i wr => ∃ k : Nat, k ≤ ls.length ∧ i = .int .i64 k ∧ wr.ownsRow (w.heap.size + 1) 58 1 v k (setsV (ls.take k)) ∧ Below (w.heap.size + 1) (w.alloc (.cells #[.int .i64 m, .slice ae ls.length ce] 24)) wr) (fun _ i _ => ls.length - (intOf i).toNat)
  case atStart => exact ⟨0, Nat.zero_le _, rfl, World.ownsRow_nil _ _ _ _, Below.refl _ _⟩
  case round =>
    obtain ⟨k, hk, rfl, hown, hb⟩ := hrel
    have hb' : Below (w.alloc (.cells #[.int .i64 m, .slice ae ls.length ce] 24)).heap.size (w.alloc (.cells #[.int .i64 m, .slice ae ls.length ce] 24)) wr := by rw [World.size_alloc]; exact hb
    by_cases hlt : k < ls.length
    · obtain ⟨_, _, e1, _, _, _, g4⟩ := (H.out.1.later hb').open
      obtain ⟨be, oe, e2, hbe, gc⟩ := g4 (by omega)
      obtain ⟨rv, ce1, hrv⟩ := gc k hlt
      injection e1 with e1a e1b e1c
      subst e1a e1c
      subst e2
      have hOf := of_any rv _ wr hrv (H.out.2.1 _ (rowN_mem hlt))
      have HOf := Lib.hid hOf
      have hst : setsV (ls.take (k + 1)) = setsV (ls.take k) ++ [.int .u64 ((setL (rowN ls k) : Nat) : Int)] := by
        unfold setsV
        rw [List.take_succ_eq_append_getElem hlt, List.map_append, rowN_at hlt]
        rfl
      have hlen : (setsV (ls.take k)).length = k := by unfold setsV; rw [List.length_map, List.length_take]; omega
      obtain ⟨ar, cr, rfl, -⟩ := hrv.open
      obtain ⟨s, hs⟩ : ∃ s, setL (rowN ls k) = s := ⟨_, rfl⟩
      rw [hs] at HOf hst
      have hk6 : k ≤ 1000000 := by have := H.out.2.2.1; omega
      have HST := Lib.hid (And.intro hst (And.intro hlt hb))
      obtain ⟨av, cv, rfl⟩ := owns_shape2 hown
      have hsz : w.heap.size + 1 ≤ wr.heap.size := by have := hb.size; rw [World.size_alloc] at this; exact this
      clear gc g4 e1b hrv hOf hs hst hb hb' hbe
      go_wp2_with fail
      refine HOf.out.mono ?_
      rintro e w2 ⟨rfl, rfl⟩
      go_wp2_with (at_builtin; refine wpList_append_own _ rfl (.tmp 13) (.tmp 16) 55 rfl (w.heap.size + 1) 58 i0 _ 1 8 Tryd.underlying55 hi hz0 hz1 hz2 rfl (by decide) _ _ _ rfl (hown.alloc _) ⟨w2.heap.size, 0, none⟩ 1 1 [.int .u64 s] rfl rfl (cells_new _ _ _) (by simp [Value.oneCell']) (by unfold maxLen; omega) (by omega) (by simp; omega) ?_; intro v6 w6 hown6 hgrow6 _; obtain ⟨g6, cap6, rfl⟩ := ownsRow_succ hown6)
      have hB6 : Below (w.heap.size + 1) (w.alloc (.cells #[.int .i64 m, .slice (some ⟨be, oe, none⟩) ls.length ce] 24)) w6 := ((HST.out.2.2.alloc (by omega) _).grown hgrow6 (by simp; omega) (fun k e => owns_above hown k e))
      have HR := Lib.hid (And.intro hown6 hB6)
      clear hown hown6 hgrow6 hB6
      go_roundw
      case rel => first | exact ⟨k + 1, HST.out.2.1, by go_num, by rw [HST.out.1]; exact HR.out.1, HR.out.2⟩ | ((repeat apply Exists.intro); refine ⟨?_, rfl⟩; exact ⟨k + 1, HST.out.2.1, by go_num, by rw [HST.out.1]; exact HR.out.1, HR.out.2⟩)
      case measure => simp [intOf]; have := HST.out.2.1; omega
    · obtain rfl : k = ls.length := by omega
      rw [List.take_length] at hown
      obtain ⟨av, cv, rfl⟩ := owns_shape2 hown
      have HR := Lib.hid (And.intro (owns_down hown (Nat.le_succ _)) (HB.out.trans (hb'.mono (by simp))))
      clear hown hb hb'
      go_wp2_with fail
      go_ret
      exact ⟨_, rfl, HR.out.1, HR.out.2⟩
end Go.Proofs.YtplidcbfbonjlaaDoor
