/-
  leap.Some and the document's Some, walked.
-/
import Derived.Test.YtenhpfhadbafbaaLeMeet
namespace Go.Proofs.Ytenhpfhadbafbaa
open Go.RowKit Go.Shelf
set_option linter.unusedVariables false
attribute [local go_sem] Oper.semAt_some

theorem mem_drop_place {l : List Int} {key n : Int} (h : risesB l = true) : n ∈ l.drop (place l 0 (geB key)) ↔ n ∈ l ∧ geB key n = true := by
  rw [mem_drop_at]
  constructor
  · rintro ⟨p, h1, h2, h3⟩
    rw [getD_at h2] at h3
    refine ⟨by rw [← h3]; exact List.getElem_mem h2, ?_⟩
    have h4 := geB_true (place_at (xs := l) (i := 0) (p := geB key) (by omega))
    have h5 := rises_le h h1 h2
    simp only [geB, decide_eq_true_eq]
    omega
  · rintro ⟨h1, h2⟩
    obtain ⟨p, hp, rfl⟩ := List.getElem_of_mem h1
    refine ⟨p, ?_, hp, getD_at hp⟩
    by_cases e : p < place l 0 (geB key)
    · have := place_not (Nat.zero_le p) hp e
      rw [this] at h2
      cases h2
    · omega
/-- What all rows have from a key on, the first so many. -/
def someOf (xs : List Int) (key mo : Int) : List Int := (xs.filter (geB key)).take mo.toNat
theorem common_some {ls : List (List Int)} {ats : List Nat} {key : Int} (hR : RowsOk ls) (h : ∀ r, r < ls.length → atN ats r = place (rowN ls r) 0 (geB key)) : commonFrom ls ats = (commonAll ls).filter (geB key) := by
  refine rising_ext (common_pw (hR.rise 0 hR.some)) (List.Pairwise.sublist List.filter_sublist (commonAll_pw (hR.rise 0 hR.some))) fun n => ?_
  rw [mem_common hR.some, List.mem_filter, commonAll_mem hR.some]
  constructor
  · intro k
    have k' : ∀ r, r < ls.length → n ∈ rowN ls r ∧ geB key n = true := fun r hr => by
      have := k r hr
      rw [h r hr] at this
      exact (mem_drop_place (hR.rise r hr)).1 this
    exact ⟨fun r hr => (k' r hr).1, (k' 0 hR.some).2⟩
  · rintro ⟨k1, k2⟩ r hr
    rw [h r hr]
    exact (mem_drop_place (hR.rise r hr)).2 ⟨k1 r hr, k2⟩
/-- What Some comes to. -/
def SomePost (ls : List (List Int)) (key mo : Int) (w : World) (e : Ending) (w' : World) : Prop :=
  Below w.heap.size w w' ∧ ((okB ls = false ∧ e = .returned (.tuple #[.slice none 0 0, .int .i64 330])) ∨
    (okB ls = true ∧ mo < 0 ∧ e = .returned (.tuple #[.slice none 0 0, .int .i64 2])) ∨
    (okB ls = true ∧ 0 ≤ mo ∧ ∃ v, e = .returned (.tuple #[v, .int .i64 0]) ∧ w'.ownsRow w.heap.size 40 1 v (someOf (commonAll ls) key mo).length ((someOf (commonAll ls) key mo).map (.int .u64))))

set_option maxRecDepth 100000 in
set_option maxHeartbeats 8000000 in
theorem Some_any (v : Value) (ls : List (List Int)) (key mo : Int) (w : World) (h : SlR w v ls) (hS : ∀ r, r < ls.length → (rowN ls r).length ≤ 1000) (hN : ∀ r, r < ls.length → ∀ n ∈ rowN ls r, 0 ≤ n) (hmo : mo ≤ 9223372036854775807) :
    Calls Try.prog 17 #[v, .int .u64 key, .int .i64 mo] w (SomePost ls key mo w) := by
  obtain ⟨i0, hi, hz0, hz1, hz2⟩ := info_parts info_int
  obtain ⟨j0, hj, jz0, jz1, jz2⟩ := info_parts info_u64
  have H := Lib.hid h
  obtain ⟨a, c, rfl, h1, h2, h3, h4⟩ := h.open
  have HS := Lib.hid hS
  have HN := Lib.hid hN
  clear h h1 h2 h3 h4 hS hN
  have hb0 := later_alloc w (.cells #[.int .i64 mo] 3)
  have hx0 := box_new w #[.int .i64 mo] 3
  by_cases hok : okB ls = true
  · have hk := okB_iff.1 hok
    have hl1 := hk.1
    have hl2 := hk.2.1
    have HR := Lib.hid (rowsOk_of hok HS.out HN.out)
    clear hk
    by_cases hm0 : mo < 0
    · go_enter Try.func17, Try.ntmps17
      go_wp2
      refine wp_scope_straight ?_
      go_wp2_with first
        | (go_at_call 23; refine (Check_any _ _ _ (H.out.later hb0)).mono ?_; rintro e w1 ⟨rfl, n, rfl⟩; rw [if_pos hok])
        | fail
      simp only [Exit.noGoto]
      go_ret2
      exact ⟨later_trans hb0 (later_drewN _ n), .inr (.inl ⟨hok, hm0, rfl⟩)⟩
    obtain ⟨m, rfl⟩ : ∃ m : Nat, mo = m := ⟨mo.toNat, by omega⟩
    refine (callsIn_wide (n := 6)).1 ?_
    refine callsIn_of_wp_marks Try.func17 rfl trivial ?_ rfl
    simp only [Try.ntmps17, List.size_toArray, List.length_cons, List.length_nil, Nat.reduceAdd, Nat.reduceSub, Array.replicate_succ, Array.replicate_zero, List.push_toArray, List.append_toArray, List.nil_append, List.cons_append]
    refine wpIn_wide.2 ?_
    go_wp2
    refine wp_scope_straight ?_
    go_wp2_with first
      | (go_at_call 23; refine (Check_any _ _ _ (H.out.later hb0)).mono ?_; rintro e w1 ⟨rfl, n, hw1⟩; rw [if_pos hok]
         have HW1 : Hid (Below w.heap.size w w1 ∧ w1.heap[w.heap.size]? = some (.cells #[.int .i64 m] 3 (0, 0))) := Lib.hid (by rw [hw1]; exact ⟨later_trans hb0 (later_drewN _ n), hx0⟩)
         have hs1 : w.heap.size < w1.heap.size := lt_of_block HW1.out.2
         have b5 := box_cell (i := 0) HW1.out.2
         simp at b5
         clear hw1)
      | (at_make; refine wpList_make_full _ rfl (.tmp 22) (.tmp 22) 27 rfl w1.heap.size 3 i0 _ 1 Try.underlying27 hi hz0 hz1 .i64 .i64 _ _ ls.length rfl rfl (by omega) (by omega) (by rw [hz2]; omega) (by unfold maxLen; omega) (Nat.le_refl _) ?_; intro w4 hown4 hgrow4
         have hb4 : Below w1.heap.size w1 w4 := (Below.refl _ w1).grown hgrow4 (Nat.le_refl _) (fun k e => (by cases e))
         rw [made_zeros] at hown4
         have hg4 : w1.heap.size < w4.heap.size := (hown4.lt w1.heap.size rfl).2
         have HB4 := Lib.hid (And.intro hb4 hown4)
         clear hb4 hown4 hgrow4)
      | fail
    obtain ⟨hb1, hx1⟩ := HW1.out
    obtain ⟨hb4, hown4⟩ := HB4.out
    obtain ⟨X, hX⟩ : ∃ X, w4.heap.size = X := ⟨_, rfl⟩
    obtain ⟨g, hg⟩ : ∃ g, w1.heap.size = g := ⟨_, rfl⟩
    have hbox4 := box_new w4 #[.slice a ls.length c, .slice (some ⟨w1.heap.size, 0, none⟩) ls.length ls.length, .int .i64 0] 59
    have hL0 : Lp w1 (w4.alloc (.cells #[.slice a ls.length c, .slice (some ⟨w1.heap.size, 0, none⟩) ls.length ls.length, .int .i64 0] 59)) w4.heap.size w1.heap.size ls.length (.slice a ls.length c) ls (List.replicate ls.length 0) 0 :=
      ⟨H.out.later hb1, later_trans hb4 (later_alloc _ _), hbox4, owns_later hown4 (later_alloc _ _), by omega⟩
    have hz : ∀ r, atN (List.replicate ls.length 0) r = 0 := fun r => by
      unfold atN
      by_cases h : r < ls.length
      · simp [List.getD, h]
      · simp [List.getD, h]
    have HL0 := Lib.hid (And.intro hL0 hz)
    rw [hX, hg] at HL0 ⊢
    have hs4 : g < X := by omega
    clear hL0 hz hbox4 hb4 hown4
    go_loopw [28] (fun k wr => ∃ (i N : Nat) (ats : List Nat), i ≤ ls.length ∧ k = .int .i64 i ∧ Lp w1 wr X g ls.length (.slice a ls.length c) ls ats (0 + N) ∧ N ≤ 126 * i ∧ (∀ r, r < i → atN ats r = place (rowN ls r) 0 (geB key)) ∧ (∀ r, i ≤ r → atN ats r = 0) ∧ X < wr.heap.size) (fun k _ => ls.length - (intOf k).toNat)
    case atStart => exact ⟨0, 0, List.replicate ls.length 0, Nat.zero_le _, rfl, by simpa using HL0.out.1, by omega, fun r h => by omega, fun r h => HL0.out.2 r, by simp; omega⟩
    case round =>
      obtain ⟨i, N, ats, hi', rfl, hL, hN, hlo, hhi, hsw⟩ := hrel
      by_cases hlt : i < ls.length
      · have hat : atN ats i ≤ (rowN ls i).length := by rw [hhi i (Nat.le_refl _)]; omega
        have HP := Lib.hid (leap_any (key := key) hL HR.out hlt hat (by omega) (by omega))
        have HQ := Lib.hid (And.intro hL (And.intro hlo hhi))
        have hsr := HR.out.short i hlt
        clear hL hlo hhi hat
        go_wp2_with (go_at_call 38; refine HP.out.mono ?_; rintro e w5 ⟨n5, rfl, hn5, hL5, hW5⟩; have hz5 := hW5.size; have H5 := Lib.hid (And.intro hL5 hW5); clear hL5 hW5)
        have hlg := lg_le (1 + (rowN ls i).length : Int) (by omega)
        have hset := fun r' => atN_set (ats := ats) (r := i) (p := place (rowN ls i) (atN ats i) (geB key)) (by rw [HQ.out.1.n]; exact hlt) r'
        go_roundw
        case rel =>
          refine ⟨i + 1, N + n5, _, by omega, by go_num, by rw [show (0 : Int) + ((N + n5 : Nat) : Int) = 0 + (N : Int) + n5 from by omega]; exact H5.out.1, by omega, fun r hr => ?_, fun r hr => ?_, by omega⟩
          · rw [hset]
            by_cases e : i = r
            · subst e; rw [if_pos rfl, HQ.out.2.2 i (Nat.le_refl _)]
            · rw [if_neg e]; exact HQ.out.2.1 r (by omega)
          · rw [hset, if_neg (by omega)]
            exact HQ.out.2.2 r (by omega)
        case measure => simp [intOf]; omega
      · obtain rfl : i = ls.length := by omega
        go_wp2_with fail
        apply wp_label
        go_wp2_with (go_at_call 37; refine (keysF_any _ _).mono ?_; rintro e w5 ⟨rfl, hw5⟩)
        refine (wpIn_wide (n := 6)).1 ?_
        rw [← hw5]
        obtain ⟨T, hT⟩ : ∃ T, wr.heap.size = T := ⟨_, rfl⟩
        have hT5 : w5.heap[T]? = some (.cells #[.slice none 0 0] 32 (0, 0)) := by
          rw [hw5, ← hT]
          exact box_alloc (box_new wr _ _) _
        have hK5 : w5.heap[T + 1]? = some (.cells #[.pointer (some ⟨X, 0, none⟩)] 56 (0, 0)) := by
          rw [hw5, ← hT]
          have := box_new (wr.alloc (.cells #[.slice none 0 0] 32)) #[.pointer (some ⟨X, 0, none⟩)] 56
          simpa using this
        have hb5 : Below wr.heap.size wr w5 := by rw [hw5]; exact later_trans (later_alloc wr _) (later_alloc _ _)
        have hs5 : w5.heap.size = T + 2 := by rw [hw5, ← hT]; simp
        have hL5 := hL.later hb5
        have hx5 := (hL5.bel.block _ hs1).trans hx1
        have hmx := maxTo_le HS.out (by omega) ls.length (Nat.le_refl _)
        have hmr : ∀ r, r < ls.length → (rowN ls r).length ≤ maxTo ls ls.length := fun r hr => maxTo_ge ls _ r hr
        have hz : ∀ r, r < ls.length → atN ats r ≤ (rowN ls r).length := fun r hr => by rw [hlo r hr]; exact place_le (Nat.zero_le _)
        have hks := keys_stops 5 (by omega) hL5 HR.out hmr hmx hz (by omega) (by omega) hK5 (by omega) (by omega) (by omega)
        have hcs := Lib.hid (common_some HR.out hlo)
        have hbw := later_trans hb1 hL5.bel
        have hb15 := hL5.bel
        rw [hT]
        have HX5 := Lib.hid (And.intro hx5 (And.intro hb15 hbw))
        have hgX : g < T ∧ X < T := ⟨by omega, by omega⟩
        have hs0 := HR.out.short 0 HR.out.some
        clear hw5 hmr hz hx1 hx5 hL hL5 hlo hhi
        refine wpIn_range_stops (by omega) (gf := 49) (lb := #[.pointer (some ⟨T + 1, 0, none⟩)]) rfl (enters_of Try.func49 (by kernel_rfl) rfl)
          hks (fun r h => by omega) (fun h k => KK.trans h k)
          (fun V l o o' hl ho hc hw' => ⟨belowK_b (w := w1) (Nat.le_refl _) V l o o' (by omega) ho hc hw', fun o2 h2 => by rw [World.putObj_heap_other (by omega)]; exact h2, fun o2 h2 => by rw [World.putObj_heap_other (by omega)]; exact h2, fun o2 h2 => by rw [World.putObj_heap_other (by omega)]; exact h2⟩)
          (Below.refl _ _) (fun _ => rfl) (fun pre V => MeI w1 T w5.heap.size pre V ∧ pre.length ≤ m) (fun c' pre V => c' = .exit 2 ∧ MeI w1 T w5.heap.size (pre.take m) V ∧ m < pre.length)
          (fun pre A B' row h hg' hr => ⟨meI_kept (by omega) pre A B' row h.1 hg' hr, h.2⟩) (fun c' pre A B' row h hg' hr => ⟨h.1, meI_kept (by omega) _ A B' row h.2.1 hg' hr, h.2.2⟩) (keysZ_kept (by omega))
          (fun s A B hI hW => ⟨meI_state hI.1 hW (by omega) (by omega) (by omega) (by omega) (by omega) (by omega), hI.2⟩)
          ⟨⟨_, hT5, World.ownsRow_nil _ _ _ _, Nat.le_refl _, HX5.out.2.1⟩, Nat.zero_le _⟩
          (fun x a' V => a' = { tmps := #[.slice a ls.length c, .int .u64 key, .int .i64 m, undef, undef, .pointer (some ⟨w.heap.size, 0, none⟩), .slice none 0 0, .int .i64 0, .int .i64 0, .pointer (some ⟨X, 0, none⟩), u10, .pointer (some ⟨T, 0, none⟩), .int .u64 x, .slice a ls.length c, .int .i64 0, .int .i64 0, .bool false, undef, .int .i64 m, .bool (decide ((m : Int) < 0)), .slice a ls.length c, .slice a ls.length c, .int .i64 ls.length, .slice (some ⟨g, 0, none⟩) ls.length ls.length, .agg #[.slice a ls.length c, .slice (some ⟨g, 0, none⟩) ls.length ls.length, .int .i64 0], .pointer (some ⟨X, 0, none⟩), .slice a ls.length c, .int .i64 ls.length, .int .i64 ls.length, .bool false, u30, u31, u32, u33, u34, u35, .pointer (some ⟨X, 0, none⟩), .func (.func 49) #[] #[.pointer (some ⟨T + 1, 0, none⟩)], .int .u64 x, undef, undef, undef, undef, undef, undef, undef, undef, undef], defers := [] })
          (fun x a' => fun _ A B' row h hg hr => h) ?assign ?body ?done ?stop
        case assign =>
          intro l pre x V KQ hI hK
          simp only [encK]
          gi_wp2
          obtain ⟨⟨v', g1, g2, g3, g4⟩, g5⟩ := hI
          have := g4.size
          exact hK _ _ (keeps_later (later_refl V) _) (KK.later (later_refl V) (by omega)) ⟨⟨v', g1, g2, g3, g4⟩, g5⟩ rfl
        case body =>
          rintro l pre x a' V hl ⟨⟨v, h1, h2, h3, h4⟩, h5⟩ rfl hpl
          obtain ⟨av, cv, rfl⟩ := owns_shape2 h2
          have t0 := box_cell (i := 0) h1
          have f0 := box_frozen (i := 0) h1
          simp at t0
          have hTV := lt_of_block h1
          have bm := box_cell (i := 0) ((h4.block _ hs1).trans HW1.out.2)
          simp at bm
          dsimp only
          by_cases hpm : pre.length = m
          · have hd1 : decide ((pre.length : Int) = (m : Int)) = true := decide_eq_true (by omega)
            have hd2 : decide (pre.length = m) = true := decide_eq_true hpm
            rw [hpm] at t0
            have hI : MeI w1 T w5.heap.size ((pre ++ [x]).take m) V := by
              rw [List.take_append_of_le_length (by omega), List.take_of_length_le (by omega)]
              exact ⟨_, h1, h2, h3, h4⟩
            gi_wp2
            all_goals exact ⟨keeps_later (later_refl V) _, rfl, hI, by simp; omega⟩
          · have hd1 : decide ((pre.length : Int) = (m : Int)) = false := decide_eq_false (by omega)
            have hd2 : decide (pre.length = m) = false := decide_eq_false hpm
            gi_wp2_with (first
              | (gi_at_builtin; refine wpListIn_append_own _ rfl (.tmp 43) (.tmp 45) 32 rfl w5.heap.size 40 j0 _ 1 8 Try.underlying32 hj jz0 jz1 jz2 rfl (by decide) _ _ _ rfl (h2.alloc _) ⟨V.heap.size, 0, none⟩ 1 1 [.int .u64 x] rfl rfl (cells_new _ _ _) (by simp [Value.oneCell']) (by unfold maxLen; omega) (by omega) (by simp; omega) ?_; intro v6 w6 hown6 hgrow6 _; obtain ⟨g6, cap6, rfl⟩ := ownsRow_succ hown6; have hT6 := box_grown (h2.alloc _) hgrow6 (box_alloc h1 _) (by decide); have t6 := box_cell (i := 0) hT6; have f6 := box_frozen (i := 0) hT6; simp at t6))
            have hk := later_alloc V (.cells #[.int .u64 x] 40)
            have otherB : ∀ (b' : Nat) (o : Obj), b' < w5.heap.size → b' ≠ T → V.heap[b']? = some o → (w6.setCell ⟨T, 0, none⟩ (.slice (some ⟨g6, 0, none⟩) (pre.length + 1) cap6)).heap[b']? = some o := by
              intro b' o e1 e2 hb'
              refine (heap_setCell_other _ ⟨T, 0, none⟩ b' _ e2).trans ?_
              refine (hgrow6.block b' (by simp; omega) ?_).trans ((hk.block b' (by omega)).trans hb')
              intro e
              have := owns_above (h2.alloc (.cells #[.int .u64 x] 40)) b' e.symm
              omega
            refine ⟨?_, ⟨?_, fun o e => otherB _ o (by omega) (by omega) e, fun o e => otherB _ o (by omega) (by omega) e, fun o e => otherB _ o (by omega) (by omega) e⟩, ⟨⟨_, box_set hT6 _, ?_, ?_, ?_⟩, by simp; omega⟩⟩
            · have k1 : KeepsOthers V _ := ((KeepsOthers.alloc V _).trans (KeepsOthers.of_grownBy hgrow6 (own_isCells (h2.alloc _)))).trans (KeepsOthers.setCell _ ⟨T, 0, none⟩ (.slice (some ⟨g6, 0, none⟩) (pre.length + 1) cap6))
              exact k1.from _
            · exact ((hk.mono (by omega)).grown hgrow6 (by simp; omega) (fun k e => Nat.le_trans (by omega) (owns_above h2 k e))).setCell (show w1.heap.size ≤ T by omega) _
            · have h9 := own_set (i := 0) hown6 hT6 (by decide) (.slice (some ⟨g6, 0, none⟩) (pre.length + 1) cap6)
              simpa using h9
            · exact Nat.le_trans h3 (Nat.le_trans hk.size (Nat.le_trans hgrow6.size (by simp)))
            · exact ((later_trans h4 hk).grown hgrow6 (by simp; omega) (fun k e => Nat.le_trans (by omega) (owns_above h2 k e))).setCell (show w1.heap.size ≤ T by omega) _
        case done =>
          rintro D ys V hD rfl hI - hdef
          obtain ⟨⟨v9, g1, g2, g3', g4⟩, g5⟩ := id hI
          obtain ⟨av, cv, rfl⟩ := owns_shape2 g2
          have t0 := box_cell (i := 0) g1
          simp at t0
          refine ‹∀ (a : Act) (w_1 : World), _ → _› _ _ ?_
          go_wp2
          have hdefS : V.heap[D]? = some (.deferred (some [])) := hdef
          simp only [Exit.noGoto]
          have h14 := later_trans hb1 g4
          refine ⟨by simp, .inl ⟨_, _, rfl, run_takeDeferred hdef, ?_⟩⟩
          refine ⟨_, results_tmp2 rfl _ _ _, h14.trans (belowK_b (w := w) (Nat.le_refl _) _ D _ _ (by omega) hdef rfl rfl), .inr (.inr ⟨hok, by omega, _, rfl, ?_⟩)⟩
          have g9 := owns_down (ownsRow_kept (B := w5.heap.size) g2 (grownBy_putObj' V D (.deferred none)) (fun r e => by cases e; exact ⟨hD, _, hdef, rfl⟩)) (show w.heap.size ≤ w5.heap.size by omega)
          have e : someOf (commonAll ls) key m = commonFrom ls ats := by
            unfold someOf
            rw [← hcs.out, Int.toNat_natCast, List.take_of_length_le g5]
          rw [e]
          exact g9
        case stop =>
          rintro D c' pre V hD hpre ⟨rfl, hI, hlt⟩ hdef
          obtain ⟨ys, hys⟩ : ∃ ys, pre.take m = ys := ⟨_, rfl⟩
          rw [hys] at hI
          have HYS := Lib.hid hys
          clear hys
          obtain ⟨v9, g1, g2, g3', g4⟩ := id hI
          obtain ⟨av, cv, rfl⟩ := owns_shape2 g2
          have t0 := box_cell (i := 0) g1
          simp at t0
          gi_wp2
          go_wp2
          have hdefS : V.heap[D]? = some (.deferred (some [])) := hdef
          simp only [Exit.noGoto]
          have h14 := later_trans hb1 g4
          refine ⟨by simp, .inl ⟨_, _, rfl, run_takeDeferred hdef, ?_⟩⟩
          refine ⟨_, results_tmp2 rfl _ _ _, h14.trans (belowK_b (w := w) (Nat.le_refl _) _ D _ _ (by omega) hdef rfl rfl), .inr (.inr ⟨hok, by omega, _, rfl, ?_⟩)⟩
          have g9 := owns_down (ownsRow_kept (B := w5.heap.size) g2 (grownBy_putObj' V D (.deferred none)) (fun r e => by cases e; exact ⟨hD, _, hdef, rfl⟩)) (show w.heap.size ≤ w5.heap.size by omega)
          have e : someOf (commonAll ls) key m = ys := by
            rw [← HYS.out]
            unfold someOf
            rw [← hcs.out, Int.toNat_natCast]
            obtain ⟨r, hr⟩ := hpre
            rw [← hr, List.take_append_of_le_length (by omega)]
          rw [e]
          exact g9
  · go_enter Try.func17, Try.ntmps17
    go_wp2
    refine wp_scope_straight ?_
    go_wp2_with first
      | (go_at_call 23; refine (Check_any _ _ _ (H.out.later hb0)).mono ?_; rintro e w1 ⟨rfl, n, rfl⟩; rw [if_neg hok])
      | fail
    simp only [Exit.noGoto]
    go_ret2
    exact ⟨later_trans hb0 (later_drewN _ n), .inl ⟨Bool.eq_false_iff.2 hok, rfl⟩⟩

set_option maxRecDepth 100000 in
set_option maxHeartbeats 2000000 in
theorem refSome_any (v : Value) (xs : List Int) (key mo : Int) (w : World) (h : SlI .u64 w v xs) (hl : xs.length ≤ 1099511627776) :
    Calls Try.prog 25 #[v, .int .u64 key, .int .i64 mo] w fun e w' => ∃ v', e = .returned v' ∧ w'.ownsRow w.heap.size 40 1 v' (someOf xs key mo).length ((someOf xs key mo).map (.int .u64)) ∧ Below w.heap.size w w' := by
  obtain ⟨i0, hi, hz0, hz1, hz2⟩ := info_parts info_u64
  obtain ⟨a, c, rfl, h1, h2, h3, h4⟩ := h.open
  have HX := Lib.hid h4
  have hm : xs.length ≤ 9223372036854775807 := by omega
  clear h h1 h2 h3 h4
  go_enter Try.func25, Try.ntmps25
  go_wp2_with fail
  go_loopw [7, 12] (fun out k wr => ∃ i : Nat, i ≤ xs.length ∧ k = .int .i64 i ∧ wr.ownsRow w.heap.size 40 1 out (someOf (xs.take i) key mo).length ((someOf (xs.take i) key mo).map (.int .u64)) ∧ Below w.heap.size w wr) (fun _ k _ => xs.length - (intOf k).toNat)
  case atStart => exact ⟨0, Nat.zero_le _, rfl, by simpa [someOf] using World.ownsRow_nil w w.heap.size 40 1, later_refl w⟩
  case round =>
    obtain ⟨i, hi', rfl, hown, hb⟩ := hrel
    obtain ⟨ao, co, rfl⟩ := owns_shape2 hown
    by_cases hlt : i < xs.length
    · obtain ⟨b1, o1, rfl, hb1w, hc1⟩ := HX.out (by omega)
      have hx := hc1 i hlt
      have hx := ((bcell hb).1 b1 (o1 + i) hb1w).trans hx
      have hst : xs.take (i + 1) = xs.take i ++ [xs[i]] := List.take_succ_eq_append_getElem hlt
      obtain ⟨n, hn⟩ : ∃ n, xs[i] = n := ⟨_, rfl⟩
      rw [hn] at hx hst
      have HST := Lib.hid hst
      have HO := Lib.hid hown
      have HB := Lib.hid hb
      have hml : (someOf (xs.take i) key mo).length ≤ 1099511627776 := Nat.le_trans (List.length_take_le' _ _) (Nat.le_trans (List.length_filter_le _ _) (by rw [List.length_take]; omega))
      obtain ⟨q, hq⟩ : ∃ q, (someOf (xs.take i) key mo).length = q := ⟨_, rfl⟩
      rw [hq] at hml
      have HQ := Lib.hid hq
      rw [hq]
      clear hst hn hown hb hc1 hq
      by_cases hyes : key ≤ n ∧ (q : Int) < mo
      · obtain ⟨y1, y2⟩ := hyes
        have HF : Hid (someOf (xs.take (i + 1)) key mo = someOf (xs.take i) key mo ++ [n]) := Lib.hid (by
          have hq := HQ.out
          unfold someOf at hq ⊢
          rw [List.length_take] at hq
          rw [HST.out, List.filter_append, List.filter_cons, if_pos (by simp [geB]; omega), List.filter_nil, List.take_append, List.take_of_length_le (l := [n]) (by simp; omega)])
        have hown := HO.out
        have hb := HB.out
        have hsz := hb.size
        rw [HQ.out] at hown
        go_wp2_with (at_builtin; refine wpList_append_own _ rfl (.tmp 25) (.tmp 27) 32 rfl w.heap.size 40 i0 _ 1 8 Try.underlying32 hi hz0 hz1 hz2 rfl (by decide) _ _ _ rfl (hown.alloc _) ⟨wr.heap.size, 0, none⟩ 1 1 [.int .u64 n] rfl rfl (cells_new _ _ _) (by simp [Value.oneCell']) (by unfold maxLen; omega) (by omega) (by simp; omega) ?_; intro v6 w6 hown6 hgrow6 _; obtain ⟨g6, cap6, rfl⟩ := ownsRow_succ hown6)
        go_roundw
        case rel =>
          refine ⟨i + 1, by omega, by go_num, ?_, (later_trans hb (later_alloc _ _)).grown hgrow6 (by simp; have := hb.size; omega) (owns_above hown)⟩
          rw [HF.out]
          simpa [HQ.out] using hown6
        case measure => simp [intOf]; omega
      · have HF : Hid (someOf (xs.take (i + 1)) key mo = someOf (xs.take i) key mo) := Lib.hid (by
          have hq := HQ.out
          unfold someOf at hq ⊢
          rw [List.length_take] at hq
          rw [HST.out, List.filter_append, List.filter_cons]
          by_cases hg : geB key n = true
          · rw [if_pos hg, List.filter_nil, List.take_append_of_le_length]
            have := geB_true hg
            omega
          · rw [if_neg hg, List.filter_nil, List.append_nil])
        by_cases y1 : key ≤ n
        · have y2 : ¬ (q : Int) < mo := fun e => hyes ⟨y1, e⟩
          have hown := HO.out
          have hb := HB.out
          go_wp2
          go_roundw
          case rel =>
            refine ⟨i + 1, by omega, by go_num, ?_, hb⟩
            rw [HF.out]
            simpa [HQ.out] using hown
          case measure => simp [intOf]; omega
        · have hown := HO.out
          have hb := HB.out
          go_wp2
          go_roundw
          case rel =>
            refine ⟨i + 1, by omega, by go_num, ?_, hb⟩
            rw [HF.out]
            simpa [HQ.out] using hown
          case measure => simp [intOf]; omega
    · obtain rfl : i = xs.length := by omega
      have e : xs.take xs.length = xs := List.take_of_length_le (Nat.le_refl _)
      rw [e] at hown ⊢
      go_wp2_with fail
      go_ret
      exact ⟨_, rfl, hown, hb⟩
end Go.Proofs.Ytenhpfhadbafbaa
