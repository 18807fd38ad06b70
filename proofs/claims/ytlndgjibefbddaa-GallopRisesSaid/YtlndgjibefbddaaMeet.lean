/-
  The law's own few; gallop.Meet and colanderref04.Meet, walked.
-/
import Derived.Test.YtlndgjibefbddaaRows
import Derived.WalkKit
import Derived.WalkSpells
import Derived.WalkLawsBesides
import Derived.Deep.QuietTactic
import Derived.BigQuiet
import Derived.Outline
import Derived.Laws.CopyOwn
import Derived.RangeFuncBox
import Derived.Test.YtlndgjibefbddaaPlain
import Derived.Test.YtlndgjibefbddaaPlain2
import Derived.Test.YtlndgjibefbddaaBase
import Derived.Test.YtlndgjibefbddaaLib
import Derived.Test.YtlndgjibefbddaaGal
import Derived.Test.YtlndgjibefbddaaGal2
import Derived.Test.YtlndgjibefbddaaRef04
namespace Go.Proofs.Ytlndgjibefbddaa
open Go.RowKit Go.Shelf
set_option linter.unusedVariables false

/-- The first m elements, read. -/
theorem SlI.cut {k : IntKind} {w : World} {a : Option Addr} {n c : Nat} {xs : List Int} (h : SlI k w (.slice a n c) xs) {m : Nat} (hm : m ≤ xs.length) : SlI k w (.slice a m c) (xs.take m) := by
  obtain ⟨⟨a', c', e, h1, h2, h3, h4⟩, hw⟩ := h
  cases e
  simp only [List.length_map] at h1
  refine ⟨⟨a, c, by simp [hm], by simp; omega, h2, h3, fun hne => ?_⟩, fun x hx => hw x (List.mem_of_mem_take hx)⟩
  obtain ⟨b, o, rfl, hlt, hc⟩ := h4 (by intro e; apply hne; simp at e; subst e; simp)
  refine ⟨b, o, rfl, hlt, fun i u hi => hc i u ?_⟩
  simp only [List.map_take, List.getElem?_take] at hi
  split at hi
  · exact hi
  · cases hi

set_option maxHeartbeats 400000 in
/-- few: the first 200, in memory of the call's own. -/
theorem few_any (v : Value) (xs : List Int) (w : World) (h : SlI .u64 w v xs) :
    Calls Try.prog 13 #[v] w fun e w' => ∃ v', e = .returned v' ∧ w'.ownsRow w.heap.size 34 1 v' (xs.take 200).length ((xs.take 200).map (Value.int .u64)) ∧ Below w.heap.size w w' := by
  obtain ⟨a, c, rfl, h1, h2, h3, h4⟩ := h.open
  by_cases hl : xs.length ≤ 200
  · have hc := clone_any _ xs w h (by omega)
    rw [List.take_of_length_le hl]
    have HC := Lib.hid hc
    clear h h3 h4 hc
    go_enter Try.func13, Try.ntmps13
    go_wp2_with fail
    refine HC.out.mono ?_
    rintro e w' ⟨v', rfl, hown, hb⟩
    go_wp2_with fail
    go_ret
    exact ⟨_, rfl, hown, hb⟩
  · have hc := clone_any _ _ w (h.cut (show 200 ≤ xs.length by omega)) (by simp; omega)
    have HC := Lib.hid hc
    clear h h3 h4 hc
    go_enter Try.func13, Try.ntmps13
    go_wp2_with fail
    refine HC.out.mono ?_
    rintro e w' ⟨v', rfl, hown, hb⟩
    go_wp2_with fail
    go_ret
    exact ⟨_, rfl, hown, hb⟩

theorem owns_later {w w' : World} {base : Nat} {e : TypeId} {size : Nat} {v : Value} {n : Nat} {xs : List Value} (h : w.ownsRow base e size v n xs) (hb : Below w.heap.size w w') : w'.ownsRow base e size v n xs := by
  obtain ⟨h1, h2⟩ := h
  refine ⟨h1, ?_⟩
  rcases h2 with h2 | ⟨g, cap, cur, hv, hg, hh, r⟩
  · exact .inl h2
  · exact .inr ⟨g, cap, cur, hv, hg, by rw [hb.block g (lt_of_block hh)]; exact hh, r⟩

/-- What gallop.Meet hands back, both rows rising, A the shorter one. -/
def MeetEnd (A B : List Int) (w : World) (e : Ending) (w' : World) : Prop :=
  ∃ (v' : Value) (all : Nat), e = .returned (.tuple #[v', .int .i64 all]) ∧ w'.ownsRow w.heap.size 34 1 v' (meetL A B).length ((meetL A B).map (Value.int .u64)) ∧ all ≤ A.length * (8 + 8 * lg (1 + (B.length : Int))) ∧ Below w.heap.size w w'

/-- What the loop of gallop.Meet keeps. -/
def MeetI (w : World) (A B : List Int) (k p s : Nat) (out : Value) (wr : World) : Prop :=
  wr.ownsRow w.heap.size 34 1 out (meetL (A.take k) B).length ((meetL (A.take k) B).map (Value.int .u64)) ∧ p ≤ B.length ∧ AheadOf A B k p ∧ s ≤ k * (8 + 8 * lg (1 + (B.length : Int))) ∧ Below w.heap.size w wr
theorem looks_bound {k n s L : Nat} (hk : k ≤ n) (hn : n ≤ 1099511627776) (hs : s ≤ k * (8 + 8 * L)) (hL : L ≤ 62) : s ≤ 562949953421312 * 2 := by
  have h1 : k * (8 + 8 * L) ≤ 1099511627776 * 504 := Nat.mul_le_mul (by omega) (by omega)
  omega

theorem owns_drewN {w : World} {base : Nat} {e : TypeId} {size : Nat} {v : Value} {n : Nat} {xs : List Value} (h : w.ownsRow base e size v n xs) (m : Nat) : (w.drewN m).ownsRow base e size v n xs := h
theorem owns_above {w : World} {base : Nat} {e : TypeId} {size : Nat} {v : Value} {n : Nat} {xs : List Value} (h : w.ownsRow base e size v n xs) : ∀ k, v.ownBlock = some k → base ≤ k := fun k hk => (h.lt k hk).1
theorem looks_step {k s looks L : Nat} (hs : s ≤ k * (8 + 8 * L)) (hl : looks ≤ 2 + 2 * L) : s + looks + 1 ≤ (k + 1) * (8 + 8 * L) := by
  rw [Nat.add_mul]; omega
theorem info1_u64 : (Try.prog.info? 34).map (·.size) = some 1 := by kernel_rfl
theorem owns_shape {w : World} {base : Nat} {e : TypeId} {size : Nat} {v : Value} {n : Nat} {xs : List Value} (h : w.ownsRow base e size v n xs) : ∃ a m c, v = .slice a m c ∧ Hid (m = n) := by
  rcases h.2 with ⟨rfl, rfl⟩ | ⟨g, cap, cur, rfl, _⟩
  · exact ⟨_, _, _, rfl, Lib.hid rfl⟩
  · exact ⟨_, _, _, rfl, Lib.hid rfl⟩
theorem owns_block {w : World} {base : Nat} {e : TypeId} {g n : Nat} {xs : List Value} (h : w.ownsRow base e 1 (.slice (some ⟨g, 0, none⟩) n n) n xs) : w.heap[g]? = some (.cells xs.toArray e (0, 0)) := by
  rcases h.2 with ⟨h', _⟩ | ⟨g', cap, cur, hv, _, hh, _, _, h3, h4⟩
  · cases h'
  · cases hv
    rw [hh]
    have : xs.toArray = cur := by
      rw [← h4, List.take_of_length_le (by simp; omega)]
    rw [this]
theorem owns_not_none (a : Option Addr) (n c : Nat) : (Value.slice a n c).ownBlock = Option.none ∨ (Value.slice a n c).ownBlock ≠ Option.none := by
  by_cases h : (Value.slice a n c).ownBlock = Option.none
  · exact .inl h
  · exact .inr h
theorem copy_len {M : List Int} {m : Nat} (h : m = M.length) : (M.map (Value.int .u64)).length = Nat.min m m := by subst h; simp
theorem copy_fits {M : List Int} {m : Nat} (h : m = M.length) : 0 + (M.map (Value.int .u64)).length ≤ (madeCells (Value.int .u64 0).cells (m * 1)).toList.length := by subst h; simp [madeCells, Value.cells]
theorem copy_src {W : World} {a : Option Addr} {n c g : Nat} {cs : List Value} (h : SlC W (.slice a n c) cs) : 0 < cs.length → some (⟨g, 0, none⟩ : Addr) = some ⟨g, 0, none⟩ ∧ ∃ ad, a = some ad ∧ ∀ j v, cs[j]? = some v → W.cell? (ad.add j) = some v := by
  intro h0
  refine ⟨rfl, ?_⟩
  cases a with
  | none => obtain ⟨_, _, e, _, _, _, h4⟩ := h; obtain ⟨b, o, e2, _⟩ := h4 (by intro h1; simp [h1] at h0); cases e; cases e2
  | some ad => exact ⟨ad, rfl, h.cells⟩
theorem copy_owns {W : World} {base g n m : Nat} {e : TypeId} {Z cs : List Value} (h : W.heap[g]? = some (.cells (splice Z 0 cs).toArray e (0, 0))) (hg : base ≤ g) (hn : n ≤ maxLen) (hm : m = n) (hcs : cs.length = n := by simp) (hZ : Z.length = m := by simp [madeCells, Value.cells]) :
    W.ownsRow base e 1 (.slice (some ⟨g, 0, none⟩) m m) n cs := by
  subst hm
  have e1 : splice Z 0 cs = cs := by simp [splice]; omega
  rw [e1] at h
  exact ⟨by omega, .inr ⟨g, _, cs.toArray, rfl, hg, h, Nat.le_refl _, hn, by simpa using hcs, List.take_of_length_le (by simp; omega)⟩⟩
theorem ret_two {v : Value} {k : IntKind} {a b : Int} (h : a = b) : Ending.returned (.tuple #[v, .int k a]) = .returned (.tuple #[v, .int k b]) := by rw [h]

set_option maxHeartbeats 2000000 in
theorem meet_short (u v : Value) (xs ys : List Int) (w : World) (hx : SlI .u64 w u xs) (hy : SlI .u64 w v ys) (hlx : xs.length ≤ 1099511627776) (hly : ys.length ≤ 1099511627776) (rx : risesB xs = true) (ry : risesB ys = true) (hle : xs.length ≤ ys.length) :
    Calls Try.prog 15 #[u, v] w (MeetEnd xs ys w) := by
  have hr1 := fun W hW => rises_any u xs W (hx.later hW)
  have hr2 := fun W hW => rises_any v ys W (hy.later hW)
  rw [rx] at hr1
  rw [ry] at hr2
  obtain ⟨i0, hi, hz0, hz1, hz2⟩ := info_parts info_u64
  obtain ⟨a, c, rfl, h1, h2, h3, h4⟩ := hx.open
  obtain ⟨a', c', rfl, g1, g2, g3, g4⟩ := hy.open
  have HX := Lib.hid h4
  have HY := Lib.hid g4
  have HR1 := Lib.hid hr1
  have HR2 := Lib.hid hr2
  have RX := Lib.hid rx
  have RY := Lib.hid ry
  clear h1 h2 h3 h4 g1 g2 g3 g4 hr1 hr2 rx ry
  have hdec : decide (ys.length < xs.length) = false := by simp; omega
  go_enter Try.func15, Try.ntmps15
  go_wp2_with fail
  refine (HR1.out w (later_refl w)).mono ?_
  rintro e w1 ⟨rfl, n, rfl⟩
  go_wp2_with fail
  refine (HR2.out _ (later_drewN w n)).mono ?_
  rintro e w1 ⟨rfl, n', rfl⟩
  go_wp2_with fail
  go_loopw [6, 7, 8, 31] (fun out at_ all i wr => ∃ (k p s : Nat), k ≤ xs.length ∧ i = .int .i64 k ∧ at_ = .int .i64 p ∧ all = .int .i64 s ∧ MeetI w xs ys k p s out wr) (fun _ _ _ i _ => xs.length - (intOf i).toNat)
  case atStart => exact ⟨0, 0, 0, Nat.zero_le _, rfl, rfl, rfl, World.ownsRow_nil _ _ _ _, Nat.zero_le _, ahead_zero _ _ _, by simp, later_drewN w _⟩
  case round =>
    obtain ⟨k, p, s, hk, rfl, rfl, rfl, hown, hpl, hah, hs, hb⟩ := hrel
    obtain ⟨ao, mo, co, rfl, HMO⟩ := owns_shape hown
    have hsb := looks_bound hk hlx hs (lg_le (1 + (ys.length : Int)) (by omega))
    by_cases hlt : k < xs.length
    · obtain ⟨b, o, rfl, hbw, hc⟩ := HX.out (by omega)
      have hck := ((bcell hb).1 b (o + k) hbw).trans (hc k hlt)
      clear hc
      obtain ⟨w1, hw1⟩ : ∃ w1, wr.alloc (.cells #[.int .u64 xs[k]] 34) = w1 := ⟨_, rfl⟩
      have hb1 : Below wr.heap.size wr w1 := by rw [← hw1]; exact later_alloc wr _
      have hsz1 : w1.heap.size = wr.heap.size + 1 := by rw [← hw1]; simp
      have hkey : w1.cell? ⟨wr.heap.size, 0, none⟩ = some (.int .u64 xs[k]) := by rw [← hw1]; simp
      have hS := seek_any _ ys p 34 wr.heap.size (geB xs[k]) w1 (hy.later (later_trans hb hb1)) hpl hly (meet1_enough xs[k] wr.heap.size w1 hkey (by omega)) (rises_climbs RY.out (geB_mono xs[k]))
      have HS := Lib.hid hS
      clear hS
      go_wp2_with fail
      refine HS.out.mono ?_
      intro e w2 hE
      obtain ⟨looks, he, hf, hb2⟩ := seekEnd_place hE
      obtain ⟨p', hp'⟩ : ∃ p', place ys p (geB xs[k]) = p' := ⟨_, rfl⟩
      have hp'l : p' ≤ ys.length := by rw [← hp']; exact place_le hpl
      obtain ⟨hless, hah'⟩ := ahead_step hah hlt RX.out hp'.symm
      have hlk : looks ≤ 2 + 2 * lg (1 + (ys.length : Int)) := by rw [hp'] at hf; exact few_looks hf hpl hp'l
      have hlg := lg_le (1 + (ys.length : Int)) (by omega)
      have hat : p' < ys.length → geB xs[k] (ys.getD p' 0) = true := fun h => by
        have := place_at (xs := ys) (i := p) (p := geB xs[k]) (by rw [hp']; exact h)
        simp only [hp'] at this
        simpa [List.getElem?_eq_getElem h] using this
      rw [hp'] at he
      subst he
      have HP := Lib.hid hp'
      have HL := Lib.hid hless
      have HAT := Lib.hid hat
      have hb02 : Below w.heap.size w w2 := later_trans hb (later_trans hb1 hb2)
      have hown2 := owns_later hown (later_trans hb1 hb2)
      have hkey2 := ((bcell hb2).1 wr.heap.size 0 (by omega)).trans hkey
      clear hE hp' hless hat hf hw1 hkey hb2 hb1 hb hown
      by_cases hpe : p' = ys.length
      · have hpe' : ((p' : Int) == ys.length) = true := by rw [hpe]; simp
        have hO : meetL (xs.take k) ys = meetL xs ys := (ahead_none hlt (fun j hj _ => HL.out j hj (by omega)) RX.out).symm
        have hMl := meet_le xs ys
        rw [hO] at hown2
        obtain ⟨M, hM⟩ : ∃ M, meetL xs ys = M := ⟨_, rfl⟩
        rw [hM] at hown2 hMl
        have HMM := Lib.hid hM
        have HMN := Lib.hid (show mo = M.length from HMO.out.trans (by rw [hO, hM]))
        have hownF := hown2
        have hbF := hb02
        clear hpe hO hM hah hah' hown2 hb02
        go_wp2_with (first | (at_make; refine wpList_make_full w2 rfl (.tmp 64) (.tmp 64) 27 rfl w.heap.size 34 i0 (.int .u64 0) 1 Try.underlying27 hi hz0 hz1 .i64 .i64 _ _ mo rfl rfl rfl rfl (by rw [hz2]; have := HMN.out; omega) (by have := HMN.out; unfold maxLen; omega) hbF.size ?_; intro w3 hown3 hgrow3; have hblk := owns_block hown3; have hb3 : Below w.heap.size w w3 := hbF.grown hgrow3 hbF.size (fun k e => by cases e); have hown4 := hownF.kept hgrow3 (owns_not_none _ _ _); have hcs := (SlC.of_owns hown4)) | ((with_reducible show wpList _ _ _ _ _ _); refine wpList_copy_splice rfl (.tmp 66) (.tmp 67) 27 27 rfl 34 Try.underlying27 info1_u64 _ _ _ _ _ _ rfl rfl w2.heap.size 0 _ 34 hblk (M.map (Value.int .u64)) (copy_len HMN.out) (copy_src hcs) (copy_fits HMN.out) (ints_oneCell _ _) w.heap.size w hb3 hbF.size ?_; intro w5 hw5 hb5))
        go_ret2
        have hmax : M.length ≤ maxLen := by unfold maxLen; omega
        unfold MeetEnd
        rw [HMM.out]
        exact ⟨_, _, by first | rfl | exact ret_two (by simp), copy_owns hw5.out hbF.size hmax HMN.out, by have := Nat.mul_le_mul_right (8 + 8 * lg (1 + (ys.length : Int))) (show k + 1 ≤ xs.length by omega); rw [Nat.add_mul] at this; omega, hb5⟩
      · have hpe' : ((p' : Int) == ys.length) = false := by rw [beq_eq_false_iff_ne]; omega
        have hp'' : p' < ys.length := by omega
        obtain ⟨b', o', rfl, hbw', hc'⟩ := HY.out (by omega)
        have hcp := ((bcell hb02).1 b' (o' + p') hbw').trans (hc' p' hp'')
        have hmem := ahead_in hlt RY.out HL.out hp'' (by have := HAT.out hp''; simpa [geB, List.getElem?_eq_getElem hp''] using this)
        clear hc'
        by_cases hin : xs[k] ∈ ys
        · have hkk : (ys[p'] == xs[k]) = true := by simpa using hmem.2 hin
          have hhit := meet_hit hlt hin
          have HH := Lib.hid hhit
          have hol := meet_len (A := xs) (B := ys) k
          clear hmem hin hhit
          go_wp2
          go_quiet (fail)
          go_wp2_with (at_builtin; refine wpList_append_own _ rfl (.tmp 58) (.tmp 60) 27 rfl w.heap.size 34 i0 (.int .u64 0) 1 8 Try.underlying27 hi hz0 hz1 hz2 rfl (by decide) _ _ _ rfl ((owns_drewN hown2 nq).alloc _) ⟨w2.heap.size, 0, none⟩ 1 1 [.int .u64 xs[k]] rfl rfl (cell_one_new _ _ _) (by simp [Value.oneCell']) (by unfold maxLen; omega) (by omega) (by have := hb02.size; simp; omega) ?_; intro v6 w6 hown6 hgrow6 _; obtain ⟨g6, cap6, rfl⟩ := ownsRow_succ hown6)
          have hb6 : Below w.heap.size w w6 := (later_trans hb02 (later_trans (later_drewN w2 nq) (later_alloc _ _))).grown hgrow6 (by have := hb02.size; simp; omega) (owns_above hown2)
          have hown7 : w6.ownsRow w.heap.size 34 1 (.slice (some ⟨g6, 0, none⟩) ((meetL (xs.take k) ys).length + 1) cap6) (meetL (xs.take (k + 1)) ys).length ((meetL (xs.take (k + 1)) ys).map (Value.int .u64)) := by rw [HH.out]; simpa using hown6
          go_roundw
          case rel => exact ⟨k + 1, p', s + looks + 1, by omega, by go_num, rfl, by go_num, hown7, by omega, hah', looks_step hs hlk, hb6⟩
          case measure => simp [intOf]; omega
        · have hkk : (ys[p'] == xs[k]) = false := by rw [beq_eq_false_iff_ne]; exact fun e => hin (hmem.1 e)
          have hmiss := meet_miss hlt hin
          have HH := Lib.hid hmiss
          clear hmem hin hmiss
          go_wp2
          go_quiet (fail)
          go_wp2
          have hown7 : (w2.drewN nq).ownsRow w.heap.size 34 1 (.slice ao mo co) (meetL (xs.take (k + 1)) ys).length ((meetL (xs.take (k + 1)) ys).map (Value.int .u64)) := by rw [HH.out]; exact hown2
          go_roundw
          case rel => exact ⟨k + 1, p', s + looks + 1, by omega, by go_num, rfl, by go_num, hown7, by omega, hah', looks_step hs hlk, later_trans hb02 (later_drewN w2 nq)⟩
          case measure => simp [intOf]; omega
    · have hO : meetL (xs.take k) ys = meetL xs ys := meet_all (by omega)
      have hMl := meet_le xs ys
      rw [hO] at hown
      obtain ⟨M, hM⟩ : ∃ M, meetL xs ys = M := ⟨_, rfl⟩
      rw [hM] at hown hMl
      have HMM := Lib.hid hM
      have HMN := Lib.hid (show mo = M.length from HMO.out.trans (by rw [hO, hM]))
      have hownF := hown
      have hbF := hb
      clear hO hM hah hown hb
      go_wp2_with (first | (at_make; refine wpList_make_full wr rfl (.tmp 64) (.tmp 64) 27 rfl w.heap.size 34 i0 (.int .u64 0) 1 Try.underlying27 hi hz0 hz1 .i64 .i64 _ _ mo rfl rfl rfl rfl (by rw [hz2]; have := HMN.out; omega) (by have := HMN.out; unfold maxLen; omega) hbF.size ?_; intro w3 hown3 hgrow3; have hblk := owns_block hown3; have hb3 : Below w.heap.size w w3 := hbF.grown hgrow3 hbF.size (fun k e => by cases e); have hown4 := hownF.kept hgrow3 (owns_not_none _ _ _); have hcs := (SlC.of_owns hown4)) | ((with_reducible show wpList _ _ _ _ _ _); refine wpList_copy_splice rfl (.tmp 66) (.tmp 67) 27 27 rfl 34 Try.underlying27 info1_u64 _ _ _ _ _ _ rfl rfl wr.heap.size 0 _ 34 hblk (M.map (Value.int .u64)) (copy_len HMN.out) (copy_src hcs) (copy_fits HMN.out) (ints_oneCell _ _) w.heap.size w hb3 hbF.size ?_; intro w5 hw5 hb5))
      go_ret2
      have hmax : M.length ≤ maxLen := by unfold maxLen; omega
      unfold MeetEnd
      rw [HMM.out]
      exact ⟨_, _, by first | rfl | exact ret_two (by simp), copy_owns hw5.out hbF.size hmax HMN.out, Nat.le_trans hs (Nat.mul_le_mul_right _ hk), hb5⟩

set_option maxHeartbeats 2000000 in
theorem meet_long (u v : Value) (xs ys : List Int) (w : World) (hx : SlI .u64 w u xs) (hy : SlI .u64 w v ys) (hlx : xs.length ≤ 1099511627776) (hly : ys.length ≤ 1099511627776) (rx : risesB xs = true) (ry : risesB ys = true) (hle : xs.length < ys.length) :
    Calls Try.prog 15 #[v, u] w (MeetEnd xs ys w) := by
  have hr1 := fun W hW => rises_any u xs W (hx.later hW)
  have hr2 := fun W hW => rises_any v ys W (hy.later hW)
  rw [rx] at hr1
  rw [ry] at hr2
  obtain ⟨i0, hi, hz0, hz1, hz2⟩ := info_parts info_u64
  obtain ⟨a, c, rfl, h1, h2, h3, h4⟩ := hx.open
  obtain ⟨a', c', rfl, g1, g2, g3, g4⟩ := hy.open
  have HX := Lib.hid h4
  have HY := Lib.hid g4
  have HR1 := Lib.hid hr1
  have HR2 := Lib.hid hr2
  have RX := Lib.hid rx
  have RY := Lib.hid ry
  clear h1 h2 h3 h4 g1 g2 g3 g4 hr1 hr2 rx ry
  have hdec : decide (xs.length < ys.length) = true := by simp; omega
  go_enter Try.func15, Try.ntmps15
  go_wp2_with fail
  refine (HR2.out w (later_refl w)).mono ?_
  rintro e w1 ⟨rfl, n, rfl⟩
  go_wp2_with fail
  refine (HR1.out _ (later_drewN w n)).mono ?_
  rintro e w1 ⟨rfl, n', rfl⟩
  go_wp2_with fail
  go_loopw [6, 7, 8, 31] (fun out at_ all i wr => ∃ (k p s : Nat), k ≤ xs.length ∧ i = .int .i64 k ∧ at_ = .int .i64 p ∧ all = .int .i64 s ∧ MeetI w xs ys k p s out wr) (fun _ _ _ i _ => xs.length - (intOf i).toNat)
  case atStart => exact ⟨0, 0, 0, Nat.zero_le _, rfl, rfl, rfl, World.ownsRow_nil _ _ _ _, Nat.zero_le _, ahead_zero _ _ _, by simp, later_drewN w _⟩
  case round =>
    obtain ⟨k, p, s, hk, rfl, rfl, rfl, hown, hpl, hah, hs, hb⟩ := hrel
    obtain ⟨ao, mo, co, rfl, HMO⟩ := owns_shape hown
    have hsb := looks_bound hk hlx hs (lg_le (1 + (ys.length : Int)) (by omega))
    by_cases hlt : k < xs.length
    · obtain ⟨b, o, rfl, hbw, hc⟩ := HX.out (by omega)
      have hck := ((bcell hb).1 b (o + k) hbw).trans (hc k hlt)
      clear hc
      obtain ⟨w1, hw1⟩ : ∃ w1, wr.alloc (.cells #[.int .u64 xs[k]] 34) = w1 := ⟨_, rfl⟩
      have hb1 : Below wr.heap.size wr w1 := by rw [← hw1]; exact later_alloc wr _
      have hsz1 : w1.heap.size = wr.heap.size + 1 := by rw [← hw1]; simp
      have hkey : w1.cell? ⟨wr.heap.size, 0, none⟩ = some (.int .u64 xs[k]) := by rw [← hw1]; simp
      have hS := seek_any _ ys p 34 wr.heap.size (geB xs[k]) w1 (hy.later (later_trans hb hb1)) hpl hly (meet1_enough xs[k] wr.heap.size w1 hkey (by omega)) (rises_climbs RY.out (geB_mono xs[k]))
      have HS := Lib.hid hS
      clear hS
      go_wp2_with fail
      refine HS.out.mono ?_
      intro e w2 hE
      obtain ⟨looks, he, hf, hb2⟩ := seekEnd_place hE
      obtain ⟨p', hp'⟩ : ∃ p', place ys p (geB xs[k]) = p' := ⟨_, rfl⟩
      have hp'l : p' ≤ ys.length := by rw [← hp']; exact place_le hpl
      obtain ⟨hless, hah'⟩ := ahead_step hah hlt RX.out hp'.symm
      have hlk : looks ≤ 2 + 2 * lg (1 + (ys.length : Int)) := by rw [hp'] at hf; exact few_looks hf hpl hp'l
      have hlg := lg_le (1 + (ys.length : Int)) (by omega)
      have hat : p' < ys.length → geB xs[k] (ys.getD p' 0) = true := fun h => by
        have := place_at (xs := ys) (i := p) (p := geB xs[k]) (by rw [hp']; exact h)
        simp only [hp'] at this
        simpa [List.getElem?_eq_getElem h] using this
      rw [hp'] at he
      subst he
      have HP := Lib.hid hp'
      have HL := Lib.hid hless
      have HAT := Lib.hid hat
      have hb02 : Below w.heap.size w w2 := later_trans hb (later_trans hb1 hb2)
      have hown2 := owns_later hown (later_trans hb1 hb2)
      have hkey2 := ((bcell hb2).1 wr.heap.size 0 (by omega)).trans hkey
      clear hE hp' hless hat hf hw1 hkey hb2 hb1 hb hown
      by_cases hpe : p' = ys.length
      · have hpe' : ((p' : Int) == ys.length) = true := by rw [hpe]; simp
        have hO : meetL (xs.take k) ys = meetL xs ys := (ahead_none hlt (fun j hj _ => HL.out j hj (by omega)) RX.out).symm
        have hMl := meet_le xs ys
        rw [hO] at hown2
        obtain ⟨M, hM⟩ : ∃ M, meetL xs ys = M := ⟨_, rfl⟩
        rw [hM] at hown2 hMl
        have HMM := Lib.hid hM
        have HMN := Lib.hid (show mo = M.length from HMO.out.trans (by rw [hO, hM]))
        have hownF := hown2
        have hbF := hb02
        clear hpe hO hM hah hah' hown2 hb02
        go_wp2_with (first | (at_make; refine wpList_make_full w2 rfl (.tmp 64) (.tmp 64) 27 rfl w.heap.size 34 i0 (.int .u64 0) 1 Try.underlying27 hi hz0 hz1 .i64 .i64 _ _ mo rfl rfl rfl rfl (by rw [hz2]; have := HMN.out; omega) (by have := HMN.out; unfold maxLen; omega) hbF.size ?_; intro w3 hown3 hgrow3; have hblk := owns_block hown3; have hb3 : Below w.heap.size w w3 := hbF.grown hgrow3 hbF.size (fun k e => by cases e); have hown4 := hownF.kept hgrow3 (owns_not_none _ _ _); have hcs := (SlC.of_owns hown4)) | ((with_reducible show wpList _ _ _ _ _ _); refine wpList_copy_splice rfl (.tmp 66) (.tmp 67) 27 27 rfl 34 Try.underlying27 info1_u64 _ _ _ _ _ _ rfl rfl w2.heap.size 0 _ 34 hblk (M.map (Value.int .u64)) (copy_len HMN.out) (copy_src hcs) (copy_fits HMN.out) (ints_oneCell _ _) w.heap.size w hb3 hbF.size ?_; intro w5 hw5 hb5))
        go_ret2
        have hmax : M.length ≤ maxLen := by unfold maxLen; omega
        unfold MeetEnd
        rw [HMM.out]
        exact ⟨_, _, by first | rfl | exact ret_two (by simp), copy_owns hw5.out hbF.size hmax HMN.out, by have := Nat.mul_le_mul_right (8 + 8 * lg (1 + (ys.length : Int))) (show k + 1 ≤ xs.length by omega); rw [Nat.add_mul] at this; omega, hb5⟩
      · have hpe' : ((p' : Int) == ys.length) = false := by rw [beq_eq_false_iff_ne]; omega
        have hp'' : p' < ys.length := by omega
        obtain ⟨b', o', rfl, hbw', hc'⟩ := HY.out (by omega)
        have hcp := ((bcell hb02).1 b' (o' + p') hbw').trans (hc' p' hp'')
        have hmem := ahead_in hlt RY.out HL.out hp'' (by have := HAT.out hp''; simpa [geB, List.getElem?_eq_getElem hp''] using this)
        clear hc'
        by_cases hin : xs[k] ∈ ys
        · have hkk : (ys[p'] == xs[k]) = true := by simpa using hmem.2 hin
          have hhit := meet_hit hlt hin
          have HH := Lib.hid hhit
          have hol := meet_len (A := xs) (B := ys) k
          clear hmem hin hhit
          go_wp2
          go_quiet (fail)
          go_wp2_with (at_builtin; refine wpList_append_own _ rfl (.tmp 58) (.tmp 60) 27 rfl w.heap.size 34 i0 (.int .u64 0) 1 8 Try.underlying27 hi hz0 hz1 hz2 rfl (by decide) _ _ _ rfl ((owns_drewN hown2 nq).alloc _) ⟨w2.heap.size, 0, none⟩ 1 1 [.int .u64 xs[k]] rfl rfl (cell_one_new _ _ _) (by simp [Value.oneCell']) (by unfold maxLen; omega) (by omega) (by have := hb02.size; simp; omega) ?_; intro v6 w6 hown6 hgrow6 _; obtain ⟨g6, cap6, rfl⟩ := ownsRow_succ hown6)
          have hb6 : Below w.heap.size w w6 := (later_trans hb02 (later_trans (later_drewN w2 nq) (later_alloc _ _))).grown hgrow6 (by have := hb02.size; simp; omega) (owns_above hown2)
          have hown7 : w6.ownsRow w.heap.size 34 1 (.slice (some ⟨g6, 0, none⟩) ((meetL (xs.take k) ys).length + 1) cap6) (meetL (xs.take (k + 1)) ys).length ((meetL (xs.take (k + 1)) ys).map (Value.int .u64)) := by rw [HH.out]; simpa using hown6
          go_roundw
          case rel => exact ⟨k + 1, p', s + looks + 1, by omega, by go_num, rfl, by go_num, hown7, by omega, hah', looks_step hs hlk, hb6⟩
          case measure => simp [intOf]; omega
        · have hkk : (ys[p'] == xs[k]) = false := by rw [beq_eq_false_iff_ne]; exact fun e => hin (hmem.1 e)
          have hmiss := meet_miss hlt hin
          have HH := Lib.hid hmiss
          clear hmem hin hmiss
          go_wp2
          go_quiet (fail)
          go_wp2
          have hown7 : (w2.drewN nq).ownsRow w.heap.size 34 1 (.slice ao mo co) (meetL (xs.take (k + 1)) ys).length ((meetL (xs.take (k + 1)) ys).map (Value.int .u64)) := by rw [HH.out]; exact hown2
          go_roundw
          case rel => exact ⟨k + 1, p', s + looks + 1, by omega, by go_num, rfl, by go_num, hown7, by omega, hah', looks_step hs hlk, later_trans hb02 (later_drewN w2 nq)⟩
          case measure => simp [intOf]; omega
    · have hO : meetL (xs.take k) ys = meetL xs ys := meet_all (by omega)
      have hMl := meet_le xs ys
      rw [hO] at hown
      obtain ⟨M, hM⟩ : ∃ M, meetL xs ys = M := ⟨_, rfl⟩
      rw [hM] at hown hMl
      have HMM := Lib.hid hM
      have HMN := Lib.hid (show mo = M.length from HMO.out.trans (by rw [hO, hM]))
      have hownF := hown
      have hbF := hb
      clear hO hM hah hown hb
      go_wp2_with (first | (at_make; refine wpList_make_full wr rfl (.tmp 64) (.tmp 64) 27 rfl w.heap.size 34 i0 (.int .u64 0) 1 Try.underlying27 hi hz0 hz1 .i64 .i64 _ _ mo rfl rfl rfl rfl (by rw [hz2]; have := HMN.out; omega) (by have := HMN.out; unfold maxLen; omega) hbF.size ?_; intro w3 hown3 hgrow3; have hblk := owns_block hown3; have hb3 : Below w.heap.size w w3 := hbF.grown hgrow3 hbF.size (fun k e => by cases e); have hown4 := hownF.kept hgrow3 (owns_not_none _ _ _); have hcs := (SlC.of_owns hown4)) | ((with_reducible show wpList _ _ _ _ _ _); refine wpList_copy_splice rfl (.tmp 66) (.tmp 67) 27 27 rfl 34 Try.underlying27 info1_u64 _ _ _ _ _ _ rfl rfl wr.heap.size 0 _ 34 hblk (M.map (Value.int .u64)) (copy_len HMN.out) (copy_src hcs) (copy_fits HMN.out) (ints_oneCell _ _) w.heap.size w hb3 hbF.size ?_; intro w5 hw5 hb5))
      go_ret2
      have hmax : M.length ≤ maxLen := by unfold maxLen; omega
      unfold MeetEnd
      rw [HMM.out]
      exact ⟨_, _, by first | rfl | exact ret_two (by simp), copy_owns hw5.out hbF.size hmax HMN.out, Nat.le_trans hs (Nat.mul_le_mul_right _ hk), hb5⟩

/-- What gallop.Meet hands back: what both rows have, and few looks; nothing, where one does not rise. -/
def MeetPost (xs ys : List Int) (w : World) (e : Ending) (w' : World) : Prop :=
  ∃ (v' : Value) (all : Nat), e = .returned (.tuple #[v', .int .i64 all]) ∧ w'.ownsRow w.heap.size 34 1 v' (if risesB xs && risesB ys then meetL xs ys else []).length ((if risesB xs && risesB ys then meetL xs ys else []).map (Value.int .u64)) ∧
    all ≤ (if risesB xs && risesB ys then min xs.length ys.length * (8 + 8 * lg (1 + (max xs.length ys.length : Int))) else 0) ∧ Below w.heap.size w w'

set_option maxHeartbeats 400000 in
/-- gallop.Meet. -/
theorem meet_any (u v : Value) (xs ys : List Int) (w : World) (hx : SlI .u64 w u xs) (hy : SlI .u64 w v ys) (hlx : xs.length ≤ 1099511627776) (hly : ys.length ≤ 1099511627776) :
    Calls Try.prog 15 #[u, v] w (MeetPost xs ys w) := by
  have hr1 := rises_any u xs w hx
  cases rx : risesB xs with
  | false =>
    rw [rx] at hr1
    have HR1 := Lib.hid hr1
    have RX := Lib.hid rx
    obtain ⟨a, c, rfl, h1, h2, h3, h4⟩ := hx.open
    obtain ⟨a', c', rfl, g1, g2, g3, g4⟩ := hy.open
    clear h1 h2 h3 h4 g1 g2 g3 g4 hr1 rx hx hy
    go_enter Try.func15, Try.ntmps15
    go_wp2_with fail
    refine HR1.out.mono ?_
    rintro e w1 ⟨rfl, n, rfl⟩
    go_wp2_with fail
    go_ret2
    have e1 : risesB xs = false := RX.out
    refine ⟨_, 0, rfl, ?_, by simp, later_drewN w n⟩
    simp only [e1, Bool.false_and, Bool.false_eq_true, if_false]
    exact World.ownsRow_nil _ _ _ _
  | true =>
    cases ry : risesB ys with
    | false =>
      have hr2 := fun W hW => rises_any v ys W (hy.later hW)
      rw [rx] at hr1
      rw [ry] at hr2
      have HR1 := Lib.hid hr1
      have HR2 := Lib.hid hr2
      have RY := Lib.hid ry
      obtain ⟨a, c, rfl, h1, h2, h3, h4⟩ := hx.open
      obtain ⟨a', c', rfl, g1, g2, g3, g4⟩ := hy.open
      clear h1 h2 h3 h4 g1 g2 g3 g4 hr1 hr2 rx ry hx hy
      go_enter Try.func15, Try.ntmps15
      go_wp2_with fail
      refine HR1.out.mono ?_
      rintro e w1 ⟨rfl, n, rfl⟩
      go_wp2_with fail
      refine (HR2.out _ (later_drewN w n)).mono ?_
      rintro e w1 ⟨rfl, n', rfl⟩
      go_wp2_with fail
      go_ret2
      have e1 : risesB ys = false := RY.out
      refine ⟨_, 0, rfl, ?_, by simp, by first | exact later_drewN w _ | exact later_trans (later_drewN w n) (later_drewN _ n')⟩
      simp only [e1, Bool.and_false, Bool.false_eq_true, if_false]
      exact World.ownsRow_nil _ _ _ _
    | true =>
      by_cases hle : xs.length ≤ ys.length
      · refine (meet_short u v xs ys w hx hy hlx hly rx ry hle).mono ?_
        rintro e w' ⟨v', all, rfl, hown, hall, hb⟩
        refine ⟨v', all, rfl, ?_, ?_, hb⟩
        · simp only [rx, ry, Bool.and_self, if_true]; exact hown
        · simp only [rx, ry, Bool.and_self, if_true]
          rw [show min xs.length ys.length = xs.length by omega, show max (xs.length : Int) ys.length = ys.length by omega]; exact hall
      · refine (meet_long v u ys xs w hy hx hly hlx ry rx (by omega)).mono ?_
        rintro e w' ⟨v', all, rfl, hown, hall, hb⟩
        rw [meet_comm ry rx] at hown
        refine ⟨v', all, rfl, ?_, ?_, hb⟩
        · simp only [rx, ry, Bool.and_self, if_true]; exact hown
        · simp only [rx, ry, Bool.and_self, if_true]
          rw [show min xs.length ys.length = ys.length by omega, show max (xs.length : Int) ys.length = xs.length by omega]; exact hall

/-- What colanderref04.Meet keeps. -/
def RefMeetI (w : World) (A B : List Int) (k : Nat) (out : Value) (wr : World) : Prop :=
  wr.ownsRow w.heap.size 34 1 out (meetL (A.take k) B).length ((meetL (A.take k) B).map (Value.int .u64)) ∧ Below w.heap.size w wr

set_option maxHeartbeats 1000000 in
/-- colanderref04.Meet. -/
theorem refmeet_any (u v : Value) (xs ys : List Int) (w : World) (hx : SlI .u64 w u xs) (hy : SlI .u64 w v ys) (hlx : xs.length ≤ 1099511627776) :
    Calls Try.prog 16 #[u, v] w fun e w' => ∃ v', e = .returned v' ∧ w'.ownsRow w.heap.size 34 1 v' (meetL xs ys).length ((meetL xs ys).map (Value.int .u64)) ∧ Below w.heap.size w w' := by
  have hh := fun (W : World) (hW : Below w.heap.size w W) (key : Int) => refhas_any v ys key W (hy.later hW)
  obtain ⟨i0, hi, hz0, hz1, hz2⟩ := info_parts info_u64
  obtain ⟨a, c, rfl, h1, h2, h3, h4⟩ := hx.open
  obtain ⟨a', c', rfl, g1, g2, g3, g4⟩ := hy.open
  have HX := Lib.hid h4
  have HH := Lib.hid hh
  clear h1 h2 h3 h4 g1 g2 g3 g4 hh
  go_enter Try.func16, Try.ntmps16
  go_wp2_with fail
  go_loopw [5, 10] (fun out i wr => ∃ k : Nat, k ≤ xs.length ∧ i = .int .i64 k ∧ RefMeetI w xs ys k out wr) (fun _ i _ => xs.length - (intOf i).toNat)
  case atStart => exact ⟨0, Nat.zero_le _, rfl, World.ownsRow_nil _ _ _ _, later_refl w⟩
  case round =>
    obtain ⟨k, hk, rfl, hown, hb⟩ := hrel
    obtain ⟨ao, mo, co, rfl, HMO⟩ := owns_shape hown
    by_cases hlt : k < xs.length
    · obtain ⟨b, o, rfl, hbw, hc⟩ := HX.out (by omega)
      have hck := ((bcell hb).1 b (o + k) hbw).trans (hc k hlt)
      clear hc
      have HC := Lib.hid (HH.out wr hb xs[k])
      by_cases hin : xs[k] ∈ ys
      · have HT := Lib.hid (decide_eq_true hin)
        have hhit := Lib.hid (meet_hit hlt hin)
        have hol := meet_len (A := xs) (B := ys) k
        clear hin
        go_wp2_with fail
        refine HC.out.mono ?_
        rintro e w2 ⟨he, rfl⟩
        rw [HT.out] at he
        subst he
        go_wp2_with (at_builtin; refine wpList_append_own _ rfl (.tmp 17) (.tmp 19) 27 rfl w.heap.size 34 i0 (.int .u64 0) 1 8 Try.underlying27 hi hz0 hz1 hz2 rfl (by decide) _ _ _ rfl (hown.alloc _) ⟨wr.heap.size, 0, none⟩ 1 1 [.int .u64 xs[k]] rfl rfl (cell_one_new _ _ _) (by simp [Value.oneCell']) (by unfold maxLen; omega) (by omega) (by have := hb.size; simp; omega) ?_; intro v6 w6 hown6 hgrow6 _; obtain ⟨g6, cap6, rfl⟩ := ownsRow_succ hown6)
        have hb6 : Below w.heap.size w w6 := (later_trans hb (later_alloc _ _)).grown hgrow6 (by have := hb.size; simp; omega) (owns_above hown)
        have hown7 : w6.ownsRow w.heap.size 34 1 (.slice (some ⟨g6, 0, none⟩) ((meetL (xs.take k) ys).length + 1) cap6) (meetL (xs.take (k + 1)) ys).length ((meetL (xs.take (k + 1)) ys).map (Value.int .u64)) := by rw [hhit.out]; simpa using hown6
        go_roundw
        case rel => exact ⟨k + 1, by omega, by go_num, hown7, hb6⟩
        case measure => simp [intOf]; omega
      · have HT := Lib.hid (decide_eq_false hin)
        have hmiss := Lib.hid (meet_miss hlt hin)
        clear hin
        go_wp2_with fail
        refine HC.out.mono ?_
        rintro e w2 ⟨he, rfl⟩
        rw [HT.out] at he
        subst he
        go_wp2_with fail
        go_roundw
        case rel => exact ⟨k + 1, by omega, by go_num, by rw [hmiss.out]; exact hown, hb⟩
        case measure => simp [intOf]; omega
    · rw [meet_all (by omega)] at hown
      clear HMO
      go_wp2_with fail
      go_ret
      exact ⟨_, rfl, hown, hb⟩
end Go.Proofs.Ytlndgjibefbddaa
