/-
  slices.CompactFunc at rows of uint64, by a closure that tells whether two rows are the same. (Printed by mkhacomp.py.)
-/
import Derived.Deep.RegionHeld3
import Derived.Deep.DeepCutAuto
import Derived.Test.YtdeiinfljfgmeaaHaFns
namespace Go.Proofs.Ytdeiinfljfgmeaa
open Go.RowKit
set_option linter.unusedVariables false
set_option linter.unusedSimpArgs false

theorem owns_setCells {base : Nat} {e : TypeId} {size g n cap : Nat} : ∀ (vs : List Value) (o : Nat) (w : World) (xs : List Value), w.ownsRow base e size (.slice (some ⟨g, 0, none⟩) n cap) n xs →
    ∃ ys, (w.setCells g o vs).ownsRow base e size (.slice (some ⟨g, 0, none⟩) n cap) n ys ∧ ys.take o = xs.take o
  | [], o, w, xs, h => ⟨xs, h, rfl⟩
  | v :: r, o, w, xs, h => by
    obtain ⟨ys, h1, h2⟩ := owns_setCells r (o + 1) (w.setCell ⟨g, o, none⟩ v) (xs.set o v) (owns_set h v)
    refine ⟨ys, h1, ?_⟩
    have h3 := congrArg (List.take o) h2
    rw [List.take_take, List.take_take, Nat.min_eq_left (by omega)] at h3
    rw [h3, List.take_set]
    apply List.set_eq_of_length_le
    simp; omega
theorem below_cells {B g : Nat} (hg : B ≤ g) : ∀ (vs : List Value) (o : Nat) (w : World), Below B w (w.setCells g o vs)
  | [], _, w => Below.refl _ w
  | v :: r, o, w => ((Below.refl _ w).setCell (p := ⟨g, o, none⟩) hg v).trans (below_cells hg r (o + 1) _)
theorem owns_cut {w : World} {base : Nat} {e : TypeId} {size g n cap m : Nat} {xs : List Value} (h : w.ownsRow base e size (.slice (some ⟨g, 0, none⟩) n cap) n xs) (hm : m ≤ n) : w.ownsRow base e size (.slice (some ⟨g, 0, none⟩) m cap) m (xs.take (m * size)) := by
  obtain ⟨hl, h⟩ := h
  have hms := Nat.mul_le_mul_right size hm
  refine ⟨by rw [List.length_take, hl]; omega, ?_⟩
  rcases h with ⟨h, _⟩ | ⟨g', cap', cur, hv, hg, hh, h1, h2, h3, h4⟩
  · cases h
  · cases hv
    refine Or.inr ⟨g, cap, cur, rfl, hg, hh, by omega, h2, h3, ?_⟩
    rw [← h4, List.take_take, Nat.min_eq_left hms]
theorem ownsRow_pos1 {w : World} {base : Nat} {e : TypeId} {size : Nat} {v : Value} {n : Nat} {xs : List Value} (h : w.ownsRow base e size v n xs) (h0 : 0 < n) : ∃ g c, v = .slice (some ⟨g, 0, none⟩) n c := by
  rcases h.2 with ⟨rfl, rfl⟩ | ⟨g, cap, cur, rfl, _⟩
  · omega
  · exact ⟨_, _, rfl⟩
theorem clear_rows {w : World} {base g n cap : Nat} {xs : List Value} (h : w.ownsRow base 26 1 (.slice (some ⟨g, 0, none⟩) n cap) n xs) {i : Nat} (hi : i < n) (c : Nat) :
    ∃ zs, ∀ ty : TypeId, (Builtin.clear_ #[23] ty #[.slice (some ⟨g, i, none⟩) (n - i) c]).run Try.prog w = .ok (.tuple #[]) (w.setCells g i zs) := by
  have ht := Try.underlying23
  have hv := Try.zeroValue26
  obtain ⟨zs, hzs⟩ : ∃ zs, (Builtin.zeroCells (Value.slice none 0 0).cells (n - i)).toList = zs := ⟨_, rfl⟩
  have hzl : zs.length = n - i := by rw [← hzs]; simp [Builtin.zeroCells, Value.cells]
  have hz1 : ∀ v ∈ zs, v.oneCell' = true := by
    intro v hv'
    rw [← hzs] at hv'
    simp [Builtin.zeroCells, Value.cells] at hv'
    obtain ⟨k, hk, rfl⟩ := hv'
    rw [Nat.mod_one]
    rfl
  have hst := run_storeCells_cells (P := Try.prog) g i zs 0 w
    (fun j hj => by
      have hx : i + j < xs.length := by rw [h.1]; omega
      simp only [Nat.add_zero]
      rw [(owns_cell h (List.getElem?_eq_getElem hx)).1]; rfl)
    (fun j hj => by
      have hx : i + j < xs.length := by rw [h.1]; omega
      simp only [Nat.add_zero]
      exact (owns_cell h (List.getElem?_eq_getElem hx)).2) hz1
  simp only [Nat.add_zero] at hst
  obtain ⟨m, hm⟩ : ∃ m, n - i = m + 1 := ⟨n - i - 1, by omega⟩
  rw [hm] at hzs ⊢
  exact ⟨zs, fun ty => by simp [Builtin.clear_, run_underlying ht, hv, hzs, hst]⟩
/-- A row's value and what it reads. -/
def pN (ps : List (Value × List Int)) (i : Nat) : Value × List Int := ps.getD i (undef, [])
theorem pN_at {ps : List (Value × List Int)} {i : Nat} (h : i < ps.length) : pN ps i = ps[i] := by unfold pN; simp [List.getD, h]
/-- Of twins beside each other one. -/
def onceP (ps : List (Value × List Int)) : Nat → List (Value × List Int)
  | 0 => []
  | i + 1 => if i = 0 ∨ (pN ps (i - 1)).2 ≠ (pN ps i).2 then onceP ps i ++ [pN ps i] else onceP ps i
theorem onceP_yes {ps : List (Value × List Int)} {i : Nat} (h : i = 0 ∨ (pN ps (i - 1)).2 ≠ (pN ps i).2) : onceP ps (i + 1) = onceP ps i ++ [pN ps i] := by
  show (if _ then _ else _) = _
  rw [if_pos h]
theorem onceP_no {ps : List (Value × List Int)} {i : Nat} (h : (pN ps (i - 1)).2 = (pN ps i).2) (h0 : 0 < i) : onceP ps (i + 1) = onceP ps i := by
  show (if _ then _ else _) = _
  rw [if_neg (by intro hc; rcases hc with hc | hc; omega; exact hc h)]
theorem onceP_small {ps : List (Value × List Int)} (h : ps.length < 2) : onceP ps ps.length = ps := by
  match ps, h with
  | [], _ => rfl
  | [p], _ => rfl
  | _ :: _ :: _, h => simp at h; omega
/-- Rows of old memory, in a row of the call's own. -/
structure OwnP (w0 : World) (base : Nat) (W : World) (v : Value) (ps : List (Value × List Int)) : Prop where
  own : W.ownsRow base 26 1 v ps.length (ps.map Prod.fst)
  rows : ∀ p ∈ ps, SlI .u64 w0 p.1 p.2
theorem OwnP.later {w0 W W' : World} {base : Nat} {v : Value} {ps : List (Value × List Int)} (h : OwnP w0 base W v ps) (hb : Below W.heap.size W W') : OwnP w0 base W' v ps := ⟨owns_later h.own hb, h.rows⟩
theorem OldRows.toP {w0 W : World} {base : Nat} {v : Value} {vs : List Value} {ls : List (List Int)} (h : OldRows w0 base W v vs ls) : OwnP w0 base W v (vs.zip ls) ∧ (vs.zip ls).map Prod.snd = ls := by
  have hl := h.len
  refine ⟨⟨?_, fun p hp => ?_⟩, by rw [List.map_snd_zip (by omega)]⟩
  · rw [List.map_fst_zip (by omega), List.length_zip, hl, Nat.min_self, ← hl]
    exact h.own
  · obtain ⟨i, hi, rfl⟩ := List.getElem_of_mem hp
    rw [List.length_zip] at hi
    rw [List.getElem_zip]
    have := h.rows i (by omega)
    rw [rowN_at (by omega)] at this
    simpa [List.getD, show i < vs.length by omega] using this
theorem OwnP.slR {w0 W : World} {base : Nat} {v : Value} {ps : List (Value × List Int)} (h : OwnP w0 base W v ps) (hb : Below w0.heap.size w0 W) : SlRK .u64 W v (ps.map Prod.snd) := by
  refine ⟨fun r => (pN ps r).1, ?_, fun r hr => ?_⟩
  · have e : (List.range (ps.map Prod.snd).length).map (fun r => (pN ps r).1) = ps.map Prod.fst := by
      refine List.ext_getElem (by simp) fun i h1 h2 => ?_
      simp at h2
      simp [pN_at h2]
    rw [e]
    exact SlC.of_owns h.own
  · rw [List.length_map] at hr
    have e2 : rowN (ps.map Prod.snd) r = (pN ps r).2 := by rw [rowN_at (by simpa using hr), List.getElem_map, pN_at hr]
    show SlI .u64 W (pN ps r).1 _
    rw [e2, pN_at hr]
    exact SlI.later (h.rows _ (List.getElem_mem hr)) hb
/-- A closure that tells whether two rows are the same, asked while v's own row is written. -/
def SameF (F : Nat) (caps : Array Value) (v : Value) (w : World) (ps : List (Value × List Int)) : Prop :=
  ∀ p ∈ ps, ∀ q ∈ ps, ∀ W, Wrote (fun b => v.ownBlock = some b) w W → Calls Try.prog F (#[p.1, q.1] ++ caps) W fun e W' => e = .returned (.bool (decide (p.2 = q.2))) ∧ Below W.heap.size W W'
theorem setCells_other {g b : Nat} : ∀ (vs : List Value) (o : Nat) (w : World), b ≠ g → (w.setCells g o vs).heap[b]? = w.heap[b]?
  | [], _, _, _ => rfl
  | v :: r, o, w, h => (setCells_other r (o + 1) (w.setCell ⟨g, o, none⟩ v) h).trans (heap_setCell_other w ⟨g, o, none⟩ b v h)
theorem owns_cap {w : World} {base : Nat} {e : TypeId} {g n c : Nat} {xs : List Value} (h : w.ownsRow base e 1 (.slice (some ⟨g, 0, none⟩) n c) n xs) : n ≤ c ∧ c ≤ 9223372036854775807 := by
  rcases h.2 with ⟨h, _⟩ | ⟨g', cap', cur, hv, _, _, h1, h2, _⟩
  · cases h
  · cases hv; exact ⟨h1, by simpa [maxLen] using h2⟩
theorem pn_slice {w0 : World} {p : Value × List Int} (h : SlI .u64 w0 p.1 p.2) : ∃ a n c, p.1 = .slice a n c := by
  obtain ⟨a, c, e, -⟩ := h.open
  exact ⟨a, _, c, e⟩

set_option maxRecDepth 100000 in
set_option maxHeartbeats 8000000 in
theorem compactF_any {F : Nat} {caps : Array Value} {w0 w : World} {base : Nat} {v : Value} {ps : List (Value × List Int)} (hF : Enters F) (hO : OwnP w0 base w v ps) (hlen : ps.length ≤ 1099511627776) (hbase : base ≤ w.heap.size) (hS : SameF F caps v w ps) :
    Calls Try.prog 62 #[v, .func (.func F) #[] caps] w fun e w' => ∃ v', e = .returned v' ∧ OwnP w0 base w' v' (onceP ps ps.length) ∧ Wrote (fun b => v.ownBlock = some b) w w' := by
  have hE := hF
  unfold Enters at hE
  obtain ⟨a, c, rfl⟩ := owns_shape2 hO.own
  by_cases h2 : ps.length < 2
  · have h2d : decide ((ps.length : Int) < 2) = true := decide_eq_true (by omega)
    have h2n : decide (ps.length < 2) = true := decide_eq_true h2
    rw [onceP_small h2]
    have HO := Lib.hid hO
    clear hO hS hF
    go_enter Try.func62, Try.ntmps62
    go_wp2_with fail
    go_ret
    exact ⟨_, rfl, HO.out, Wrote.of_below (Below.refl _ w)⟩
  · obtain ⟨g, cap, hv⟩ := ownsRow_pos1 hO.own (by omega)
    obtain ⟨ha, hc⟩ : a = some ⟨g, 0, none⟩ ∧ c = cap := by cases hv; exact ⟨rfl, rfl⟩
    subst ha hc
    obtain ⟨hcl, hcm⟩ := owns_cap hO.own
    have hgb := owns_above hO.own g rfl
    clear hv hF
    have HO := Lib.hid (And.intro hO hS)
    clear hO hS
    go_enter Try.func62, Try.ntmps62
    go_wp2_with fail
    go_loopw [5] (fun k wr => ∃ i : Nat, 1 ≤ i ∧ i ≤ ps.length ∧ k = .int .i64 i ∧ onceP ps i = ps.take i ∧ Below w.heap.size w wr) (fun k _ => ps.length - (intOf k).toNat)
    case atStart => exact ⟨1, by omega, by omega, rfl, by (obtain ⟨x, r, rfl⟩ : ∃ x r, ps = x :: r := (by cases ps with | nil => simp at h2 | cons x r => exact ⟨_, _, rfl⟩)); rfl, later_refl _⟩
    case round =>
      obtain ⟨i, hi1, hi2, rfl, honce, hb⟩ := hrel
      obtain ⟨m, rfl⟩ : ∃ m, i = m + 1 := ⟨i - 1, by omega⟩
      by_cases hlt : m + 1 < ps.length
      · have hOw := HO.out.1.later hb
        have c1 : wr.cell? ⟨g, m + 1, none⟩ = some ps[m + 1].1 := (owns_cell (j := m + 1) (u := ps[m + 1].1) hOw.own (by simp [hlt])).1
        have c0 : wr.cell? ⟨g, m, none⟩ = some (ps[m]'(by omega)).1 := (owns_cell (j := m) (u := (ps[m]'(by omega)).1) hOw.own (by simp [show m < ps.length from by omega])).1
        have hEq : ∀ W, Below wr.heap.size wr W → _ := fun W hbW => HO.out.2 ps[m + 1] (List.getElem_mem hlt) (ps[m]'(by omega)) (List.getElem_mem (by omega)) W (Wrote.of_below (later_trans hb hbW))
        have hps1 : pN ps (m + 1) = ps[m + 1] := pN_at hlt
        have hps0 : pN ps m = ps[m]'(by omega) := pN_at (by omega)
        obtain ⟨a1, n1, k1, hp1⟩ := pn_slice (hOw.rows ps[m + 1] (List.getElem_mem hlt))
        obtain ⟨a0, n0, k0, hp0⟩ := pn_slice (hOw.rows (ps[m]'(by omega)) (List.getElem_mem (by omega)))
        rw [hp1] at c1
        rw [hp0] at c0
        rw [hp1, hp0] at hEq
        obtain ⟨r1, hr1⟩ : ∃ r, ps[m + 1].2 = r := ⟨_, rfl⟩
        obtain ⟨r0, hr0⟩ : ∃ r, (ps[m]'(by omega)).2 = r := ⟨_, rfl⟩
        rw [hr1, hr0] at hEq
        have hw : IntKind.i64.wrap (m : Int) = m := wrap_i64 (by omega) (by omega)
        have hm1 : ((m + 1 : Nat) : Int) - 1 = (m : Int) := by omega
        have hI0 : (m : Int) < ps.length := by omega
        have hI1 : (m : Int) + 1 < ps.length := by omega
        have hI2 : ((m + 1 : Nat) : Int) < ps.length := by omega
        have hI3 : (0 : Int) ≤ (m : Int) + 1 := by omega
        have hI4 : ((m : Int) + 1).toNat = m + 1 := by omega
        have hI5 : (0 : Int) ≤ (m : Int) := by omega
        have HK := Lib.hid (And.intro honce (And.intro hb (And.intro hlt (And.intro (show (pN ps (m + 1)).2 = r1 by rw [hps1, hr1]) (show (pN ps m).2 = r0 by rw [hps0, hr0])))))
        have HEq := Lib.hid hEq
        have HCell : Hid (∀ W, Below wr.heap.size wr W → W.cell? ⟨g, m + 1, none⟩ = some (.slice a1 n1 k1) ∧ W.cell? ⟨g, m, none⟩ = some (.slice a0 n0 k0)) := Lib.hid (fun W hbW => ⟨cell_next hbW c1, cell_next hbW c0⟩)
        clear honce hb hOw hEq hps1 hps0 hp1 hp0 hr1 hr0
        go_upto_region 6 with fail
        go_cut [28] (fun s28 wx => s28 = .bool (decide (r1 = r0)) ∧ Below wr.heap.size wr wx)
        case first =>
          go_region_held3 (fun W => W.cell? ⟨g, m + 1, none⟩ = some (.slice a1 n1 k1) ∧ W.cell? ⟨g, m, none⟩ = some (.slice a0 n0 k0))
            (first | exact HCell.out _ (later_refl _) | exact HCell.out _ (later_drew _) | exact HCell.out _ hbQ | assumption)
            (first
              | (go_at_fn F; refine (HEq.out _ (later_drew _)).mono ?_; rintro e wQ ⟨rfl, hQ1⟩; have hbQ : Below wr.heap.size wr wQ := (later_trans (later_drew _) hQ1)))
          all_goals (go_wp2_with fail)
          all_goals go_meet
          all_goals exact ⟨rfl, hbQ⟩
        case rest =>
          obtain ⟨rfl, hbx⟩ := hcut
          have hbW := later_trans HK.out.2.1 hbx
          clear c1 c0 hw hm1
          by_cases he : r1 = r0
          · have heb : decide (r1 = r0) = true := decide_eq_true he
            have hstart : onceP ps (m + 1 + 1) = ps.take (m + 1) := by
              rw [onceP_no (by rw [Nat.add_sub_cancel, HK.out.2.2.2.1, HK.out.2.2.2.2]; exact he.symm) (by omega)]
              exact HK.out.1
            have HST := Lib.hid (And.intro hstart (And.intro (Wrote.of_below (S := fun b => (Value.slice (some ⟨g, 0, none⟩) ps.length c).ownBlock = some b) hbW) (HO.out.1.later hbW)))
            rw [heb]
            clear hstart he heb hbx hbW
            go_wp2_with fail
            go_loopw [5, 7] (fun iv kv wr => ∃ (i q : Nat) (row : List (Value × List Int)), i < m + 1 + (q + 1) ∧ m + 1 + (q + 1) ≤ ps.length ∧ iv = .int .i64 i ∧ kv = .int .i64 ((q + 1 : Nat) : Int) ∧ row.length = ps.length ∧ row.take i = onceP ps (m + 1 + (q + 1)) ∧ (∀ j, m + 1 + q ≤ j → (hj : j < ps.length) → row[j]? = some ps[j]) ∧ (∀ p ∈ row, p ∈ ps) ∧
              wr.ownsRow base 26 1 (.slice (some ⟨g, 0, none⟩) ps.length c) ps.length (row.map Prod.fst) ∧ Wrote (fun b => (Value.slice (some ⟨g, 0, none⟩) ps.length c).ownBlock = some b) w wr) (fun _ kv _ => ps.length - (intOf kv).toNat)
            case atStart => exact ⟨m + 1, 0, ps, by omega, by omega, by go_num, rfl, rfl, HST.out.1.symm, fun j h1 h2 => List.getElem?_eq_getElem h2, fun p hp => hp, HST.out.2.2.own, HST.out.2.1⟩
            case round =>
              obtain ⟨i, q, row, hiq, hqn, rfl, rfl, hrl, hrt, hrd, hrm, hownr, hwr⟩ := hrel
              by_cases hlt2 : m + 1 + (q + 1) < ps.length
              · have x1 := hrd (m + 1 + (q + 1)) (by omega) hlt2
                have x0 := hrd (m + 1 + q) (by omega) (by omega)
                have d1 : wr.cell? ⟨g, m + 1 + (q + 1), none⟩ = some ps[m + 1 + (q + 1)].1 := (owns_cell (j := m + 1 + (q + 1)) hownr (by rw [List.getElem?_map, x1]; rfl)).1
                have d0 : wr.cell? ⟨g, m + 1 + q, none⟩ = some (ps[m + 1 + q]'(by omega)).1 := (owns_cell (j := m + 1 + q) hownr (by rw [List.getElem?_map, x0]; rfl)).1
                have hEq : ∀ W, Below wr.heap.size wr W → _ := fun W hbW => HO.out.2 ps[m + 1 + (q + 1)] (List.getElem_mem hlt2) (ps[m + 1 + q]'(by omega)) (List.getElem_mem (by omega)) W (hwr.trans (Wrote.of_below hbW))
                have hps1 : pN ps (m + 1 + (q + 1)) = ps[m + 1 + (q + 1)] := pN_at hlt2
                have hps0 : pN ps (m + 1 + q) = ps[m + 1 + q]'(by omega) := pN_at (by omega)
                obtain ⟨a1', n1', k1', hp1⟩ := pn_slice (HO.out.1.rows ps[m + 1 + (q + 1)] (List.getElem_mem hlt2))
                obtain ⟨a0', n0', k0', hp0⟩ := pn_slice (HO.out.1.rows (ps[m + 1 + q]'(by omega)) (List.getElem_mem (by omega)))
                rw [hp1] at d1
                rw [hp0] at d0
                rw [hp1, hp0] at hEq
                obtain ⟨s1, hs1⟩ : ∃ r, ps[m + 1 + (q + 1)].2 = r := ⟨_, rfl⟩
                obtain ⟨s0, hs0⟩ : ∃ r, (ps[m + 1 + q]'(by omega)).2 = r := ⟨_, rfl⟩
                rw [hs1, hs0] at hEq
                have hw1 : IntKind.i64.wrap (q : Int) = q := wrap_i64 (by omega) (by omega)
                have hm2 : ((q + 1 : Nat) : Int) - 1 = (q : Int) := by omega
                have hJ0 : (q : Int) < (ps.length - (m + 1) : Nat) := by omega
                have hJ1 : (q : Int) + 1 < (ps.length - (m + 1) : Nat) := by omega
                have hJ2 : ((q + 1 : Nat) : Int) < (ps.length - (m + 1) : Nat) := by omega
                have hJ3 : (0 : Int) ≤ (q : Int) + 1 := by omega
                have hJ4 : ((q : Int) + 1).toNat = q + 1 := by omega
                have hJ5 : (0 : Int) ≤ (q : Int) := by omega
                have hil : i < ps.length := by omega
                have hiI : (i : Int) < ps.length := by omega
                have hrL : (row.map Prod.fst).length = ps.length := by rw [List.length_map, hrl]
                obtain ⟨ei, hei⟩ : ∃ u, (row.map Prod.fst)[i]? = some u := ⟨_, List.getElem?_eq_getElem (by omega)⟩
                have hoi := owns_cell (j := i) hownr hei
                have HR := Lib.hid (And.intro hrl (And.intro hrt (And.intro hrd (And.intro hrm (And.intro hownr hwr)))))
                have HP := Lib.hid (And.intro hps1 (And.intro hps0 (And.intro hs1 (And.intro hs0 hp1))))
                have HEq2 := Lib.hid hEq
                have HCell2 : Hid (∀ W, Below wr.heap.size wr W → W.cell? ⟨g, m + 1 + (q + 1), none⟩ = some (.slice a1' n1' k1') ∧ W.cell? ⟨g, m + 1 + q, none⟩ = some (.slice a0' n0' k0')) := Lib.hid (fun W hbW => ⟨cell_next hbW d1, cell_next hbW d0⟩)
                have HOi := Lib.hid (And.intro hei hoi)
                clear hrt hrd hrm hownr hwr x1 x0 hps1 hps0 hp1 hp0 hEq hrL hei hoi
                go_upto_region 11 with fail
                go_cut [49] (fun s49 wx => s49 = .bool (!decide (s1 = s0)) ∧ Below wr.heap.size wr wx)
                case first =>
                  go_region_held3 (fun W => W.cell? ⟨g, m + 1 + (q + 1), none⟩ = some (.slice a1' n1' k1') ∧ W.cell? ⟨g, m + 1 + q, none⟩ = some (.slice a0' n0' k0'))
                    (first | exact HCell2.out _ (later_refl _) | exact HCell2.out _ (later_drew _) | exact HCell2.out _ hbQ | assumption)
                    (first
                      | (go_at_fn F; refine (HEq2.out _ (later_drew _)).mono ?_; rintro e wQ ⟨rfl, hQ1⟩; have hbQ : Below wr.heap.size wr wQ := (later_trans (later_drew _) hQ1)))
                  all_goals (go_wp2_with fail)
                  all_goals go_meet
                  all_goals exact ⟨rfl, hbQ⟩
                case rest =>
                  obtain ⟨rfl, hbx⟩ := hcut
                  obtain ⟨d1, -⟩ := HCell2.out _ hbx
                  have hwx := HR.out.2.2.2.2.2.trans (Wrote.of_below (S := fun b => (Value.slice (some ⟨g, 0, none⟩) ps.length c).ownBlock = some b) hbx)
                  have hox := owns_later HR.out.2.2.2.2.1 hbx
                  obtain ⟨o1, o2⟩ := owns_cell (j := i) hox HOi.out.1
                  have HX := Lib.hid (And.intro hwx hox)
                  clear hbx hwx hox hw1
                  by_cases hee : s1 = s0
                  · rw [decide_eq_true hee]
                    have hon : onceP ps (m + 1 + (q + 1) + 1) = onceP ps (m + 1 + (q + 1)) := onceP_no (by rw [show m + 1 + (q + 1) - 1 = m + 1 + q from by omega, HP.out.1, HP.out.2.1, HP.out.2.2.1, HP.out.2.2.2.1]; exact hee.symm) (by omega)
                    have HN := Lib.hid hon
                    clear hee hon hs1 hs0
                    go_wp2_with fail
                    go_roundw
                    case rel =>
                      refine ⟨i, q + 1, row, by omega, by omega, rfl, by go_num, HR.out.1, ?_, fun j h1 h2 => HR.out.2.2.1 j (by omega) h2, HR.out.2.2.2.1, HX.out.2, HX.out.1⟩
                      show _ = onceP ps (m + 1 + (q + 1) + 1)
                      rw [HN.out]
                      exact HR.out.2.1
                    case measure => simp [intOf]; omega
                  · rw [decide_eq_false hee]
                    have hon : onceP ps (m + 1 + (q + 1) + 1) = onceP ps (m + 1 + (q + 1)) ++ [pN ps (m + 1 + (q + 1))] := onceP_yes (.inr (by rw [show m + 1 + (q + 1) - 1 = m + 1 + q from by omega, HP.out.1, HP.out.2.1, HP.out.2.2.1, HP.out.2.2.2.1]; exact fun e => hee e.symm))
                    have HN := Lib.hid hon
                    have HL2 := Lib.hid hlt2
                    clear hee hon hs1 hs0
                    go_wp2_with fail
                    have hpv : (pN ps (m + 1 + (q + 1))).1 = .slice a1' n1' k1' := by rw [HP.out.1]; exact HP.out.2.2.2.2
                    have hpm : pN ps (m + 1 + (q + 1)) ∈ ps := by rw [HP.out.1]; exact List.getElem_mem _
                    refine ⟨⟨i + 1, q + 1, row.set i (pN ps (m + 1 + (q + 1))), by omega, by omega, by go_num, by go_num, by simpa using HR.out.1, ?_, fun j h1 h2 => ?_, fun p hp => ?_, ?_, HX.out.1.set (b := g) rfl _⟩, ?_⟩
                    · show _ = onceP ps (m + 1 + (q + 1) + 1)
                      rw [HN.out, ← HR.out.2.1, List.take_succ_eq_append_getElem (by rw [List.length_set, HR.out.1]; omega), List.take_set]
                      congr 1
                      · apply List.set_eq_of_length_le; rw [List.length_take]; omega
                      · simp
                    · rw [List.getElem?_set_ne (by omega)]; exact HR.out.2.2.1 j (by omega) h2
                    · rcases List.mem_or_eq_of_mem_set hp with h | h
                      · exact HR.out.2.2.2.1 p h
                      · rw [h]; exact hpm
                    · rw [List.map_set, hpv]
                      exact owns_set HX.out.2 _
                    · simp [intOf]; have := HL2.out; omega
              · have hfin : m + 1 + (q + 1) = ps.length := by omega
                obtain ⟨zs, hzs⟩ := clear_rows hownr (i := i) (by omega) (c - i)
                have hil : i < ps.length := by omega
                have hic : i ≤ c := by omega
                have hsub : (ps.length : Int) - (i : Int) = ((ps.length - i : Nat) : Int) := by omega
                rw [hfin] at hrt
                have hfl : (onceP ps ps.length).length = i := by rw [← hrt]; simp; omega
                have HRT := Lib.hid (And.intro hrt (And.intro hfl (And.intro hownr (And.intro hwr hrm))))
                clear hrt hfl hrd hownr hfin hwr hrm
                go_wp2_with fail
                go_ret
                obtain ⟨ys, hown5, hys⟩ := owns_setCells zs i wr (row.map Prod.fst) HRT.out.2.2.1
                have h6 := owns_cut (m := i) hown5 (by omega)
                rw [Nat.mul_one, hys, ← List.map_take, HRT.out.1] at h6
                refine ⟨_, rfl, ⟨by rw [HRT.out.2.1]; exact h6, fun p hp => HO.out.1.rows p (HRT.out.2.2.2.2 p (List.mem_of_mem_take (by rw [HRT.out.1]; exact hp)))⟩, HRT.out.2.2.2.1.trans ?_⟩
                have hz := below_cells (B := g) (Nat.le_refl g) zs i wr
                exact ⟨hz.os, hz.tape, hz.output, hz.size, fun b hb hS => setCells_other _ _ _ (fun e => hS (by rw [e]; rfl))⟩
          · have heb : decide (r1 = r0) = false := decide_eq_false he
            have hnx : onceP ps (m + 1 + 1) = ps.take (m + 1 + 1) := by
              rw [onceP_yes (.inr (by rw [Nat.add_sub_cancel, HK.out.2.2.2.1, HK.out.2.2.2.2]; exact fun e => he e.symm)), HK.out.1, pN_at HK.out.2.2.1, ← List.take_succ_eq_append_getElem HK.out.2.2.1]
            have HN := Lib.hid (And.intro hnx hbW)
            rw [heb]
            clear hnx he heb hbx hbW
            go_wp2_with fail
            go_roundw
            case rel => first | exact ⟨m + 1 + 1, by omega, by omega, by go_num, HN.out.1, HN.out.2⟩ | ((repeat apply Exists.intro); refine ⟨?_, rfl⟩; exact ⟨m + 1 + 1, by omega, by omega, by go_num, HN.out.1, HN.out.2⟩)
            case measure => simp [intOf]; omega
      · have hml : m + 1 = ps.length := by omega
        have hx : onceP ps ps.length = ps := by rw [← hml, honce, hml, List.take_of_length_le (Nat.le_refl _)]
        have HX := Lib.hid (And.intro hx (And.intro (HO.out.1.later hb) hb))
        clear honce hb hx
        go_wp2_with fail
        go_ret
        rw [HX.out.1]
        exact ⟨_, rfl, HX.out.2.1, Wrote.of_below HX.out.2.2⟩
end Go.Proofs.Ytdeiinfljfgmeaa
