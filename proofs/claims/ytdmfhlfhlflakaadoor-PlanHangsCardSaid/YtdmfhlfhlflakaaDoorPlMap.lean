/-
  A map from int to int that says which numbers there are; plan.orders, meets, Orders, walked.
-/
import Derived.Maps.OwnSet
import Derived.Test.YtdmfhlfhlflakaaDoorPlCov
namespace Go.Proofs.YtdmfhlfhlflakaaDoor
open Go.RowKit Go.Maps
set_option linter.unusedVariables false

theorem lawI : Keyed Tryd.prog 3 := int_keyed Tryd.underlying3
theorem zeroI (w : World) : (zeroValue 3).run Tryd.prog w = .ok (.int .i64 0) w := by kernel_rfl
abbrev i64 (n : Int) : DataW Unit := .lit (.int .i64 n)
/-- Is it among them? 1 or 0. -/
def inI (l : List Int) (x : Int) : Int := if x ∈ l then 1 else 0
/-- Block b is a map, 1 at just the numbers of l. -/
def MpI (w : World) (b n : Nat) (l : List Int) : Prop :=
  ∃ D : DataW Unit, w.ownsMap Tryd.prog 3 (plainElem Tryd.prog 3) b n D ∧ ∀ x, (Lit.int .i64 x).wf = true → D.atKey (.int .i64 x) (i64 0) = i64 (inI l x)
theorem MpI.later {w w' : World} {b n : Nat} {l : List Int} (h : MpI w b n l) (hb : Below w.heap.size w w') : MpI w' b n l := by
  obtain ⟨D, h1, h2⟩ := h
  refine ⟨D, ?_, h2⟩
  obtain ⟨es, clock, hh, r⟩ := h1
  exact ⟨es, clock, (hb.block _ (lt_of_block hh)).trans hh, r⟩
theorem MpI.made (w : World) : MpI (w.alloc (.map #[] 0)) w.heap.size 0 [] := ⟨.map [], World.ownsMap_made _ _ _ _, fun x hx => rfl⟩
theorem MpI.lt {w : World} {b n : Nat} {l : List Int} (h : MpI w b n l) : b < w.heap.size := by obtain ⟨D, h1, -⟩ := h; exact h1.lt
theorem MpI.mono {w : World} {b n n' : Nat} {l : List Int} (h : MpI w b n l) (hn : n ≤ n') : MpI w b n' l := by obtain ⟨D, h1, h2⟩ := h; exact ⟨D, h1.mono hn, h2⟩
theorem i64_inj {a b : Int} (h : (i64 a : DataW Unit) = i64 b) : a = b := by
  simpa using h
theorem MpI.look {w : World} {b n : Nat} {l : List Int} (h : MpI w b n l) {x : Int} (hx : (Lit.int .i64 x).wf = true) : (Instr.lookup 69 (.map (some b)) (.int .i64 x) false).run Tryd.prog w = .ok (.int .i64 (inI l x)) w := by
  obtain ⟨D, h1, h2⟩ := h
  obtain ⟨c, hrun, hat, -⟩ := h1.lookup_int lawI Tryd.underlying69 Tryd.underlying3 (zeroI _) (keyOf_int_mk Tryd.underlying3 hx)
  rw [hrun]
  have := (h2 x hx).symm.trans hat
  rw [i64_inj this]
theorem MpI.put {w w' : World} {b n : Nat} {l : List Int} {x : Int} {D : DataW Unit} (h2 : ∀ x, (Lit.int .i64 x).wf = true → D.atKey (.int .i64 x) (i64 0) = i64 (inI l x)) (hx : (Lit.int .i64 x).wf = true)
    (hm : w.ownsMap Tryd.prog 3 (plainElem Tryd.prog 3) b n D) (h1 : w'.ownsMap Tryd.prog 3 (plainElem Tryd.prog 3) b (n + 1) (D.put (.int .i64 x) (i64 1))) : MpI w' b (n + 1) (l ++ [x]) := by
  refine ⟨_, h1, fun y hy => ?_⟩
  by_cases e : y = x
  · subst e
    rw [atKey_put_same (by obtain ⟨es, clock, _, _, _, hD⟩ := hm; exact ⟨_, hD⟩) (by trivial)]
    unfold inI
    rw [if_pos (by simp)]
  · rw [atKey_put_other (by simpa using e), h2 y hy]
    unfold inI
    by_cases h : y ∈ l
    · rw [if_pos h, if_pos (by simp [h])]
    · rw [if_neg h, if_neg (by simp [h, e])]
theorem inI_one {l : List Int} {x : Int} : (inI l x == 1) = decide (x ∈ l) := by
  unfold inI
  by_cases h : x ∈ l
  · rw [if_pos h, decide_eq_true h]; rfl
  · rw [if_neg h, decide_eq_false h]; rfl

/-- meets: has a row one of some? -/
def meetsB (l e : List Int) : Bool := e.any fun x => decide (x ∈ l)
theorem met1_any {x b n : Nat} {l : List Int} {v : Int} {W : World} (h : W.heap[x]? = some (.cells #[.map (some b)] 69 (0, 0))) (hm : MpI W b n l) (hv : (Lit.int .i64 v).wf = true) :
    Calls Tryd.prog 119 #[.int .i64 v, .pointer (some ⟨x, 0, none⟩)] W fun e w' => e = .returned (.bool (decide (v ∈ l))) ∧ w' = W := by
  have c0 : W.cell? ⟨x, 0, none⟩ = some (.map (some b)) := by simpa using box_cell (i := 0) h
  have hL := hm.look hv
  have hI := inI_one (l := l) (x := v)
  generalize inI l v = q at *
  rw [← hI]
  clear hI h hm
  go_enter Tryd.func119, Tryd.ntmps119
  go_wp2
  go_ret
  exact ⟨rfl, rfl⟩
theorem meets_any (v : Value) (xs : List Int) (b n : Nat) (l : List Int) (w : World) (h : SlI .i64 w v xs) (hm : MpI w b n l) :
    Calls Tryd.prog 104 #[v, .map (some b)] w fun e w' => e = .returned (.bool (meetsB l xs)) ∧ Below w.heap.size w w' := by
  have hE : Enters 119 := enters_of Tryd.func119 (by kernel_rfl) rfl
  have hb0 := later_alloc w (.cells #[.map (some b)] 69)
  have hC : Calls Tryd.prog 46 #[v, .func (.func 119) #[] #[.pointer (some ⟨w.heap.size, 0, none⟩)]] (w.alloc (.cells #[.map (some b)] 69)) fun e w' => e = .returned (.bool (meetsB l xs)) ∧ Below (w.alloc (.cells #[.map (some b)] 69)).heap.size (w.alloc (.cells #[.map (some b)] 69)) w' :=
    ContainsFunc_any hE (h.later hb0) fun x hx W hb => (met1_any (kept hb (box_new w _ _)) ((hm.later hb0).later hb) (h.2 x hx)).mono fun e w' ⟨he, hw⟩ => ⟨he, by rw [hw]; exact Below.refl _ _⟩
  have HC := Lib.hid hC
  obtain ⟨a, c, rfl, -⟩ := h.open
  clear h hC hE hb0 hm
  go_enter Tryd.func104, Tryd.ntmps104
  go_wp2_with fail
  refine HC.out.mono ?_
  rintro e w' ⟨rfl, hb⟩
  go_wp2_with fail
  go_ret
  exact ⟨rfl, below_new hb⟩

/-- May a number stand at a place of an order? -/
def ordAt (m : Int) (o : List Int) (i : Nat) : Bool := decide (0 ≤ o.getD i 0) && (decide (o.getD i 0 < m) && !decide (o.getD i 0 ∈ o.take i))
def ordersB (m : Int) (o : List Int) : Bool := (List.range o.length).all (ordAt m o) && decide ((o.length : Int) = m)

set_option maxRecDepth 100000 in
set_option maxHeartbeats 2000000 in
theorem orders_any (m : Int) (ev sv v : Value) (o : List Int) (w : World) (he : ∃ a n c, ev = .slice a n c) (hs : ∃ a n c, sv = .slice a n c) (ho : SlI .i64 w v o) :
    Calls Tryd.prog 61 #[shpV m ev sv, v] w fun e w' => e = .returned (.bool (ordersB m o)) ∧ Below w.heap.size w w' := by
  have hmm := @run_makeMap Tryd.prog
  obtain ⟨ae, ne, ce, rfl⟩ := he
  obtain ⟨az, nz, cz, rfl⟩ := hs
  have hol := ho.len
  unfold maxLen at hol
  have HO := Lib.hid ho
  obtain ⟨a, c, rfl, -⟩ := ho.open
  clear ho
  go_enter Tryd.func61, Tryd.ntmps61
  go_wp2_with fail
  have hm0 := MpI.made (w.alloc (.cells #[.int .i64 m, .slice ae ne ce, .slice az nz cz] 27))
  rw [World.size_alloc] at hm0
  have hS0 := box_alloc (box_new w #[.int .i64 m, .slice ae ne ce, .slice az nz cz] 27) (.map #[] 0)
  have H0 := Lib.hid (And.intro hm0 hS0)
  clear hm0 hS0
  go_loopw [11] (fun i wr => ∃ k : Nat, k ≤ o.length ∧ i = .int .i64 k ∧ (∀ j, j < k → ordAt m o j = true) ∧ MpI wr (w.heap.size + 1) k (o.take k) ∧ SB wr w.heap.size m (.slice ae ne ce) (.slice az nz cz) ∧ Below w.heap.size w wr) (fun i _ => o.length - (intOf i).toNat)
  case atStart => exact ⟨0, Nat.zero_le _, rfl, fun j hj => by omega, H0.out.1, H0.out.2, later_trans (later_alloc w _) (later_alloc _ _)⟩
  case round =>
    obtain ⟨k, hk, rfl, hs, hm, hS, hb⟩ := hrel
    have s0 : wr.cell? ⟨w.heap.size, 0, none⟩ = some (.int .i64 m) := by simpa using box_cell (i := 0) hS
    have H := Lib.hid (And.intro hs (And.intro hm (And.intro hS hb)))
    by_cases hlt : k < o.length
    · obtain ⟨_, _, e1, _, _, _, f4⟩ := (HO.out.later hb).open
      obtain ⟨bo, oo, e2, hbo, fc⟩ := f4 (by omega)
      injection e1 with e1a e1b e1c
      subst e1a
      subst e2
      have c1 := fc k hlt
      rw [← getD_at hlt] at c1
      have hwf : (Lit.int .i64 (o.getD k 0)).wf = true := HO.out.2 _ (by rw [getD_at hlt]; exact List.getElem_mem hlt)
      have hL := hm.look hwf
      have hI := inI_one (l := o.take k) (x := o.getD k 0)
      have hord : ordAt m o k = (decide (0 ≤ o.getD k 0) && (decide (o.getD k 0 < m) && !decide (o.getD k 0 ∈ o.take k))) := rfl
      obtain ⟨v, hv⟩ : ∃ v, o.getD k 0 = v := ⟨_, rfl⟩
      rw [hv] at c1 hwf hL hI hord
      obtain ⟨q, hq⟩ : ∃ q, inI (o.take k) v = q := ⟨_, rfl⟩
      rw [hq] at hL hI
      have hbad : ordAt m o k = false → Hid (ordersB m o = false) := fun h => Lib.hid (by
        unfold ordersB
        rw [cover_no hlt h, Bool.false_and])
      have HV := Lib.hid (And.intro hv hlt)
      clear f4 fc e1b e1c hs hm hS hb hv hq
      by_cases h1 : 0 ≤ v
      · by_cases h2 : v < m
        · by_cases h3 : v ∈ o.take k
          · have hq1 : (q == 1) = true := by rw [hI, decide_eq_true h3]
            have HB := hbad (by rw [hord, decide_eq_true h3, decide_eq_true h2, Bool.not_true, Bool.and_false, Bool.and_false])
            clear hbad hord hI h3
            go_wp2_with fail
            go_ret
            exact ⟨ret_bool HB.out.symm, H.out.2.2.2⟩
          · have hq1 : (q == 1) = false := by rw [hI, decide_eq_false h3]
            have HY := Lib.hid (show ordAt m o k = true by rw [hord, decide_eq_false h3, decide_eq_true h1, decide_eq_true h2]; rfl)
            have hkm : k < maxLen := by unfold maxLen; omega
            obtain ⟨D, hD1, hD2⟩ := H.out.2.1
            clear hbad hord hI h3
            go_wp2_with (at_mapUpdate; refine wpList_mapUpdate_own _ rfl _ _ _ 69 rfl 3 3 lawI Tryd.underlying69 _ (w.heap.size + 1) k D rfl hD1 hkm _ _ _ rfl rfl (keyOf_int_mk Tryd.underlying3 hwf) _ [] (plainElem_int Tryd.underlying3 (by decide)) ?_; intro w1 hown1 hgrow1)
            have hm1 := MpI.put hD2 hwf hD1 hown1
            have HM1 := Lib.hid (And.intro hm1 hgrow1)
            clear hD2 hm1 hgrow1 hown1
            go_roundw
            case rel => exact ⟨k + 1, HV.out.2, by go_num, fun j hj => by
              by_cases e : j = k
              · subst e; exact HY.out
              · exact H.out.1 j (by omega), by rw [List.take_succ_eq_append_getElem HV.out.2, ← getD_at HV.out.2, HV.out.1]; exact HM1.out.1, (HM1.out.2.block _ (lt_of_block H.out.2.2.1) (by simp)).trans H.out.2.2.1, H.out.2.2.2.grown HM1.out.2 H.out.2.2.2.size (fun k e => by cases e; omega)⟩
            case measure => simp [intOf]; try omega
        · have HB := hbad (by rw [hord, decide_eq_false h2, Bool.false_and, Bool.and_false])
          clear hbad hord hI
          go_wp2_with fail
          go_ret
          exact ⟨ret_bool HB.out.symm, H.out.2.2.2⟩
      · have HB := hbad (by rw [hord, decide_eq_false h1, Bool.false_and])
        clear hbad hord hI
        go_wp2_with fail
        go_ret
        exact ⟨ret_bool HB.out.symm, H.out.2.2.2⟩
    · have hall : (List.range o.length).all (ordAt m o) = true := cover_yes fun j hj => hs j (by omega)
      have HA : Hid (ordersB m o = ((o.length : Int) == m)) := Lib.hid (by
        unfold ordersB
        rw [hall, Bool.true_and]
        by_cases e : (o.length : Int) = m
        · rw [decide_eq_true e]; exact (beq_iff_eq.2 e).symm
        · rw [decide_eq_false e]; exact (beq_eq_false_iff_ne.2 e).symm)
      clear hs hm hS hb hall
      go_wp2_with fail
      go_ret
      exact ⟨ret_bool HA.out.symm, H.out.2.2.2⟩
end Go.Proofs.YtdmfhlfhlflakaaDoor
