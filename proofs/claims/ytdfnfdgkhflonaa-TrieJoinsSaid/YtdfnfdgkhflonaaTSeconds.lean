/-
  run's Seconds, walked.
-/
import Derived.Test.YtdfnfdgkhflonaaTRunH
namespace Go.Proofs.Ytdfnfdgkhflonaa
open Go.RowKit
set_option linter.unusedVariables false

/-- Has a pair another first number? -/
def otherB (f : Int) (p : Pr) : Bool := p.a != f

set_option maxHeartbeats 1000000 in
theorem seconds1_any (f : Int) (p : Pr) (P : Nat) (W : World) (hP : W.heap[P]? = some (.cells #[.int .u64 f] 38 (0, 0))) :
    Calls Try.prog 98 #[.agg #[.int .u64 p.a, .int .u64 p.b], .pointer (some ⟨P, 0, none⟩)] W fun e w' => e = .returned (.bool (otherB f p)) ∧ Below W.heap.size W w' := by
  have p0 := box_cell (i := 0) hP
  simp at p0
  have hPl := lt_of_block hP
  go_enter Try.func98, Try.ntmps98
  go_wp2
  go_ret
  exact ⟨rfl, later_alloc W _⟩

set_option maxRecDepth 100000 in
set_option maxHeartbeats 1000000 in
theorem indexS_any (v : Value) (l : List Pr) (f : Int) (P : Nat) (w : World) (h : SlP w v l) (hP : w.heap[P]? = some (.cells #[.int .u64 f] 38 (0, 0))) :
    Calls Try.prog 97 #[v, .func (.func 98) #[] #[.pointer (some ⟨P, 0, none⟩)]] w fun e w' =>
      ((e = .returned (.int .i64 (-1)) ∧ ∀ j, (hj : j < l.length) → otherB f l[j] = false) ∨ (∃ i : Nat, ∃ hi : i < l.length, e = .returned (.int .i64 i) ∧ otherB f l[i] = true ∧ ∀ j, (hj : j < i) → otherB f l[j] = false)) ∧ Below w.heap.size w w' := by
  obtain ⟨a, c, rfl, h1, h2, h3, h4⟩ := h.open
  have HX := Lib.hid h4
  have hm : l.length ≤ 9223372036854775807 := by omega
  clear h h1 h2 h3 h4
  go_enter Try.func97, Try.ntmps97
  go_wp2
  go_loopw [8] (fun k wr => ∃ i : Nat, i ≤ l.length ∧ k = .int .i64 i ∧ (∀ j, j < i → (hj : j < l.length) → otherB f l[j] = false) ∧ Below w.heap.size w wr) (fun k _ => l.length - (intOf k).toNat)
  case atStart => exact ⟨0, Nat.zero_le _, rfl, fun j hj => by omega, later_refl w⟩
  case round =>
    obtain ⟨i, hi, rfl, hno, hb⟩ := hrel
    by_cases hlt : i < l.length
    · obtain ⟨bb, o, rfl, hbw, hcs⟩ := HX.out (by omega)
      obtain ⟨ha, hb2⟩ := hcs i hlt
      have ha := ((bcell hb).1 bb (o + i * 2) hbw).trans ha
      have hb2 := ((bcell hb).1 bb (o + i * 2 + 1) hbw).trans hb2
      obtain ⟨p, hp⟩ : ∃ p, l[i] = p := ⟨_, rfl⟩
      have HP := Lib.hid hp
      rw [hp] at ha hb2
      have HC := Lib.hid (seconds1_any f p P wr ((hb.block _ (lt_of_block hP)).trans hP))
      have HNO := Lib.hid hno
      clear hcs hp hno
      cases hcut : otherB f p with
      | true =>
        rw [hcut] at HC
        have HCU := Lib.hid hcut
        clear hcut
        go_wp2_with (go_at_call 98; refine HC.out.mono ?_; rintro e w2 ⟨rfl, hb3⟩)
        go_ret
        exact ⟨Or.inr ⟨i, hlt, rfl, by rw [HP.out]; exact HCU.out, fun j hj => HNO.out j hj (by omega)⟩, later_trans hb hb3⟩
      | false =>
        rw [hcut] at HC
        have HCU := Lib.hid hcut
        clear hcut
        go_wp2_with (go_at_call 98; refine HC.out.mono ?_; rintro e w2 ⟨rfl, hb3⟩)
        go_roundw
        case rel => exact ⟨i + 1, by omega, by go_num, fun j hj hj' => by
          by_cases e : j = i
          · subst e; rw [HP.out]; exact HCU.out
          · exact HNO.out j (by omega) hj', later_trans hb hb3⟩
        case measure => simp [intOf]; omega
    · go_wp2
      go_ret
      exact ⟨Or.inl ⟨rfl, fun j hj => hno j (by omega) hj⟩, hb⟩

theorem SlP.drop {w : World} {b o n c i : Nat} {ps : List Pr} (h : SlP w (.slice (some ⟨b, o, none⟩) n c) ps) (hi : i ≤ ps.length) : SlP w (.slice (some ⟨b, o + i * 2, none⟩) (ps.length - i) (c - i)) (ps.drop i) := by
  obtain ⟨⟨hl, a', c', e, h1, h2, h3, h4⟩, hw⟩ := h
  cases e
  have hlen : (ps.drop i).length = ps.length - i := by simp
  refine ⟨⟨by rw [flat_len Pr.len], some ⟨b, o + i * 2, none⟩, c - i, by rw [hlen], by rw [hlen]; omega, by omega, fun h => (by cases h), fun h0 => ⟨b, o + i * 2, rfl, ?_, fun j u hj => ?_⟩⟩, fun p hp => hw p (List.mem_of_mem_drop hp)⟩
  · obtain ⟨b', o', e', hlt, _⟩ := h4 (by rw [hlen] at h0; omega)
    cases e'; exact hlt
  · obtain ⟨b', o', e', hlt, hc⟩ := h4 (by rw [hlen] at h0; omega)
    cases e'
    rw [Nat.add_assoc]
    refine hc (i * 2 + j) u ?_
    have h5 := flat_take Pr.len ps i
    have h6 : ps.flatMap Pr.cells = (ps.take i).flatMap Pr.cells ++ (ps.drop i).flatMap Pr.cells := by rw [← List.flatMap_append, List.take_append_drop]
    have h7 : ((ps.take i).flatMap Pr.cells).length = i * 2 := by rw [flat_len Pr.len]; simp; omega
    rw [h6, List.getElem?_append_right (by omega), h7, Nat.add_sub_cancel_left]
    exact hj

theorem SlP.tight {w : World} {a : Option Addr} {n c : Nat} {ps : List Pr} (h : SlP w (.slice a n c) ps) : SlP w (.slice a n n) ps := by
  obtain ⟨⟨hl, a', c', e, h1, h2, h3, h4⟩, hw⟩ := h
  cases e
  exact ⟨⟨hl, a, ps.length, rfl, Nat.le_refl _, by omega, fun h => by have := h3 h; omega, h4⟩, hw⟩

/-- The second numbers of a first one. -/
def secL (l : List Pr) (a : Int) : List Int := (l.filter (fun p => p.a == a)).map Pr.b
theorem sec_cut {l : List Pr} {a : Int} {i m : Nat} (hr : PairsTo l l.length) (hw : ∀ p ∈ l, p.wf) (hp : PlaceOk l ⟨a, 0⟩ i) (hm : m ≤ (l.drop i).length) (hno : ∀ j, j < m → (hj : j < (l.drop i).length) → otherB a (l.drop i)[j] = false) (hy : (hm : m < (l.drop i).length) → otherB a (l.drop i)[m] = true) :
    secL l a = ((l.drop i).take m).map Pr.b := by
  unfold secL
  congr 1
  have e : l = l.take i ++ ((l.drop i).take m ++ (l.drop i).drop m) := by rw [List.take_append_drop, List.take_append_drop]
  have hnn : ∀ p ∈ l, 0 ≤ p.b := fun p hp => (wf_u64 (hw p hp).2).1
  have hpl := hp.1
  simp at hm
  have h1 : (l.take i).filter (fun p => p.a == a) = [] := by
    rw [List.filter_eq_nil_iff]
    intro p hpm
    obtain ⟨j, hj, rfl⟩ := List.getElem_of_mem hpm
    simp at hj
    have h2 := hp.2.1 j (by omega) (by omega)
    have h3 := hnn l[j] (List.getElem_mem _)
    unfold Ahd at h2
    simp at h2 ⊢
    omega
  have h2 : ((l.drop i).take m).filter (fun p => p.a == a) = (l.drop i).take m := by
    rw [List.filter_eq_self]
    intro p hpm
    obtain ⟨j, hj, rfl⟩ := List.getElem_of_mem hpm
    simp at hj
    have := hno j (by omega) (by simp; omega)
    simpa [otherB] using this
  have h3 : ((l.drop i).drop m).filter (fun p => p.a == a) = [] := by
    rw [List.filter_eq_nil_iff]
    intro p hpm
    obtain ⟨j, hj, rfl⟩ := List.getElem_of_mem hpm
    simp at hj
    have hyy := hy (by simp; omega)
    have h4 := hp.2.2 (i + m) (by omega) (by omega)
    have h5 := hnn l[i + m] (List.getElem_mem _)
    simp [otherB] at hyy
    unfold Ahd at h4
    simp at h4
    simp only [List.getElem_drop]
    have h6 : l[i + m].a ≤ l[i + (m + j)].a := by
      by_cases e0 : j = 0
      · subst e0; simp
      · have := run_lt hr (show i + m < i + (m + j) by omega) (by omega)
        unfold Ahd at this
        omega
    simp
    omega
  conv => lhs; rw [e]
  rw [List.filter_append, List.filter_append, h1, h2, h3]
  simp

set_option maxRecDepth 100000 in
set_option maxHeartbeats 2000000 in
theorem seconds_any (v : Value) (l : List Pr) (f : Int) (w : World) (h : SlP w v l) (hr : RunOk l) :
    Calls Try.prog 53 #[v, .int .u64 f] w fun e w' => ∃ v', e = .returned v' ∧ w'.ownsRow w.heap.size 38 1 v' (secL l f).length ((secL l f).map (.int .u64)) ∧ Below w.heap.size w w' := by
  have hl := hr.1
  have HS := Lib.hid h
  have HR := Lib.hid hr
  have HC := Lib.hid (fun V (hV : Below w.heap.size w V) => (runCheck_any v l V (h.later hV)).mono (R' := fun e w' => e = .returned (.int .i64 0) ∧ Below V.heap.size V w') (by rintro e w' ⟨rfl, h⟩; exact ⟨by rw [if_pos hr], h⟩))
  have HP := Lib.hid (fun V (hV : Below w.heap.size w V) => place_any v l ⟨f, 0⟩ V (h.later hV) hr.2 (by omega))
  obtain ⟨a, c, rfl, h1, h2, h3, h4⟩ := h.open
  have HX := Lib.hid h4
  have h2x := h3
  obtain ⟨W, hW⟩ : ∃ W, w.alloc (.cells #[.int .u64 f] 38) = W := ⟨_, rfl⟩
  obtain ⟨K, hKe⟩ : ∃ K, w.heap.size = K := ⟨_, rfl⟩
  have hbW : Below w.heap.size w W := by rw [← hW]; exact later_alloc w _
  have hKb : W.heap[K]? = some (.cells #[.int .u64 f] 38 (0, 0)) := by rw [← hW, ← hKe]; exact box_new w _ _
  have k0 := box_cell (i := 0) hKb
  simp at k0
  clear h hr h3 h4
  go_enter Try.func53, Try.ntmps53
  go_wp2_with fail
  refine (HC.out _ hbW).mono ?_
  rintro e w1 ⟨rfl, hb1⟩
  have hb01 := later_trans hbW hb1
  have hK1 := (hb1.block _ (lt_of_block hKb)).trans hKb
  clear k0
  have k0 := box_cell (i := 0) hK1
  simp at k0
  go_wp2_with fail
  refine (HP.out _ hb01).mono ?_
  rintro e w2 ⟨i, rfl, hpo, hb2⟩
  have hb02 := later_trans hb01 hb2
  have hK2 := (hb2.block _ (lt_of_block hK1)).trans hK1
  have hil := hpo.1
  have hic : i ≤ c := by omega
  have HPO := Lib.hid hpo
  clear k0 hpo
  by_cases hci : c = i
  · have hlc : l.length = i := by omega
    have s9 : SlP w2 (.slice a 0 0) [] := ⟨⟨by simp, a, 0, by simp, by simp, by simp [maxLen], fun _ => rfl, fun h => by simp at h⟩, fun p hp => by cases hp⟩
    have hnil : l.drop i = [] := List.drop_of_length_le (by omega)
    have hsec := sec_cut (m := 0) HR.out.2 HS.out.2 HPO.out (Nat.zero_le _) (fun j hj => by omega) (fun h => by rw [hnil] at h; simp at h)
    have HSEC := Lib.hid (show secL l f = [] from by rw [hsec]; rfl)
    have hli : (l.length : Int) - (i : Int) = 0 := by omega
    have hci2 : (c : Int) - (i : Int) = 0 := by omega
    have hli2 : l.length - i = 0 := by omega
    have hci3 : c - i = 0 := by omega
    clear hnil hsec hlc
    go_wp2_with fail
    refine (indexS_any _ [] f K w2 s9 hK2).mono ?_
    rintro e w3 ⟨he, hb3⟩
    have s3 := Lib.hid (s9.later hb3)
    have hb03 := later_trans hb02 hb3
    rcases he with ⟨rfl, hno⟩ | ⟨j, hj, -⟩
    · clear hno
      go_wp2_with fail
      refine (secondsG_any _ [] _ s3.out (by simp)).mono ?_
      rintro e w4 ⟨v4, rfl, ho, hb4⟩
      go_wp2_with fail
      go_ret
      rw [HSEC.out]
      subst hKe
      exact ⟨_, rfl, owns_down ho hb03.size, later_trans hb03 hb4⟩
    · simp at hj
  · obtain ⟨aV, haV⟩ : ∃ aV, Option.map (fun (x : Addr) => x.add (i * 2)) a = aV := ⟨_, rfl⟩
    have s9 : SlP w2 (.slice aV (l.length - i) (c - i)) (l.drop i) := by
      rw [← haV]
      by_cases h0 : 0 < l.length
      · obtain ⟨bb, o, rfl, hbw, hcs⟩ := HX.out h0
        have := SlP.drop (HS.out.later hb02) hil
        simpa [add_mk] using this
      · obtain rfl : l = [] := List.eq_nil_of_length_eq_zero (by omega)
        simp at hil
        subst hil
        refine ⟨⟨by simp, _, c - 0, rfl, by simp, by simp [maxLen]; omega, fun h => ?_, fun h => by simp at h⟩, fun p hp => by simp at hp⟩
        cases a with
        | none => have := h2x rfl; omega
        | some ad => cases h
    go_wp2_with fail
    refine (indexS_any _ (l.drop i) f K w2 s9 hK2).mono ?_
    rintro e w3 ⟨he, hb3⟩
    have s3 := s9.later hb3
    have hb03 := later_trans hb02 hb3
    have hdl : (l.drop i).length = l.length - i := by simp
    rcases he with ⟨rfl, hno⟩ | ⟨j, hj, rfl, hyes, hno⟩
    · have HSEC := Lib.hid (sec_cut (m := (l.drop i).length) HR.out.2 HS.out.2 HPO.out (Nat.le_refl _) (fun j _ hj => hno j hj) (fun h => absurd h (Nat.lt_irrefl _)))
      have HCUT := Lib.hid (SlP.cut s3 (m := (l.drop i).length) (Nat.le_refl _))
      rw [hdl] at HCUT HSEC
      clear hno s3 hdl
      have hle : l.length - i ≤ c - i := by omega
      go_wp2_with fail
      refine (secondsG_any _ ((l.drop i).take (l.length - i)) _ (SlP.tight HCUT.out) (by simp; omega)).mono ?_
      rintro e w4 ⟨v4, rfl, ho, hb4⟩
      go_wp2_with fail
      go_ret
      rw [HSEC.out]
      subst hKe
      exact ⟨_, rfl, owns_down ho hb03.size, later_trans hb03 hb4⟩
    · have HSEC := Lib.hid (sec_cut (m := j) HR.out.2 HS.out.2 HPO.out (by omega) (fun k hk _ => hno k hk) (fun _ => hyes))
      have HCUT := Lib.hid (SlP.cut s3 (m := j) (by omega))
      clear hno hyes s3
      rw [hdl] at hj
      have hjc : j ≤ c - i := by omega
      have hjn : ¬ (j : Int) < 0 := by omega
      go_wp2_with fail
      refine (secondsG_any _ ((l.drop i).take j) _ (SlP.tight HCUT.out) (by simp; omega)).mono ?_
      rintro e w4 ⟨v4, rfl, ho, hb4⟩
      go_wp2_with fail
      go_ret
      rw [HSEC.out]
      subst hKe
      exact ⟨_, rfl, owns_down ho hb03.size, later_trans hb03 hb4⟩
end Go.Proofs.Ytdfnfdgkhflonaa
