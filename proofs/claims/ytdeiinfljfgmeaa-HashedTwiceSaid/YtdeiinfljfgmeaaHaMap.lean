/-
  hashed.hashed, walked: rows by what they have in columns.
-/
import Derived.Deep.AppendLies
import Derived.Test.YtdeiinfljfgmeaaHaGrp
namespace Go.Proofs.Ytdeiinfljfgmeaa
open Go.RowKit Go.Maps Go.WideMaps
set_option linter.unusedVariables false
set_option linter.unusedSimpArgs false

theorem lawS : Keyed Try.prog 9 := string_keyed Try.underlying9
theorem zeroRows (w : World) : (zeroValue 23).run Try.prog w = .ok (.slice none 0 0) w := by kernel_rfl
/-- What stands at a key. -/
theorem GrpW.at_ {w0 W : World} {base : Nat} {rows : List (List Int)} {o : List Int} {f : Lit → Option Value} (h : GrpW w0 base rows o f W) (L : List UInt8) :
    ∃ vs, OldRows w0 base W ((f (.string L)).getD (.slice none 0 0)) vs (grpL rows o L) ∧ ∀ g, ((f (.string L)).getD (.slice none 0 0)).ownBlock = some g → ∃ v, f (.string L) = some v ∧ v.ownBlock = some g := by
  by_cases q : grpL rows o L = []
  · rw [h.no L q, q]
    exact ⟨[], ⟨World.ownsRow_nil _ _ _ _, rfl, fun r hr => by simp at hr⟩, fun g e => by cases e⟩
  · obtain ⟨v, vs, g, e1, e2, e3, e4⟩ := h.has L q
    rw [e1]
    exact ⟨vs, e4, fun g' e => ⟨v, rfl, e⟩⟩
theorem owns_not_map {w : World} {base b : Nat} {e : TypeId} {size n : Nat} {v : Value} {xs : List Value} (h : w.ownsRow base e size v n xs) (hm : ∃ es c, w.heap[b]? = some (.map es c)) : some b ≠ v.ownBlock := by
  intro q
  obtain ⟨es, c, hm⟩ := hm
  rcases h.2 with ⟨rfl, -⟩ | ⟨g, cap, cur, rfl, hb, hg, -⟩
  · cases q
  · have e : b = g := by simpa [Value.ownBlock] using q
    subst e
    rw [hm] at hg
    cases hg
/-- A write into a map leaves the groups. -/
theorem GrpW.grown {w0 W W' : World} {base b : Nat} {rows : List (List Int)} {o : List Int} {f : Lit → Option Value} (h : GrpW w0 base rows o f W) (hm : ∃ es c, W.heap[b]? = some (.map es c)) (hg : W.grownBy W' (some b)) : GrpW w0 base rows o f W' := by
  refine ⟨h.no, fun s hs => ?_, h.apart⟩
  obtain ⟨v, vs, g, e1, e2, e3, e4⟩ := h.has s hs
  have hne : some g ≠ some b := fun q => owns_not_map e4.own hm (by rw [e2, q])
  exact ⟨v, vs, g, e1, e2, Nat.lt_of_lt_of_le e3 hg.size, ⟨owns_same e4.own e2 (hg.block g e3 hne), e4.len, e4.rows⟩⟩
/-- The map of rows. -/
def HashB (w0 : World) (base b : Nat) (rows : List (List Int)) (o : List Int) (W : World) : Prop :=
  ∃ f n, MpV Try.prog 9 W b n f ∧ GrpW w0 base rows o f W ∧ Below w0.heap.size w0 W
theorem HashB.later {w0 W W' : World} {base b : Nat} {rows : List (List Int)} {o : List Int} (h : HashB w0 base b rows o W) (hb : Below W.heap.size W W') : HashB w0 base b rows o W' := by
  obtain ⟨f, n, h1, h2, h3⟩ := h
  exact ⟨f, n, h1.later hb, h2.later hb, later_trans h3 hb⟩
theorem HashB.look {w0 W : World} {base b : Nat} {rows : List (List Int)} {o : List Int} (h : HashB w0 base b rows o W) (L : List UInt8) (hL : L.length ≤ maxLen) :
    ∃ v vs, (Instr.lookup 75 (.map (some b)) (.string ⟨L.toArray⟩) false).run Try.prog W = .ok v W ∧ OldRows w0 base W v vs (grpL rows o L) := by
  obtain ⟨f, n, h1, h2, h3⟩ := h
  obtain ⟨vs, hO, -⟩ := h2.at_ L
  exact ⟨_, vs, h1.look lawS Try.underlying75 (zeroRows W) (keyOf_string_mk Try.underlying9 (s := ⟨L.toArray⟩) (by simpa [ByteArray.size] using hL)), hO⟩
set_option maxRecDepth 100000 in
set_option maxHeartbeats 2000000 in
theorem hashed_any (v va : Value) (rs : List (List Int)) (o : List Int) {w0 : World} (w : World) (h : SlRK .u64 w0 v rs) (hb0 : Below w0.heap.size w0 w) (ho : SlI .i64 w va o) (hl : o.length ≤ 1048576) (hrl : rs.length ≤ 1048576) (hin : ∀ r ∈ rs, ∀ x ∈ o, 0 ≤ x ∧ x < r.length) :
    Calls Try.prog 49 #[v, va] w fun e w' => ∃ b, e = .returned (.map (some b)) ∧ w.heap.size ≤ b ∧ HashB w0 w.heap.size b rs o w' ∧ Below w.heap.size w w' := by
  have hmm := @run_makeMap Try.prog
  obtain ⟨i0, hi, hz0, hz1, hz2⟩ := info_parts info_rowU
  have H := Lib.hid (And.intro h (And.intro ho (And.intro hl (And.intro hrl (And.intro hin hb0)))))
  obtain ⟨a, c, rfl, -⟩ := h.open
  obtain ⟨ao, co, rfl, -⟩ := ho.open
  clear h ho hin hl hrl hb0
  go_enter Try.func49, Try.ntmps49
  go_wp2_with fail
  have H0 := Lib.hid (MpV.made Try.prog 9 w)
  go_loopw [12] (fun i wr => ∃ (k : Nat) (f : Lit → Option Value), k ≤ rs.length ∧ i = .int .i64 k ∧ MpV Try.prog 9 wr w.heap.size k f ∧ GrpW w0 w.heap.size (rs.take k) o f wr ∧ Below w.heap.size w wr) (fun i _ => rs.length - (intOf i).toNat)
  case atStart => exact ⟨0, _, Nat.zero_le _, rfl, H0.out, GrpW.nil _ _ _ _, later_alloc w _⟩
  case round =>
    obtain ⟨k, f, hk, rfl, hm, hG, hb⟩ := hrel
    by_cases hlt : k < rs.length
    · obtain ⟨_, _, e1, _, _, _, g4⟩ := H.out.1.open
      obtain ⟨be, oe, e2, _, gc⟩ := g4 (by omega)
      obtain ⟨rv, ce0, hrv⟩ := gc k hlt
      injection e1 with e1a e1b e1c
      subst e1a e1c
      subst e2
      have hb00 := later_trans H.out.2.2.2.2.2 hb
      have ce1 := cell_next hb00 ce0
      have hone := old_oneCell hrv
      have hCe := cells_any rv _ (rowN rs k) o wr (SlI.later hrv hb00) (SlI.later H.out.2.1 hb) H.out.2.2.1 (H.out.2.2.2.2.1 _ (by rw [rowN_at hlt]; exact List.getElem_mem hlt))
      have hst : rs.take (k + 1) = rs.take k ++ [rowN rs k] := by rw [List.take_succ_eq_append_getElem hlt, ← rowN_at hlt]
      have hk20 : k ≤ 1048576 := by have := H.out.2.2.2.1; omega
      have hkm : k < maxLen := by unfold maxLen; omega
      have hck : ∀ x ∈ cellsL (rowN rs k) o, (Lit.int .u64 x).wf = true := fun x hx => by
        obtain ⟨i, hi, rfl⟩ := List.mem_map.1 hx
        have hir := H.out.2.2.2.2.1 (rowN rs k) (by rw [rowN_at hlt]; exact List.getElem_mem hlt) i hi
        have hil : i.toNat < (rowN rs k).length := by omega
        rw [getD_at hil]
        exact hrv.2 _ (List.getElem_mem hil)
      obtain ⟨r, hr⟩ : ∃ r, rowN rs k = r := ⟨_, rfl⟩
      rw [hr] at hCe hst hck hrv
      have HC := Lib.hid hCe
      have HK := Lib.hid (And.intro hm (And.intro hG (And.intro hb (And.intro hrv (And.intro hst (And.intro hlt hck))))))
      obtain ⟨ar, cr, rfl, -⟩ := hrv.open
      clear gc g4 e1b hm hG hb hrv hst hCe hck ce0 hr hb00
      go_wp2_with fail
      refine HC.out.mono ?_
      rintro e w2 ⟨vc, rfl, own2, b2⟩
      have hKey := key_any vc (cellsL r o) w2 (SlI.of_owns own2 HK.out.2.2.2.2.2.2) (by rw [cellsL, List.length_map]; exact H.out.2.2.1)
      have hKl : (keyL (cellsL r o)).length ≤ maxLen := by
        rw [keyL_len, cellsL, List.length_map]
        have := H.out.2.2.1
        unfold maxLen
        omega
      have HKey := Lib.hid hKey
      have H2 := Lib.hid b2
      clear own2 b2 hKey
      go_wp2_with fail
      refine HKey.out.mono ?_
      rintro e w3 ⟨rfl, b3⟩
      have b13 := later_trans H2.out b3
      have hm3 := HK.out.1.later b13
      have hG3 := HK.out.2.1.later b13
      have hbw := later_trans HK.out.2.2.1 b13
      have hsz := hbw.size
      have hnext := fun (W' : World) (g' : Nat) (own : Option Nat) (v' : Value) (vs' : List Value) => GrpW.next (r := r) (W' := W') (g' := g') (own := own) (v' := v') (vs' := vs') hG3
      obtain ⟨L, hL⟩ : ∃ L, keyL (cellsL r o) = L := ⟨_, rfl⟩
      rw [hL] at hKl hnext ⊢
      have hkey : keyOf Try.prog 9 (.string ⟨L.toArray⟩) = some (.string L) := keyOf_string_mk Try.underlying9 (s := ⟨L.toArray⟩) (by simpa [ByteArray.size] using hKl)
      have hlook := hm3.look lawS Try.underlying75 (zeroRows w3) hkey
      obtain ⟨vs, hO, hOg⟩ := hG3.at_ L
      obtain ⟨u, hu⟩ : ∃ u, (f (.string L)).getD (.slice none 0 0) = u := ⟨_, rfl⟩
      rw [hu] at hlook hO hOg
      have hvl : vs.length ≤ k := by rw [hO.len]; exact Nat.le_trans (List.length_filter_le _ _) (by rw [List.length_take]; omega)
      have hne := owns_not_map hO.own hm3.isMap
      obtain ⟨au, cu, rfl⟩ := owns_shape2 hO.own
      have HN := Lib.hid (And.intro hm3 (And.intro hbw (And.intro hO (And.intro hOg (And.intro hnext (And.intro hne hkey))))))
      have hown := hO.own
      clear hm3 hG3 hbw hO hOg hnext hL hu hKl b13 b3 hne hkey
      go_wp2_with (at_builtin; refine wpList_append_lies _ rfl (.tmp 24) (.tmp 26) 23 rfl w.heap.size 26 i0 _ 1 24 Try.underlying23 hi hz0 hz1 hz2 rfl (by decide) _ _ _ rfl (hown.alloc _) ⟨w3.heap.size, 0, none⟩ 1 1 [.slice ar r.length cr] rfl rfl (cells_new _ _ _) (by simp [Value.oneCell']) (by decide) (by unfold maxLen; omega) (by omega) (by simp; omega) _ rfl ?_; intro g6 cap6 w6 hown6 hgrow6 hlie6 hlt6)
      have hD6 : MpV Try.prog 9 w6 w.heap.size k f := (HN.out.1.later (later_alloc w3 _)).block (hgrow6.block _ (by simp; have := HN.out.1.lt; omega) HN.out.2.2.2.2.2.1)
      have hB6 : Below w.heap.size w w6 := (later_trans HN.out.2.1 (later_alloc w3 _)).grown hgrow6 (by simp; omega) (fun k e => owns_above hown k e)
      have hO6 : OldRows w0 w.heap.size w6 (.slice (some ⟨g6, 0, none⟩) (vs.length + 1) cap6) (vs ++ [.slice ar r.length cr]) (grpL (rs.take k) o L ++ [r]) := by
        refine ⟨by simpa using hown6, by simp [HN.out.2.2.1.len], fun j hj => ?_⟩
        rw [rowN_snoc]
        by_cases h1 : j < (grpL (rs.take k) o L).length
        · rw [if_pos h1, getD_snoc _ _ _ (by rw [HN.out.2.2.1.len]; exact h1)]
          exact HN.out.2.2.1.rows j h1
        · have h2 : j = (grpL (rs.take k) o L).length := by simp at hj; omega
          rw [if_neg h1, if_pos h2, h2, ← HN.out.2.2.1.len, getD_last]
          exact HK.out.2.2.2.1
      have hG6 := HN.out.2.2.2.2.1 w6 g6 _ _ _ HN.out.2.2.2.1 (by exact ⟨hgrow6.os, hgrow6.tape, hgrow6.output, by have := hgrow6.size; simp at this; omega, fun b hb hne => (hgrow6.block b (by simp; omega) hne).trans ((later_alloc w3 _).block b hb)⟩) rfl (by
        rcases hlie6 with e | e
        · exact .inl e
        · right; rw [e]; simp) hlt6 hO6
      obtain ⟨D, hD1, hD2⟩ := hD6
      have hkk := HN.out.2.2.2.2.2.2
      have H6 := Lib.hid (And.intro hB6 (And.intro hG6 hD2))
      clear hB6 hG6 hD2 hO6 hown hown6 hgrow6 hlie6 hlt6
      obtain ⟨w7, hrun, hown7, hgrow7⟩ := hD1.update lawS Try.underlying75 hkm hkk (val := .slice (some ⟨g6, 0, none⟩) (vs.length + 1) cap6) rfl
      rw [hrun]
      clear hrun
      have hm7 := MpV.put hD1 H6.out.2.2 lawS hkk hown7
      have hG7 := H6.out.2.1.grown (MpV.isMap ⟨D, hD1, H6.out.2.2⟩) hgrow7
      have hB7 : Below w.heap.size w w7 := H6.out.1.grown hgrow7 H6.out.1.size (fun k e => by cases e; omega)
      have H7 := Lib.hid (And.intro hm7 (And.intro hG7 hB7))
      clear hm7 hG7 hB7 hown7 hgrow7 hD1 hkk
      go_wp2_with fail
      go_roundw
      case rel => exact ⟨k + 1, _, HK.out.2.2.2.2.2.1, by go_num, H7.out.1, by rw [HK.out.2.2.2.2.1]; exact H7.out.2.1, H7.out.2.2⟩
      case measure => simp [intOf]; have := HK.out.2.2.2.2.2.1; omega
    · obtain rfl : k = rs.length := by omega
      rw [List.take_length] at hG
      have HR := Lib.hid (And.intro hm (And.intro hG hb))
      clear hm hG hb
      go_wp2_with fail
      go_ret
      exact ⟨_, rfl, Nat.le_refl _, ⟨f, _, HR.out.1, HR.out.2.1, later_trans H.out.2.2.2.2.2 HR.out.2.2⟩, HR.out.2.2⟩
end Go.Proofs.Ytdeiinfljfgmeaa
