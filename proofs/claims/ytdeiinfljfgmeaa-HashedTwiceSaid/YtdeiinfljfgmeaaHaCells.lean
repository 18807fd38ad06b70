/-
  hashed.cells, walked.
-/
import Derived.Test.YtdeiinfljfgmeaaHaOf3
namespace Go.Proofs.Ytdeiinfljfgmeaa
open Go.RowKit
set_option linter.unusedVariables false
set_option linter.unusedSimpArgs false

def cellsL (r o : List Int) : List Int := o.map fun i => r.getD i.toNat 0
set_option maxRecDepth 100000 in
set_option maxHeartbeats 2000000 in
theorem cells_any (vr va : Value) (r o : List Int) (w : World) (h : SlI .u64 w vr r) (ho : SlI .i64 w va o) (hl : o.length ≤ 1048576) (hin : ∀ x ∈ o, 0 ≤ x ∧ x < r.length) :
    Calls Try.prog 39 #[vr, va] w fun e w' => ∃ v', e = .returned v' ∧ w'.ownsRow w.heap.size 38 1 v' o.length ((cellsL r o).map (.int .u64)) ∧ Below w.heap.size w w' := by
  obtain ⟨i0, hi, hz0, hz1, hz2⟩ := info_parts info_u64
  have H := Lib.hid (And.intro h (And.intro ho hin))
  obtain ⟨ar, cr, rfl, hr1, hr2, -⟩ := h.open
  obtain ⟨ao, co, rfl, -⟩ := ho.open
  clear h ho hin
  go_enter Try.func39, Try.ntmps39
  go_wp2_with (at_make; refine wpList_make_own _ rfl (.const (.int .i64 0)) (.tmp 9) 26 rfl w.heap.size 38 i0 _ 1 Try.underlying26 hi hz0 hz1 .i64 .i64 _ o.length rfl rfl rfl (by rw [hz2]; omega) (by unfold maxLen; omega) (Nat.le_refl _) ?_; intro w3 hown3 hgrow3)
  have hB3 : Below w.heap.size w w3 := (Below.refl _ _).grown hgrow3 (Nat.le_refl _) (fun k e => by cases e)
  have H3 := Lib.hid (And.intro hown3 hB3)
  clear hown3 hgrow3 hB3
  go_loopw [5, 13] (fun v i wr => ∃ k : Nat, k ≤ o.length ∧ v = .slice (some ⟨w.heap.size, 0, none⟩) k o.length ∧ i = .int .i64 k ∧ wr.ownsRow w.heap.size 38 1 (.slice (some ⟨w.heap.size, 0, none⟩) k o.length) k ((cellsL r (o.take k)).map (.int .u64)) ∧ Below w.heap.size w wr) (fun _ i _ => o.length - (intOf i).toNat)
  case atStart => exact ⟨0, Nat.zero_le _, rfl, rfl, H3.out.1, H3.out.2⟩
  case round =>
    obtain ⟨k, hk, rfl, rfl, hO, hb⟩ := hrel
    by_cases hlt : k < o.length
    · obtain ⟨_, _, e1, _, _, _, g4⟩ := (SlI.later H.out.2.1 hb).open
      obtain ⟨be, oe, e2, _, gc⟩ := g4 (by omega)
      have ce1 := gc k hlt
      injection e1 with e1a e1b e1c
      subst e1a e1c
      subst e2
      have hxin := H.out.2.2 o[k] (List.getElem_mem hlt)
      obtain ⟨m, hm⟩ : ∃ m : Nat, o[k] = (m : Int) := ⟨o[k].toNat, by omega⟩
      have hml : m < r.length := by omega
      rw [hm] at ce1
      obtain ⟨_, _, f1, _, _, _, f4⟩ := (SlI.later H.out.1 hb).open
      obtain ⟨bf, of, f2, _, fc⟩ := f4 (by omega)
      have cf1 := fc m hml
      injection f1 with f1a f1b f1c
      subst f1a f1c
      subst f2
      have hst : cellsL r (o.take (k + 1)) = cellsL r (o.take k) ++ [r[m]] := by
        unfold cellsL
        rw [List.take_succ_eq_append_getElem hlt, List.map_append, hm]
        simp [List.getD, hml]
      obtain ⟨x, hx⟩ : ∃ x, r[m] = x := ⟨_, rfl⟩
      rw [hx] at cf1 hst
      have hsz := hb.size
      have HO := Lib.hid (And.intro hO (And.intro hb (And.intro hlt hst)))
      clear gc g4 e1b hx hst hb hxin hm fc f4 f1b
      go_wp2_with (at_builtin; refine wpList_append_fits _ rfl (.tmp 17) (.tmp 22) 26 rfl w.heap.size 38 i0 1 Try.underlying26 hi hz1 w.heap.size k o.length _ rfl (hO.alloc _) ⟨wr.heap.size, 0, none⟩ 1 1 [.int .u64 x] rfl rfl (cells_new _ _ _) (by simp [Value.oneCell']) (by omega) ?_; intro w6 hown6 hgrow6)
      have hB6 : Below w.heap.size w w6 := (later_trans HO.out.2.1 (later_alloc wr _)).grown hgrow6 (by simp; omega) (fun k e => by cases e; exact Nat.le_refl _)
      have HN := Lib.hid (And.intro (show w6.ownsRow w.heap.size 38 1 (.slice (some ⟨w.heap.size, 0, none⟩) (k + 1) o.length) (k + 1) ((cellsL r (o.take k) ++ [x]).map (.int .u64)) by simpa using hown6) hB6)
      clear hO hown6 hgrow6 hB6
      go_roundw
      case rel => exact ⟨k + 1, HO.out.2.2.1, by go_num, by go_num, by rw [HO.out.2.2.2]; exact HN.out.1, HN.out.2⟩
      case measure => simp [intOf]; have := HO.out.2.2.1; omega
    · obtain rfl : k = o.length := by omega
      rw [List.take_length] at hO
      have HR := Lib.hid (And.intro hO hb)
      clear hO hb
      go_wp2_with fail
      go_ret
      exact ⟨_, rfl, HR.out.1, HR.out.2⟩
end Go.Proofs.Ytdeiinfljfgmeaa
