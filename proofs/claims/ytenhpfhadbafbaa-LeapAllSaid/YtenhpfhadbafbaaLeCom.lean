/-
  The least key that all rows have: (*leaper).common, walked.
-/
import Derived.Test.YtenhpfhadbafbaaLeRows
import Derived.ScopeJumps
import Derived.WalkMore
namespace Go.Proofs.Ytenhpfhadbafbaa
open Go.RowKit
set_option linter.unusedVariables false

theorem least_of {p : Nat → Prop} (h : ∃ n, p n) : ∃ n, p n ∧ ∀ m, p m → n ≤ m := by
  obtain ⟨n, hn⟩ := h
  induction n using Nat.strongRecOn with
  | _ n ih =>
    by_cases h : ∃ m, m < n ∧ p m
    · obtain ⟨m, h1, h2⟩ := h
      exact ih m h1 h2
    · refine ⟨n, hn, fun m hm => ?_⟩
      by_cases hmn : m < n
      · exact absurd ⟨m, hmn, hm⟩ h
      · omega
open Classical in
/-- The least measure with which something holds. -/
noncomputable def leastG (J : Nat → Act → World → Prop) (a : Act) (w : World) : Nat := if h : ∃ n, J n a w then (least_of h).choose else 0
theorem leastG_at {J : Nat → Act → World → Prop} {a : Act} {w : World} (h : ∃ n, J n a w) : J (leastG J a w) a w := by
  unfold leastG
  rw [dif_pos h]
  exact (least_of h).choose_spec.1
theorem leastG_le {J : Nat → Act → World → Prop} {a : Act} {w : World} {n : Nat} (h : J n a w) : leastG J a w ≤ n := by
  unfold leastG
  rw [dif_pos ⟨n, h⟩]
  exact (least_of ⟨n, h⟩).choose_spec.2 n h
/-- The body of a scope, once: from what holds at the label, with a measure that is not in the frame. -/
theorem wp_scope_again {P : Program} {a : Act} {w : World} {Q : Exit → Act → World → Prop} {c rest : Code} (l : Nat) (J : Nat → Act → World → Prop) (hf : findLabel c l = some (Code.seq .skip rest))
    (pass : ∀ n a w, J n a w → rest.wp P (Exit.jump l (fun a' w' => ∃ n', n' < n ∧ J n' a' w') Q) a w)
    (first : (∀ n a w, J n a w → rest.wp P (Exit.jump l (fun a w => ∃ n, J n a w) Q) a w) → c.wp P (Exit.jump l (fun a w => ∃ n, J n a w) Q) a w) : (Code.scope c).wp P Q a w := by
  refine wp_scope_jumps l (fun a w => ∃ n, J n a w) (leastG J) hf (first fun n a w hJ => wp_mono (pass n a w hJ) ?_) fun a w hJ => wp_seq (wp_skip (wp_mono (pass _ a w (leastG_at hJ)) ?_))
  · intro e a' w' h
    cases e <;> first | exact h | exact ⟨h.1, h.2.imp fun _ h => h.2⟩
  · intro e a' w' h
    cases e <;> first | exact h | exact ⟨h.1, h.2.imp fun _ h => h.2, h.2.elim fun _ h => Nat.lt_of_le_of_lt (leastG_le h.2) h.1⟩

/-- What the loop of common keeps. -/
structure ComW (w0 w : World) (X g cap : Nat) (v : Value) (ls : List (List Int)) (a0 : List Nat) (looks0 : Int) (m : Nat) (ats : List Nat) (key : Int) (same t : Nat) (W : World) : Prop where
  lp : ∃ n : Nat, Lp w0 W X g cap v ls ats (looks0 + n) ∧ n ≤ (2 + 2 * lg (1 + m : Int)) * t
  wr : Wrote (fun b => b = X ∨ b = g) w W
  inv : LeapI ls a0 ats key same t
  nat : 0 ≤ key
  less : same < ls.length
/-- What common comes to. -/
def Came (w0 w : World) (X g cap : Nat) (v : Value) (ls : List (List Int)) (a0 : List Nat) (looks0 : Int) (m : Nat) (e : Ending) (W : World) : Prop :=
  ∃ (ats : List Nat) (t n : Nat) (b : Bool), e = .returned (.bool b) ∧ n ≤ (2 + 2 * lg (1 + m : Int)) * t ∧ Lp w0 W X g cap v ls ats (looks0 + n) ∧ Wrote (fun b => b = X ∨ b = g) w W ∧ (b = true → ∃ key, LeapY ls a0 ats key t) ∧ (b = false → LeapZ ls a0 ats t)
theorem ComW.few {w0 w W : World} {X g cap : Nat} {v : Value} {ls : List (List Int)} {a0 : List Nat} {looks0 : Int} {m : Nat} {ats : List Nat} {key : Int} {same t : Nat} (h : ComW w0 w X g cap v ls a0 looks0 m ats key same t W) (hR : RowsOk ls) : t ≤ 64064 := by
  have h1 := counts_most h.inv.count hR.some
  have h2 := h.inv.le 0 hR.some
  have h3 := hR.short 0 hR.some
  have h4 : (atN ats 0 - atN a0 0 + 1 - leapE ls a0 0) * ls.length ≤ 1001 * 64 := Nat.mul_le_mul (by omega) hR.few
  omega
/-- The closure. -/
abbrev boundTo (X : Nat) : Value := .func (.func 38) #[.pointer (some ⟨X, 0, none⟩)] #[]

theorem com_few {n n1 t m l : Nat} (h : n ≤ (2 + 2 * lg (1 + m : Int)) * t) (h1 : n1 ≤ 2 + 2 * lg (1 + l : Int)) (hm : l ≤ m) : n + n1 ≤ (2 + 2 * lg (1 + m : Int)) * (t + 1) := by
  have := lg_mono (a := 1 + l) (b := 1 + m) (by omega) (by omega)
  rw [Nat.mul_add, Nat.mul_one]
  simp only [Int.natCast_add, Int.natCast_one] at this
  omega

set_option maxRecDepth 100000 in
set_option maxHeartbeats 4000000 in
theorem common_any {w0 w : World} {X g cap : Nat} {v : Value} {ls : List (List Int)} {a0 : List Nat} {looks0 : Int} {m : Nat} (h : Lp w0 w X g cap v ls a0 looks0) (hR : RowsOk ls) (hm : ∀ r, r < ls.length → (rowN ls r).length ≤ m) (hm1 : m ≤ 1000) (hat : ∀ r, r < ls.length → atN a0 r ≤ (rowN ls r).length) (hl0 : 0 ≤ looks0) (hl1 : looks0 ≤ 100000000000) :
    Calls Try.prog 29 #[.pointer (some ⟨X, 0, none⟩)] w (Came w0 w X g cap v ls a0 looks0 m) := by
  have H := Lib.hid h
  have HR := Lib.hid hR
  have HM := Lib.hid hm
  have HA := Lib.hid hat
  have hn0 := h.n
  clear h hR hm hat
  go_enter Try.func29, Try.ntmps29
  go_wp2_with fail
  refine wp_scope_again 0 (fun μ a' w' => ∃ (ats : List Nat) (key : Int) (same t : Nat), μ = 70000 - t ∧ ComW w0 w X g cap v ls a0 looks0 m ats key same t w' ∧ ∃ (u7 u10 u11 u12 u13 u14 u15 u16 u17 u18 u19 u20 u21 u22 u23 u24 u25 u26 u27 u28 u29 u30 u31 u32 u33 u34 u35 u36 u37 u38 u39 u40 u41 u42 u43 u44 u45 u46 u47 u48 u49 u50 u51 : Value), a' = { tmps := #[.pointer (some ⟨X, 0, none⟩), undef, .bool false, .int .u64 key, .int .i64 (same : Nat), .int .i64 ((t % ls.length : Nat) : Int), boundTo X, u7, .pointer (some ⟨X, 0, none⟩), boundTo X, u10, u11, u12, u13, u14, u15, u16, u17, u18, u19, u20, u21, u22, u23, u24, u25, u26, u27, u28, u29, u30, u31, u32, u33, u34, u35, u36, u37, u38, u39, u40, u41, u42, u43, u44, u45, u46, u47, u48, u49, u50, u51], defers := [] }) rfl ?pass (fun again => ?first)
  case first =>
    go_wp2
    apply wp_label
    rename_i hK
    exact hK _ _ (again _ _ _ ⟨a0, 0, 0, 0, rfl, ⟨⟨0, by simpa using H.out, by omega⟩, .of_below (Below.refl _ _), leapI_start hn0 HA.out HR.out.some (HR.out.nat 0 HR.out.some), by omega, HR.out.some⟩, _, _, _, _, _, _, _, _, _, _, _, _, _, _, _, _, _, _, _, _, _, _, _, _, _, _, _, _, _, _, _, _, _, _, _, _, _, _, _, _, _, _, _, rfl⟩)
  case pass =>
    rintro μ a' W ⟨ats, key, same, t, rfl, hI, u7, u10, u11, u12, u13, u14, u15, u16, u17, u18, u19, u20, u21, u22, u23, u24, u25, u26, u27, u28, u29, u30, u31, u32, u33, u34, u35, u36, u37, u38, u39, u40, u41, u42, u43, u44, u45, u46, u47, u48, u49, u50, u51, rfl⟩
    have HI := Lib.hid hI
    obtain ⟨⟨n, hL, hn⟩, hW, hV, hkey, hless⟩ := hI
    have htf := HI.out.few HR.out
    obtain ⟨r, hr⟩ : ∃ r, t % ls.length = r := ⟨_, rfl⟩
    have hrk : r < ls.length := by rw [← hr]; exact Nat.mod_lt _ HR.out.some
    have hlg := lg_le (1 + m : Int) (by omega)
    have hnn : n ≤ 126 * 64064 := Nat.le_trans hn (Nat.mul_le_mul (by omega) htf)
    obtain ⟨p, hp⟩ : ∃ p, place (rowN ls r) (atN ats r) (geB key) = p := ⟨_, rfl⟩
    have hple : p ≤ (rowN ls r).length := by rw [← hp]; exact place_le (hV.le r hrk)
    have HV := Lib.hid hV
    have HL := Lib.hid hL
    have HN := Lib.hid (And.intro hn (And.intro hW hr))
    rw [hr]
    have hk1 := HR.out.few
    have hrI : (r : Int) < ls.length := by omega
    clear hV hL hn hW hr hlg HI
    by_cases hpl : p < (rowN ls r).length
    · go_wp2_with first
        | (refine (leap_any HL.out HR.out hrk (HV.out.le r hrk) (by omega) (by omega) (key := key)).mono ?_
           rintro e w1 ⟨n1, rfl, hn1, hL1, hW1⟩
           rw [hp] at hL1 ⊢
           rw [decide_eq_true hpl]
           have H1 := Lib.hid (And.intro hn1 (And.intro hL1 hW1))
           obtain ⟨a, c, rfl, r1, r2, r3, r4⟩ := (hL1.rows.later hL1.bel).open
           obtain ⟨b, o, rfl, hb, hc⟩ := r4 (by omega)
           obtain ⟨rv, c1, hrv⟩ := hc r hrk
           obtain ⟨a', c', rfl, s1, s2, s3, s4⟩ := hrv.open
           obtain ⟨b', o', rfl, hb', hc'⟩ := s4 (by omega)
           have c2 := hc' p hpl
           obtain ⟨x0, x1, x2, fx⟩ := hL1.cells
           obtain ⟨y0, y1⟩ := hL1.at_ hrk
           rw [atN_set (by rw [HV.out.n]; exact hrk), if_pos rfl] at y0
           have hpI : (p : Int) < (rowN ls r).length := by omega
           clear hc r3 r4 hrv s3 s4 hc' hn1 hL1 hW1 hb hb'
           obtain ⟨nv, hnv⟩ : ∃ nv, (rowN ls r)[p] = nv := ⟨_, rfl⟩
           rw [hnv] at c2
           have hnv' : (rowN ls r).getD p 0 = nv := by rw [getD_at hpl]; exact hnv
           have HS := Lib.hid (leap_step HV.out HR.out.some hless HN.out.2.2.symm hp.symm (HR.out.rise r hrk) (HR.out.rise 0 HR.out.some) hpl hnv')
           clear hnv hnv')
        | fail
      go_quiet (fail)
      have HT : (n + n1 ≤ (2 + 2 * lg (1 + m : Int)) * (t + 1)) := com_few HN.out.1 H1.out.1 (HM.out r hrk)
      by_cases hnk : nv = key
      · subst hnk
        have HS2 : Hid (LeapI ls a0 (ats.set r p) nv (same + 1) (t + 1)) := Lib.hid (by have := HS.out.2; rw [if_pos rfl] at this; exact this)
        clear HS
        by_cases hsk : ls.length ≤ same + 1
        · go_wp2
          simp only [Exit.jump]
          go_ret
          exact ⟨ats.set r p, t + 1, n + n1, true, rfl, HT, by rw [show looks0 + ((n + n1 : Nat) : Int) = looks0 + n + n1 from by omega]; exact (H1.out.2.1.later (later_drewN _ _)), HN.out.2.1.trans (H1.out.2.2.trans (.of_below (later_drewN _ _))), fun _ => ⟨_, (HS2.out).yes (by omega)⟩, fun e => by simp at e⟩
        · go_wp2
          have hmod : ((r : Int) + 1) % ls.length = (((t + 1) % ls.length : Nat) : Int) := by rw [← HN.out.2.2]; exact_mod_cast congrArg Nat.cast (Nat.mod_add_mod t ls.length 1)
          have hsm : (same : Int) + 1 = ((same + 1 : Nat) : Int) := rfl
          rw [hmod]
          rw [hsm]
          apply wp_goto
          refine ⟨rfl, 70000 - (t + 1), by omega, ats.set r p, nv, same + 1, t + 1, rfl, ⟨⟨n + n1, ?_, HT⟩, ?_, HS2.out, ?_, ?_⟩, _, _, _, _, _, _, _, _, _, _, _, _, _, _, _, _, _, _, _, _, _, _, _, _, _, _, _, _, _, _, _, _, _, _, _, _, _, _, _, _, _, _, _, rfl⟩
          · rw [show looks0 + ((n + n1 : Nat) : Int) = looks0 + n + n1 from by omega]
            exact (H1.out.2.1.later (later_drewN _ _))
          · exact HN.out.2.1.trans (H1.out.2.2.trans (.of_below (later_drewN _ _)))
          · omega
          · omega
      · have hb1 : (nv == key) = false := by simp [hnk]
        have hkn := HS.out.1
        have HS2 : Hid (LeapI ls a0 (ats.set r p) nv 1 (t + 1)) := Lib.hid (by have := HS.out.2; rw [if_neg hnk] at this; exact this)
        clear HS
        by_cases hsk : ls.length ≤ 1
        · go_wp2
          simp only [Exit.jump]
          go_ret
          exact ⟨ats.set r p, t + 1, n + n1, true, rfl, HT, by rw [show looks0 + ((n + n1 : Nat) : Int) = looks0 + n + n1 from by omega]; exact (H1.out.2.1.later (later_drewN _ _)), HN.out.2.1.trans (H1.out.2.2.trans (.of_below (later_drewN _ _))), fun _ => ⟨_, (HS2.out).yes (by omega)⟩, fun e => by simp at e⟩
        · go_wp2
          have hmod : ((r : Int) + 1) % ls.length = (((t + 1) % ls.length : Nat) : Int) := by rw [← HN.out.2.2]; exact_mod_cast congrArg Nat.cast (Nat.mod_add_mod t ls.length 1)
          have hsm : (same : Int) + 1 = ((same + 1 : Nat) : Int) := rfl
          rw [hmod]
          apply wp_goto
          refine ⟨rfl, 70000 - (t + 1), by omega, ats.set r p, nv, 1, t + 1, rfl, ⟨⟨n + n1, ?_, HT⟩, ?_, HS2.out, ?_, ?_⟩, _, _, _, _, _, _, _, _, _, _, _, _, _, _, _, _, _, _, _, _, _, _, _, _, _, _, _, _, _, _, _, _, _, _, _, _, _, _, _, _, _, _, _, rfl⟩
          · rw [show looks0 + ((n + n1 : Nat) : Int) = looks0 + n + n1 from by omega]
            exact (H1.out.2.1.later (later_drewN _ _))
          · exact HN.out.2.1.trans (H1.out.2.2.trans (.of_below (later_drewN _ _)))
          · omega
          · omega
    · go_wp2_with first
        | (refine (leap_any HL.out HR.out hrk (HV.out.le r hrk) (by omega) (by omega) (key := key)).mono ?_
           rintro e w1 ⟨n1, rfl, hn1, hL1, hW1⟩
           rw [hp] at hL1 ⊢
           rw [decide_eq_false hpl]
           have H1 := Lib.hid (And.intro hn1 (And.intro hL1 hW1))
           clear hn1 hL1 hW1)
        | fail
      simp only [Exit.jump]
      go_ret
      refine ⟨ats.set r p, t + 1, n + n1, false, rfl, ?_, ?_, ?_, fun e => by simp at e, fun _ => ?_⟩
      · exact com_few HN.out.1 H1.out.1 (HM.out r hrk)
      · rw [show looks0 + ((n + n1 : Nat) : Int) = looks0 + n + n1 from by omega]
        exact H1.out.2.1
      · exact HN.out.2.1.trans H1.out.2.2
      · exact HV.out.no HR.out.some hless HN.out.2.2.symm hp.symm hpl
end Go.Proofs.Ytenhpfhadbafbaa
