/-
  The law GallopStands, walked.
-/
import Derived.Test.YtlndgjibefbddaaRows
import Derived.WalkKit
import Derived.WalkSpells
import Derived.WalkLawsBesides
import Derived.Outline
import Derived.Test.YtlndgjibefbddaaPlain
import Derived.Test.YtlndgjibefbddaaBase
import Derived.Test.YtlndgjibefbddaaGal
import Derived.Test.YtlndgjibefbddaaGal2
import Derived.Test.YtlndgjibefbddaaMeet
import Derived.Test.YtlndgjibefbddaaWakes
import Derived.Test.YtlndgjibefbddaaSpan
import Derived.Test.YtlndgjibefbddaaLawB
namespace Go.Proofs.Ytlndgjibefbddaa
open Go.RowKit
set_option linter.unusedVariables false

theorem behind_there {L : List Int} {i at_ : Nat} {key : Int} (hr : risesB L = true) (hp : place L i (geB key) = at_) (hat : at_ < L.length) (hk : L[at_] = key) : place L i (gtB key) = at_ + 1 := by
  have hi : i ≤ at_ := by rw [← hp]; exact place_ge
  refine place_eq (by omega) (by omega) (fun j hj hij hja => ?_) (fun h => ?_)
  · by_cases e : j = at_
    · subst e; simp [gtB]; omega
    · have := place_not (p := geB key) hij hj (by omega)
      simp [geB, gtB] at *; omega
  · have := rises_lt hr (show at_ < at_ + 1 by omega) h
    simp [gtB]; omega
theorem behind_not {L : List Int} {i at_ : Nat} {key : Int} (hi : i ≤ L.length) (hp : place L i (geB key) = at_) (hk : ∀ h : at_ < L.length, ¬ L[at_] = key) : place L i (gtB key) = at_ := by
  have h1 : i ≤ at_ := by rw [← hp]; exact place_ge
  have h2 : at_ ≤ L.length := by rw [← hp]; exact place_le hi
  refine place_eq h1 h2 (fun j hj hij hja => ?_) (fun h => ?_)
  · have := place_not (p := geB key) hij hj (by omega)
    simp [geB, gtB] at *; omega
  · have h3 := place_at (xs := L) (i := i) (p := geB key) (by omega)
    have h4 := hk h
    simp only [hp] at h3
    simp [geB, gtB] at *; omega
theorem again_there {L : List Int} {i at_ : Nat} {key : Int} (hi : i ≤ L.length) (hp : place L i (geB key) = at_) : place L at_ (geB key) = at_ := by
  have h1 : i ≤ at_ := by rw [← hp]; exact place_ge
  have h2 : at_ ≤ L.length := by rw [← hp]; exact place_le hi
  refine place_eq (Nat.le_refl _) h2 (fun j hj a b => by omega) (fun h => ?_)
  have h3 := place_at (xs := L) (i := i) (p := geB key) (by omega)
  simpa only [hp] using h3
/-- What stands ahead of the place is less, all behind is not. -/
theorem stands_at {L : List Int} {i at_ k : Nat} {key : Int} (hr : risesB L = true) (hp : place L i (geB key) = at_) (hik : i ≤ k) (hk : k < L.length) : (k < at_ → L[k] < key) ∧ (at_ ≤ k → key ≤ L[k]) := by
  constructor
  · intro h
    have := place_not (p := geB key) hik hk (by omega)
    simp [geB] at this; omega
  · intro h
    have h3 := place_at (xs := L) (i := i) (p := geB key) (by omega)
    have h4 := rises_le hr h hk
    simp only [hp] at h3
    simp [geB] at h3; omega

set_option maxRecDepth 100000 in
set_option maxHeartbeats 4000000 in
theorem stands_walk (u : Value) (xs : List Int) (f key : Int) (w : World) (hx : SlI .u64 w u xs) (hf : (Lit.int .i64 f).wf = true) (hkey : (Lit.int .u64 key).wf = true) :
    Calls Try.prog 7 #[u, .int .i64 f, .int .u64 key] w fun e w' => e = .returned (.bool true) ∧ Below w.heap.size w w' := by
  obtain ⟨i0, i1⟩ := wf_i64 hf
  clear hf hkey
  obtain ⟨a, c, rfl, h1, h2, h3, h4⟩ := hx.open
  clear h1 h2 h3 h4
  go_enter Try.func7, Try.ntmps7
  go_wp2_with fail
  refine (wakes_any w).mono ?_
  rintro e w1 ⟨rfl, hb1⟩
  go_wp2_with fail
  refine (few_any _ xs w1 (hx.later hb1)).mono ?_
  rintro e w2 ⟨v2, rfl, hown, hb2⟩
  obtain ⟨L, hL, hL200, HL, al, n, cl, rfl, hn1, hn2⟩ := few_read hx.2 hown
  have hb2 := later_trans hb1 hb2
  clear hb1 hown
  go_wp2_with fail
  refine (Seek_any _ L f key w2 hL (by omega)).mono ?_
  rintro e w3 ⟨he, hb3⟩
  have hL3 := hL.later hb3
  have hb03 := later_trans hb2 hb3
  by_cases hmay : mayB L f = true
  · rw [if_pos hmay] at he
    obtain ⟨looks, rfl, hfl⟩ := he
    obtain ⟨hmr, hm0, hml⟩ := mayB_true hmay
    obtain ⟨i, rfl⟩ := Int.eq_ofNat_of_zero_le hm0
    rw [Int.toNat_natCast] at hfl ⊢
    have hil : i ≤ L.length := by omega
    obtain ⟨p, hpp⟩ : ∃ p, place L i (geB key) = p := ⟨_, rfl⟩
    have hpl1 : i ≤ p := by rw [← hpp]; exact place_ge
    have hpl2 : p ≤ L.length := by rw [← hpp]; exact place_le hil
    rw [hpp] at hfl ⊢
    have HPP := Lib.hid hpp
    have HMAY := Lib.hid hmay
    have HR := Lib.hid hmr
    clear hpp hmay hmr hfl
    go_wp2_with fail
    go_loop [11] (fun j => ∃ k : Nat, i ≤ k ∧ k ≤ n ∧ j = .int .i64 k) (fun j => n - (intOf j).toNat)
    case atStart => exact ⟨i, Nat.le_refl _, by omega, rfl⟩
    case round =>
      obtain ⟨k, hik, hkn, rfl⟩ := hrel
      by_cases hlt : k < n
      · have hkL : k < L.length := by omega
        obtain ⟨al', c', e9, _, _, _, hc9⟩ := hL3.open
        obtain ⟨b, o, e8, _, hc⟩ := hc9 (by omega)
        have hck := hc k hkL
        obtain ⟨rfl, -, -⟩ : al = al' ∧ n = L.length ∧ cl = c' := by injection e9 with a b c; exact ⟨a, b, c⟩
        subst e8
        obtain ⟨st1, st2⟩ := stands_at HR.out HPP.out hik hkL
        clear hc hc9 e9
        by_cases hkp : k < p
        · have hs := st1 hkp
          have hd1 : decide (key ≤ L[k]) = false := by simp; omega
          have hd2 : decide (p ≤ k) = false := by simp; omega
          clear st1 st2
          go_wp2_with fail
          go_round
          case rel => exact ⟨k + 1, by omega, by omega, by go_num⟩
          case measure => simp [intOf]; omega
        · have hs := st2 (by omega)
          have hd1 : decide (key ≤ L[k]) = true := by simp; omega
          have hd2 : decide (p ≤ k) = true := by simp; omega
          clear st1 st2
          go_wp2_with fail
          go_round
          case rel => exact ⟨k + 1, by omega, by omega, by go_num⟩
          case measure => simp [intOf]; omega
      · have hmay2 : mayB L p = true := by simp [mayB, HR.out]; omega
        have HM2 := Lib.hid hmay2
        have hag := again_there hil HPP.out
        have HAG := Lib.hid hag
        clear hmay2 hag
        go_wp2_with fail
        refine (Seek_any _ L p key w3 hL3 (by omega)).mono ?_
        rintro e w4 ⟨he, hb4⟩
        rw [if_pos HM2.out] at he
        obtain ⟨looks2, he, hfl2⟩ := he
        rw [Int.toNat_natCast, HAG.out] at he hfl2
        subst he
        have hlk2 : p < L.length → looks2 ≤ 2 := fun h => by
          have := (hfl2.2 h).2
          rw [show (1 + (p : Int) - p) = 1 by omega, show lg 1 = 0 from by decide] at this
          exact this
        have HLK := Lib.hid hlk2
        have hL4 := hL3.later hb4
        have hb04 := later_trans hb03 hb4
        clear hlk2 hfl2
        go_wp2_with fail
        refine (Behind_any _ L i key w4 hL4 (by omega)).mono ?_
        rintro e w5 ⟨he, hb5⟩
        rw [if_pos HMAY.out] at he
        obtain ⟨looks3, he, _⟩ := he
        rw [Int.toNat_natCast] at he
        have hL5 := hL4.later hb5
        have hb05 := later_trans hb04 hb5
        have hpp1 : ((p : Int) != p) = false := by simp
        by_cases hpL : p < n
        · obtain ⟨al', c', e9, _, _, _, hc9⟩ := hL5.open
          obtain ⟨b, o, e8, _, hc⟩ := hc9 (by omega)
          have hpLL : p < L.length := by omega
          have hck := hc p hpLL
          obtain ⟨rfl, -, -⟩ : al = al' ∧ n = L.length ∧ cl = c' := by injection e9 with a b c; exact ⟨a, b, c⟩
          subst e8
          have hl2 := HLK.out hpLL
          clear hc hc9 e9
          by_cases hkk : L[p] = key
          · rw [behind_there HR.out HPP.out hpLL hkk] at he
            subst he
            have hkk' : (L[p] == key) = true := by simpa using hkk
            have h9 : ((p : Int) + 1 == p) = false := by rw [beq_eq_false_iff_ne]; omega
            clear hkk
            go_wp2_with fail
            go_ret
            exact ⟨ret_bool (by simp), hb05⟩
          · rw [behind_not hil HPP.out (fun _ => hkk)] at he
            subst he
            have hkk' : (L[p] == key) = false := by simpa using hkk
            have h9 : ((p : Int) == p + 1) = false := by rw [beq_eq_false_iff_ne]; omega
            clear hkk
            go_wp2_with fail
            go_ret
            exact ⟨ret_bool (by simp), hb05⟩
        · rw [behind_not hil HPP.out (fun h => by omega)] at he
          subst he
          have h9 : ((p : Int) == p + 1) = false := by rw [beq_eq_false_iff_ne]; omega
          go_wp2_with fail
          go_ret
          exact ⟨ret_bool (by simp), hb05⟩
  · have hmf : mayB L f = false := by simpa using hmay
    rw [if_neg hmay] at he
    subst he
    have hor := mayB_false hmf
    obtain ⟨r, hr⟩ : ∃ r, risesB L = r := ⟨_, rfl⟩
    have HR := Lib.hid hr
    rw [hr] at hor
    clear hmay hmf hr
    go_wp2_with fail
    refine (rising_any _ L w3 hL3).mono ?_
    rintro e w4 ⟨he, m4, hw4⟩
    rw [HR.out] at he
    subst he
    have hb4 : Below w3.heap.size w3 w4 := by rw [hw4]; exact later_drewN _ _
    have hb04 := later_trans hb03 hb4
    clear hw4
    rcases hor with rfl | hf0 | hf1
    · go_wp2_with fail
      go_ret
      exact ⟨rfl, hb04⟩
    · cases r
      all_goals
        go_wp2_with fail
        go_ret
        exact ⟨ret_bool (by simp <;> omega), hb04⟩
    · have hf2 : (n : Int) < f := by omega
      have hf3 : 0 ≤ f := by omega
      cases r
      all_goals
        go_wp2_with fail
        go_ret
        exact ⟨ret_bool (by simp <;> omega), hb04⟩
end Go.Proofs.Ytlndgjibefbddaa
