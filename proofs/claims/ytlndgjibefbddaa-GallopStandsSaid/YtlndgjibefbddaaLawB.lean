/-
  The law GallopSeeks, walked.
-/
import Derived.Test.YtlndgjibefbddaaRows
import Derived.WalkKit
import Derived.WalkSpells
import Derived.WalkLawsBesides
import Derived.Outline
import Derived.Test.YtlndgjibefbddaaPlain
import Derived.Test.YtlndgjibefbddaaBase
import Derived.Test.YtlndgjibefbddaaLib
import Derived.Test.YtlndgjibefbddaaGal
import Derived.Test.YtlndgjibefbddaaGal2
import Derived.Test.YtlndgjibefbddaaRef04
import Derived.Test.YtlndgjibefbddaaMeet
import Derived.Test.YtlndgjibefbddaaWakes
namespace Go.Proofs.Ytlndgjibefbddaa
open Go.RowKit
set_option linter.unusedVariables false

/-- What few has handed back, read, and its length's two bounds. -/
theorem few_read {w w' : World} {v' : Value} {xs : List Int} (hw : ∀ x ∈ xs, (Lit.int .u64 x).wf = true) (hown : w'.ownsRow w.heap.size 34 1 v' (xs.take 200).length ((xs.take 200).map (Value.int .u64))) :
    ∃ L : List Int, SlI .u64 w' v' L ∧ L.length ≤ 200 ∧ Hid (L = xs.take 200) ∧ ∃ a n c, v' = .slice a n c ∧ n ≤ L.length ∧ L.length ≤ n := by
  have h := SlI.of_owns hown (fun x hx => hw x (List.mem_of_mem_take hx))
  obtain ⟨a, n, c, rfl, hn⟩ := sli_shape h
  exact ⟨_, h, by simp; omega, Lib.hid rfl, a, n, c, rfl, by have := hn.out; omega, by have := hn.out; omega⟩

theorem mayB_false {xs : List Int} {i : Int} (h : mayB xs i = false) : risesB xs = false ∨ i < 0 ∨ (xs.length : Int) < i := by
  by_cases h1 : risesB xs = true
  · by_cases h2 : 0 ≤ i
    · by_cases h3 : i ≤ xs.length
      · simp [mayB, h1, h2, h3] at h
      · omega
    · omega
  · exact .inl (by simpa using h1)

set_option maxRecDepth 100000 in
set_option maxHeartbeats 4000000 in
theorem seeks_walk (u v t : Value) (xs ps ks : List Int) (w : World) (hx : SlI .u64 w u xs) (hp : SlI .i64 w v ps) (hk : SlI .u64 w t ks) :
    Calls Try.prog 6 #[u, v, t] w fun e w' => e = .returned (.bool true) ∧ Below w.heap.size w w' := by
  obtain ⟨a, c, rfl, h1, h2, h3, h4⟩ := hx.open
  obtain ⟨a', c', rfl, g1, g2, g3, g4⟩ := hp.open
  obtain ⟨a'', c'', rfl, f1, f2, f3, f4⟩ := hk.open
  have hmp : ps.length ≤ 9223372036854775807 := by omega
  have hmk : ks.length ≤ 9223372036854775807 := by omega
  have HP := Lib.hid g4
  have HK := Lib.hid f4
  have HPW := Lib.hid hp.2
  clear h1 h2 h3 h4 g1 g2 g3 g4 f1 f2 f3 f4
  go_enter Try.func6, Try.ntmps6
  go_wp2_with fail
  refine (wakes_any w).mono ?_
  rintro e w1 ⟨rfl, hb1⟩
  go_wp2_with fail
  refine (few_any _ xs w1 (hx.later hb1)).mono ?_
  rintro e w2 ⟨v2, rfl, hown, hb2⟩
  obtain ⟨L, hL, hL200, HL, al, n, cl, rfl, hn1, hn2⟩ := few_read hx.2 hown
  have hb2 := later_trans hb1 hb2
  clear hb1 hown
  obtain ⟨r, hr⟩ : ∃ r, risesB L = r := ⟨_, rfl⟩
  have HR := Lib.hid hr
  clear hr
  go_wp2_with fail
  refine (refrising_any _ L w2 hL).mono ?_
  rintro e w2' ⟨he, rfl⟩
  rw [HR.out] at he
  subst he
  go_wp2_with fail
  refine (rising_any _ L w2 hL).mono ?_
  rintro e w3 ⟨he, m3, hw3⟩
  rw [HR.out] at he
  subst he
  have hb3 : Below w2.heap.size w2 w3 := by rw [hw3]; exact later_drewN _ _
  have hb3 := later_trans hb2 hb3
  have hL := hL.later (show Below w2.heap.size w2 w3 by rw [hw3]; exact later_drewN _ _)
  clear hb2 hw3
  have hrr : (r != r) = false := by simp
  go_wp2_with fail
  go_loopw [31] (fun i wr => ∃ k : Nat, k ≤ ps.length ∧ i = .int .i64 k ∧ Below w3.heap.size w3 wr) (fun i _ => ps.length - (intOf i).toNat)
  case atStart => exact ⟨0, Nat.zero_le _, rfl, later_refl w3⟩
  case round =>
    obtain ⟨k, hkp, rfl, hbr⟩ := hrel
    obtain ⟨wo, rfl⟩ : ∃ wo : World, wo = wr := ⟨_, rfl⟩
    have hb0 := later_trans hb3 hbr
    by_cases hlt : k < ps.length ∧ k ≠ 6
    · obtain ⟨hlt, h6⟩ := hlt
      obtain ⟨b, o, rfl, hbw, hc⟩ := HP.out (by omega)
      have hck := ((bcell hb0).1 b (o + k) hbw).trans (hc k hlt)
      obtain ⟨i0, i1⟩ := wf_i64 (HPW.out ps[k] (List.getElem_mem hlt))
      have h6' : ((k : Int) == 6) = false := by rw [beq_eq_false_iff_ne]; omega
      obtain ⟨f, hf⟩ : ∃ f, ps[k] = f := ⟨_, rfl⟩
      rw [hf] at hck i0 i1
      clear hc h6 hf
      go_wp2_with fail
      go_loopw [40] (fun i wr => ∃ m : Nat, m ≤ ks.length ∧ i = .int .i64 m ∧ Below w3.heap.size w3 wr) (fun i _ => ks.length - (intOf i).toNat)
      case atStart => exact ⟨0, Nat.zero_le _, rfl, hbr⟩
      case round =>
        obtain ⟨m, hmk2, rfl, hbi⟩ := hrel
        have hbi0 := later_trans hb3 hbi
        have hLi := hL.later hbi
        by_cases hmlt : m < ks.length ∧ m ≠ 8
        · obtain ⟨hmlt, h8⟩ := hmlt
          obtain ⟨b2, o2, rfl, hbw2, hc2⟩ := HK.out (by omega)
          have hcm := ((bcell hbi0).1 b2 (o2 + m) hbw2).trans (hc2 m hmlt)
          have h8' : ((m : Int) == 8) = false := by rw [beq_eq_false_iff_ne]; omega
          obtain ⟨key, hkey⟩ : ∃ key, ks[m] = key := ⟨_, rfl⟩
          rw [hkey] at hcm
          clear hc2 h8 hkey
          by_cases hmay : mayB L f = true
          · obtain ⟨hmr, hm0, hml⟩ := mayB_true hmay
            obtain rfl : r = true := by rw [← HR.out]; exact hmr
            obtain ⟨i, rfl⟩ := Int.eq_ofNat_of_zero_le hm0
            have hin : (i : Int) ≤ n := by omega
            have hil : i ≤ L.length := by omega
            have hmay' := Lib.hid hmay
            clear hmay hmr
            go_wp2_with fail
            refine (Seek_any _ L i key wr hLi (by omega)).mono ?_
            rintro e w4 ⟨he, hb4⟩
            rw [if_pos hmay'.out] at he
            obtain ⟨looks, rfl, hfl⟩ := he
            rw [Int.toNat_natCast] at hfl ⊢
            obtain ⟨p, hpp⟩ : ∃ p, place L i (geB key) = p := ⟨_, rfl⟩
            have hpl : i ≤ p ∧ p ≤ L.length := by rw [← hpp]; exact ⟨place_ge, place_le hil⟩
            rw [hpp] at hfl ⊢
            have HPP := Lib.hid hpp
            clear hpp
            have hL4 := hLi.later hb4
            have hb04 := later_trans hbi hb4
            go_wp2_with fail
            refine (Behind_any _ L i key w4 hL4 (by omega)).mono ?_
            rintro e w5 ⟨he, hb5⟩
            rw [if_pos hmay'.out] at he
            obtain ⟨looks', rfl, hfl'⟩ := he
            rw [Int.toNat_natCast] at hfl' ⊢
            obtain ⟨p', hpp'⟩ : ∃ p', place L i (gtB key) = p' := ⟨_, rfl⟩
            have hpl' : i ≤ p' ∧ p' ≤ L.length := by rw [← hpp']; exact ⟨place_ge, place_le hil⟩
            rw [hpp'] at hfl' ⊢
            have HPP' := Lib.hid hpp'
            clear hpp'
            have hL5 := hL4.later hb5
            have hb05 := later_trans hb04 hb5
            have hnL : n = L.length := by omega
            have HF1 := Lib.hid (show FewLooks n i p looks by rw [hnL]; exact hfl)
            have HF2 := Lib.hid (show FewLooks n i p' looks' by rw [hnL]; exact hfl')
            clear hnL hfl hfl'
            go_wp2_with fail
            refine (refseek_any _ L i key w5 hL5 hil).mono ?_
            rintro e w5' ⟨he, rfl⟩
            rw [HPP.out] at he
            subst he
            have hq1 : (((p : Nat) : Int) != p) = false := by simp
            go_wp2_with fail
            refine (refbehind_any _ L i key w5 hL5 hil).mono ?_
            rintro e w5' ⟨he, rfl⟩
            rw [HPP'.out] at he
            subst he
            have hq2 : (((p' : Nat) : Int) != p') = false := by simp
            go_wp2_with fail
            refine (reflooks_ok n i p looks w5 (by omega) (by omega) hpl.1 (by omega) HF1.out).mono ?_
            rintro e w5' ⟨rfl, rfl⟩
            go_wp2_with fail
            refine (reflooks_ok n i p' looks' w5 (by omega) (by omega) hpl'.1 (by omega) HF2.out).mono ?_
            rintro e w5' ⟨rfl, rfl⟩
            go_wp2_with fail
            go_roundw
            case rel => exact ⟨m + 1, by omega, by go_num, hb05⟩
            case measure => simp [intOf]; omega
          · have hmf : mayB L f = false := by simpa using hmay
            have hor := mayB_false hmf
            have hmay' := Lib.hid hmf
            rw [HR.out] at hor
            clear hmay hmf
            go_wp2_with fail
            refine (Seek_any _ L f key wr hLi (by omega)).mono ?_
            rintro e w4 ⟨he, hb4⟩
            rw [if_neg (by rw [hmay'.out]; simp)] at he
            subst he
            have hL4 := hLi.later hb4
            have hb04 := later_trans hbi hb4
            go_wp2_with fail
            refine (Behind_any _ L f key w4 hL4 (by omega)).mono ?_
            rintro e w5 ⟨he, hb5⟩
            rw [if_neg (by rw [hmay'.out]; simp)] at he
            subst he
            have hb05 := later_trans hb04 hb5
            rcases hor with rfl | hf0 | hf1
            · go_wp2_with fail
              go_roundw
              case rel => exact ⟨m + 1, by omega, by go_num, hb05⟩
              case measure => simp [intOf]; omega
            · cases r
              all_goals
                go_wp2_with fail
                go_roundw
                case rel => exact ⟨m + 1, by omega, by go_num, hb05⟩
                case measure => simp [intOf]; omega
            · have hf2 : (n : Int) < f := by omega
              have hf3 : 0 ≤ f := by omega
              cases r
              all_goals
                go_wp2_with fail
                go_roundw
                case rel => exact ⟨m + 1, by omega, by go_num, hb05⟩
                case measure => simp [intOf]; omega
        · by_cases hm8 : m < ks.length
          · obtain rfl : m = 8 := by omega
            obtain ⟨b2, o2, rfl, hbw2, hc2⟩ := HK.out (by omega)
            have hcm : wr.cell? ⟨b2, o2 + 8, none⟩ = some (.int .u64 ks[8]) := ((bcell hbi0).1 b2 (o2 + 8) hbw2).trans (hc2 8 hm8)
            clear hc2
            go_wp2_with fail
            go_roundw
            case rel => exact ⟨k + 1, by omega, by go_num, hbi⟩
            case measure => simp [intOf]; omega
          · go_wp2_with fail
            go_roundw
            case rel => exact ⟨k + 1, by omega, by go_num, hbi⟩
            case measure => simp [intOf]; omega
    · have hxo := hx.later hb0
      have hLo := hL.later hbr
      by_cases hk6 : k < ps.length
      · obtain rfl : k = 6 := by omega
        obtain ⟨b, o, rfl, hbw, hc⟩ := HP.out (by omega)
        have hck : wo.cell? ⟨b, o + 6, none⟩ = some (.int .i64 ps[6]) := ((bcell hb0).1 b (o + 6) hbw).trans (hc 6 hk6)
        clear hc
        go_wp2_with fail
        refine (few_any _ xs wo hxo).mono ?_
        rintro e w4 ⟨v4, rfl, hown, hb4⟩
        obtain ⟨L', hL', _, HL', al', n', cl', rfl, _, _⟩ := few_read hx.2 hown
        have hLo' := hLo.later hb4
        go_wp2_with fail
        refine (equal_any _ _ L L' w4 hLo' hL').mono ?_
        rintro e w5 ⟨rfl, m5, hw5⟩
        have hb5 : Below w4.heap.size w4 w5 := by rw [hw5]; exact later_drewN _ _
        have HE := Lib.hid (show decide (L = L') = true by rw [decide_eq_true_eq, HL.out, HL'.out])
        rw [HE.out]
        clear hw5
        go_wp2_with fail
        go_ret
        exact ⟨rfl, later_trans hb0 (later_trans hb4 hb5)⟩
      · go_wp2_with fail
        refine (few_any _ xs wo hxo).mono ?_
        rintro e w4 ⟨v4, rfl, hown, hb4⟩
        obtain ⟨L', hL', _, HL', al', n', cl', rfl, _, _⟩ := few_read hx.2 hown
        have hLo' := hLo.later hb4
        go_wp2_with fail
        refine (equal_any _ _ L L' w4 hLo' hL').mono ?_
        rintro e w5 ⟨rfl, m5, hw5⟩
        have hb5 : Below w4.heap.size w4 w5 := by rw [hw5]; exact later_drewN _ _
        have HE := Lib.hid (show decide (L = L') = true by rw [decide_eq_true_eq, HL.out, HL'.out])
        rw [HE.out]
        clear hw5
        go_wp2_with fail
        go_ret
        exact ⟨rfl, later_trans hb0 (later_trans hb4 hb5)⟩
end Go.Proofs.Ytlndgjibefbddaa
