/-
  The iterator over the variables as they are chosen, walked.
-/
import Derived.RegionIn
import Derived.Maps.OwnIn
import Derived.Deep.RegionHeld3
import Derived.Deep.DeepCutAuto
import Derived.Laws.EntriesVeiled
import Derived.Sort.BigQuietIn
import Derived.Test.YtdmfhlfhlflakaaDoorPlCho
namespace Go.Proofs.YtdmfhlfhlflakaaDoor
open Go.RowKit Go.Shelf Go.BigFrame Go.Maps
set_option linter.unusedVariables false
attribute [local go_sem] Oper.semAt_some

/-- What stands while variables are chosen. -/
structure ChoW (w0 : World) (X1 bm X3 : Nat) (m : Int) (ev sv : Value) (T : List Int) (k : Nat) (W : World) : Prop where
  bel : Below w0.heap.size w0 W
  bs : SB W X1 m ev sv
  bt : W.heap[X3]? = some (.cells #[.map (some bm)] 69 (0, 0))
  mp : MpI W bm k T
theorem ChoW.later {w0 W W' : World} {X1 bm X3 k : Nat} {m : Int} {ev sv : Value} {T : List Int} (h : ChoW w0 X1 bm X3 m ev sv T k W) (hb : Below W.heap.size W W') : ChoW w0 X1 bm X3 m ev sv T k W' :=
  ⟨later_trans h.bel hb, kept hb h.bs, kept hb h.bt, h.mp.later hb⟩
theorem ChoW.kept {w0 W W' : World} {X1 bm X3 k : Nat} {m : Int} {ev sv : Value} {T : List Int} (h : ChoW w0 X1 bm X3 m ev sv T k W) (hk : KeepI w0.heap.size W W') : ChoW w0 X1 bm X3 m ev sv T k W' :=
  ⟨h.bel.trans hk.bel, hk.keep _ _ h.bs (.inl rfl) (fun cs e fr he => by cases he; decide), hk.keep _ _ h.bt (.inl rfl) (fun cs e fr he => by cases he; decide), hk.mp h.mp⟩

set_option maxRecDepth 100000 in
set_option maxHeartbeats 4000000 in
theorem chosen_seq (n : Nat) (hn : 1 ≤ n) (S : Shp) {ev sv : Value} {X1 : Nat} {w0 w : World} (hS : ShR w0 ev sv S) (hl : S.sizes.length = S.edges.length) (hm0 : 0 ≤ S.many) (hm1 : S.many ≤ 32) (hw0 : Below w0.heap.size w0 w) (hX : SB w X1 S.many ev sv) :
    SeqX n Tryd.prog 102 #[.pointer (some ⟨X1, 0, none⟩)] encI (KeepI w0.heap.size) (ChI w0.heap.size) (fun xs => xs = chosenTo S S.many.toNat) (fun _ => True) 33 (fun _ => True) w := fun l J XX W hW hJa hXa hY h0 => by
  have HJA := Lib.hid hJa
  have HXA := Lib.hid hXa
  have HY := Lib.hid hY
  have hmm := @run_makeMap Tryd.prog
  have hSX := kept hW hX
  have hW0 := later_trans hw0 hW
  obtain ⟨mn, hmn⟩ : ∃ mn : Nat, S.many = mn := ⟨S.many.toNat, by omega⟩
  have hmn32 : mn ≤ 32 := by omega
  have s0 : W.cell? ⟨X1, 0, none⟩ = some (.int .i64 (mn : Int)) := by rw [← hmn]; exact box_cell (i := 0) hSX
  have lX := lt_of_block hSX
  have HC0 : Hid (ChoW w0 X1 W.heap.size (W.heap.size + 1) S.many ev sv [] 0 ((W.alloc (.map #[] 0)).alloc (.cells #[.map (some W.heap.size)] 69))) := Lib.hid (by
    refine ⟨later_trans hW0 (later_trans (later_alloc _ _) (later_alloc _ _)), box_alloc (kept (later_alloc W _) hSX) _, ?_, (MpI.made W).later (later_alloc _ _)⟩
    have h := box_new (W.alloc (.map #[] 0)) #[.map (some W.heap.size)] 69
    rw [World.size_alloc] at h
    exact h)
  have HS := Lib.hid (And.intro hS (And.intro hl hmn))
  have h01 := HJA.out [] W _ h0 (ChI.later (later_trans (later_alloc W (.map #[] 0)) (later_alloc _ (.cells #[.map (some W.heap.size)] 69))) hW0.size)
  have HJ0 := Lib.hid h01
  have HBig := Lib.hid hW0.size
  clear hJa hXa hY hX hSX hW hW0 hw0 hS hl hm0 hm1 hmn h0 h01
  refine callsIn_of_wp Tryd.func102 rfl trivial ?_ rfl
  simp only [Tryd.ntmps102, List.size_toArray, List.length_cons, List.length_nil, Nat.reduceAdd, Nat.reduceSub, Array.replicate_succ, Array.replicate_zero, List.push_toArray, List.append_toArray, List.nil_append, List.cons_append]
  gi_wp2
  gi_loopw [12] (fun i wr => ∃ k : Nat, k ≤ mn ∧ i = .int .i64 k ∧ J (chosenTo S k) wr ∧ ChoW w0 X1 W.heap.size (W.heap.size + 1) S.many ev sv (chosenTo S k) k wr) (fun i _ => mn - (intOf i).toNat)
  case atStart => exact ⟨0, Nat.zero_le _, rfl, HJ0.out, HC0.out⟩
  case round =>
    obtain ⟨k, hk, rfl, hJ, hC⟩ := hrel
    by_cases hlt : k < mn
    · have q0 : wr.cell? ⟨X1, 0, none⟩ = some (.int .i64 (mn : Int)) := by rw [← HS.out.2.2]; exact box_cell (i := 0) hC.bs
      have HCW := Lib.hid hC
      have HJK := Lib.hid hJ
      clear hJ hC
      gi_wp2
      obtain ⟨wo, rfl⟩ : ∃ wo : World, wo = wr := ⟨_, rfl⟩
      refine wpIn_wide.2 ?_
      obtain ⟨T, hT⟩ : ∃ T, chosenTo S k = T := ⟨_, rfl⟩
      rw [hT] at HCW HJK
      have HT := Lib.hid hT
      clear hT
      go_loopw [4, 5, 17] (fun at_ near i wr => ∃ v : Nat, v ≤ mn ∧ i = .int .i64 v ∧ at_ = .int .i64 (pickTo S T v).1 ∧ near = .bool (pickTo S T v).2 ∧ Below wo.heap.size wo wr) (fun _ _ i _ => mn - (intOf i).toNat)
      case atStart => exact ⟨0, Nat.zero_le _, rfl, rfl, rfl, Below.refl _ _⟩
      case round =>
        obtain ⟨v, hv, rfl, rfl, rfl, hb⟩ := hrel
        by_cases hvl : v < mn
        · have hCi := HCW.out.later hb
          have hC1 := hCi.later (later_alloc wr (.cells #[.int .i64 (v : Int)] 3))
          have t0 : (wr.alloc (.cells #[.int .i64 (v : Int)] 3)).cell? ⟨W.heap.size + 1, 0, none⟩ = some (.map (some W.heap.size)) := by simpa using box_cell (i := 0) hC1.bt
          have u0 : (wr.alloc (.cells #[.int .i64 (v : Int)] 3)).cell? ⟨X1, 1, none⟩ = some ev := by simpa using box_cell (i := 1) hC1.bs
          have t1 : wr.cell? ⟨W.heap.size + 1, 0, none⟩ = some (.map (some W.heap.size)) := by simpa using box_cell (i := 0) hCi.bt
          have u1 : wr.cell? ⟨X1, 1, none⟩ = some ev := by simpa using box_cell (i := 1) hCi.bs
          have lt1 := lt_of_block hCi.bt
          have lu1 := lt_of_block hCi.bs
          have hwf : (Lit.int .i64 (v : Int)).wf = true := WalkArith.wf_i64 (by omega)
          have hL := hC1.mp.look hwf
          have hI := inI_one (l := T) (x := (v : Int))
          obtain ⟨q, hq⟩ : ∃ q, inI T (v : Int) = q := ⟨_, rfl⟩
          rw [hq] at hL hI
          have HB := Lib.hid hb
          have HC1 := Lib.hid hC1
          clear hCi hC1 hb hq
          by_cases hin : (v : Int) ∈ T
          · have hq1 : (q == 1) = true := by rw [hI, decide_eq_true hin]
            have HSk := Lib.hid (pickTo_skip (S := S) hin)
            clear hI hin
            go_wp2_with fail
            go_roundw
            case rel => exact ⟨v + 1, by omega, by go_num, by rw [HSk.out], by rw [HSk.out], HB.out.trans ((later_alloc wr _).mono HB.out.size)⟩
            case measure => simp [intOf]; try omega
          · have hq1 : (q == 1) = false := by rw [hI, decide_eq_false hin]
            have HIn := Lib.hid hin
            have hE : Enters 103 := enters_of Tryd.func103 (by kernel_rfl) rfl
            have hCF : Calls Tryd.prog 44 #[ev, .func (.func 103) #[] #[.pointer (some ⟨wr.heap.size, 0, none⟩), .pointer (some ⟨W.heap.size + 1, 0, none⟩)]] (wr.alloc (.cells #[.int .i64 (v : Int)] 3)) fun e w' => e = .returned (.bool (nearB S T v)) ∧ Below (wr.alloc (.cells #[.int .i64 (v : Int)] 3)).heap.size (wr.alloc (.cells #[.int .i64 (v : Int)] 3)) w' :=
              ContainsFuncR_any hE (HS.out.1.edges.later HC1.out.bel) fun r hr rv W' hb' hrv => near1_any (kept hb' (box_new wr _ _)) (kept hb' HC1.out.bt) (HC1.out.mp.later hb') hrv
            have HCF := Lib.hid hCF
            obtain ⟨ae, ce, rfl, -⟩ := HS.out.1.edges.open
            obtain ⟨az, cz, rfl, -⟩ := HS.out.1.sizes.open
            clear hI hin hE hCF
            go_wp2_with fail
            refine HCF.out.mono ?_
            rintro e w2 ⟨rfl, hb2⟩
            have HB2 := Lib.hid hb2
            have hC2 := HC1.out.later hb2
            have HK9 : Hid (∀ W', Below w2.heap.size w2 W' → W'.cell? ⟨X1, 0, none⟩ = some (.int .i64 S.many) ∧ W'.cell? ⟨X1, 1, none⟩ = some (.slice ae S.edges.length ce) ∧ W'.cell? ⟨X1, 2, none⟩ = some (.slice az S.sizes.length cz) ∧ W'.cell? ⟨wr.heap.size, 0, none⟩ = some (.int .i64 (v : Int))) := Lib.hid (fun W' hb' =>
              ⟨box_cell (i := 0) (kept hb' hC2.bs), box_cell (i := 1) (kept hb' hC2.bs), box_cell (i := 2) (kept hb' hC2.bs), box_cell (i := 0) (kept hb' (kept hb2 (box_new wr _ _)))⟩)
            have HSz : Hid (∀ (x : Int) W', Below w2.heap.size w2 W' → Calls Tryd.prog 105 #[shpV S.many (.slice ae S.edges.length ce) (.slice az S.sizes.length cz), .int .i64 x] W' fun e w' => e = .returned (.int .i64 (sizeG S x)) ∧ Below W'.heap.size W' w') := Lib.hid (fun x W' hb' =>
              size_any S _ _ x W' (HS.out.1.later (later_trans hC2.bel hb')) HS.out.2.1)
            obtain ⟨x0, x1, x2, v0⟩ := HK9.out w2 (Below.refl _ _)
            have hpb := pickTo_bound S T v
            obtain ⟨at_, hat⟩ : ∃ a, (pickTo S T v).1 = a := ⟨_, rfl⟩
            obtain ⟨near, hnr⟩ : ∃ a, (pickTo S T v).2 = a := ⟨_, rfl⟩
            obtain ⟨is, his⟩ : ∃ a, nearB S T v = a := ⟨_, rfl⟩
            rw [hat, hnr, his]
            rw [hat] at hpb
            have HP := Lib.hid (And.intro hat (And.intro hnr his))
            clear hb2 hC2 hat hnr his hL t0 u0 t1 u1
            go_upto_region 9 with fail
            go_cut [51] (fun s51 wx => s51 = .bool (takeB S at_ near is v) ∧ Below w2.heap.size w2 wx)
            case first =>
              have htk : takeB S at_ near is v = (decide (at_ < 0) || (is && !near) || (is == near && decide (sizeG S v < sizeG S at_))) := rfl
              by_cases hneg : at_ < 0
              · have HT9 := Lib.hid (show takeB S at_ near is v = true by rw [htk, decide_eq_true hneg]; rfl)
                clear htk
                go_quiet (fail)
                go_wp2_with fail
                go_meet
                exact ⟨by rw [HT9.out], later_drewN _ _⟩
              · rw [decide_eq_false hneg, Bool.false_or] at htk
                have hnegd : decide (at_ < 0) = false := decide_eq_false hneg
                cases is
                · cases near
                  · have HT9 := Lib.hid htk
                    clear htk
                    simp only [Bool.false_and, Bool.false_or, beq_self_eq_true, Bool.true_and] at HT9
                    refine wp_region_noPanic ?_
                    refine wp_region_held_drew (S := (fun W' : World => W'.cell? ⟨X1, 0, none⟩ = some (.int .i64 S.many) ∧ W'.cell? ⟨X1, 1, none⟩ = some (.slice ae S.edges.length ce) ∧ W'.cell? ⟨X1, 2, none⟩ = some (.slice az S.sizes.length cz) ∧ W'.cell? ⟨wr.heap.size, 0, none⟩ = some (.int .i64 (v : Int)))) (by kernel_rfl) ?_ (fun hHeld => ?_)
                    · exact HK9.out _ (later_drew _)
                    refine wpAnyH_take (i := 0) (v := ?v1) rfl (by kernel_rfl) (by kernel_rfl) (by kernel_rfl) (fun _ _ _ h => h) (Or.inl ⟨by rfl, ?hy1⟩) (by assumption) ?rest1
                    case hy1 => (intro w hSw; (try dsimp only at hSw); go_simp; try (with_reducible rfl))
                    try simp only [Act.put, List.setIfInBounds_toArray, List.set_cons_zero, List.set_cons_succ, List.getElem_toArray, List.getElem_cons_zero]
                    refine wpAnyH_take (i := 1) (v := ?v2) rfl (by kernel_rfl) (by kernel_rfl) (by kernel_rfl) (fun _ _ _ h => h) (Or.inl ⟨by rfl, ?hy2⟩) (by assumption) ?rest2
                    case hy2 => (intro w hSw; (try dsimp only at hSw); go_simp; try (with_reducible rfl))
                    try simp only [Act.put, List.setIfInBounds_toArray, List.set_cons_zero, List.set_cons_succ, List.getElem_toArray, List.getElem_cons_zero, List.getElem_cons_succ]
                    refine wpAnyH_take (i := 2) (v := ?v3) rfl (by kernel_rfl) (by kernel_rfl) (by kernel_rfl) (fun _ _ _ h => h) (Or.inl ⟨by rfl, ?hy3⟩) (by assumption) ?rest3
                    case hy3 => (intro w hSw; (try dsimp only at hSw); go_simp; try (with_reducible rfl))
                    try simp only [Act.put, List.setIfInBounds_toArray, List.set_cons_zero, List.set_cons_succ, List.getElem_toArray, List.getElem_cons_zero, List.getElem_cons_succ]
                    refine wpAnyH_take (i := 3) (v := ?v4) rfl (by kernel_rfl) (by kernel_rfl) (by kernel_rfl) (fun _ _ _ h => h) (Or.inl ⟨by rfl, ?hy4⟩) (by assumption) ?rest4
                    case hy4 => (intro w hSw; (try dsimp only at hSw); go_simp; try (with_reducible rfl))
                    try simp only [Act.put, List.setIfInBounds_toArray, List.set_cons_zero, List.set_cons_succ, List.getElem_toArray, List.getElem_cons_zero, List.getElem_cons_succ]
                    refine wpAnyH_take (i := 4) (v := ?v5) rfl (by kernel_rfl) (by kernel_rfl) (by kernel_rfl) (fun _ _ _ h => h) (Or.inl ⟨by rfl, ?hy5⟩) (by assumption) ?rest5
                    case hy5 => (intro w hSw; (try dsimp only at hSw); go_simp; try (with_reducible rfl))
                    try simp only [Act.put, List.setIfInBounds_toArray, List.set_cons_zero, List.set_cons_succ, List.getElem_toArray, List.getElem_cons_zero, List.getElem_cons_succ]
                    refine wpAnyH_take (i := 5) (v := undef) rfl (by kernel_rfl) (by kernel_rfl) (by kernel_rfl) (fun _ _ _ h => h) (Or.inr ⟨by rfl, rfl⟩) (by assumption) ?_
                    try simp only [Act.put, List.setIfInBounds_toArray, List.set_cons_zero, List.set_cons_succ, List.getElem_toArray, List.getElem_cons_zero, List.getElem_cons_succ]
                    refine wpAnyH_take (i := 6) (v := undef) rfl (by kernel_rfl) (by kernel_rfl) (by kernel_rfl) (fun _ _ _ h => h) (Or.inr ⟨by rfl, rfl⟩) (by assumption) ?_
                    try simp only [Act.put, List.setIfInBounds_toArray, List.set_cons_zero, List.set_cons_succ, List.getElem_toArray, List.getElem_cons_zero, List.getElem_cons_succ]
                    refine wpAnyH_take (i := 7) (v := ?v6) rfl (by kernel_rfl) (by kernel_rfl) (by kernel_rfl) (fun _ _ _ h => h) (Or.inl ⟨by rfl, ?hy6⟩) (by assumption) ?rest6
                    case hy6 => (intro w hSw; (try dsimp only at hSw); go_simp; try (with_reducible rfl))
                    try simp only [Act.put, List.setIfInBounds_toArray, List.set_cons_zero, List.set_cons_succ, List.getElem_toArray, List.getElem_cons_zero, List.getElem_cons_succ]
                    refine wpAnyH_take (i := 8) (v := ?v7) rfl (by kernel_rfl) (by kernel_rfl) (by kernel_rfl) (fun _ _ _ h => h) (Or.inl ⟨by rfl, ?hy7⟩) (by assumption) ?rest7
                    case hy7 => (intro w hSw; (try dsimp only at hSw); go_simp; try (with_reducible rfl))
                    try simp only [Act.put, List.setIfInBounds_toArray, List.set_cons_zero, List.set_cons_succ, List.getElem_toArray, List.getElem_cons_zero, List.getElem_cons_succ]
                    refine wpAnyH_take (i := 9) (v := ?v8) rfl (by kernel_rfl) (by kernel_rfl) (by kernel_rfl) (fun _ _ _ h => h) (Or.inl ⟨by rfl, ?hy8⟩) (by assumption) ?rest8
                    case hy8 => (intro w hSw; (try dsimp only at hSw); go_simp; try (with_reducible rfl))
                    try simp only [Act.put, List.setIfInBounds_toArray, List.set_cons_zero, List.set_cons_succ, List.getElem_toArray, List.getElem_cons_zero, List.getElem_cons_succ]
                    refine wpAnyH_take (i := 10) (v := ?v9) rfl (by kernel_rfl) (by kernel_rfl) (by kernel_rfl) (fun _ _ _ h => h) (Or.inl ⟨by rfl, ?hy9⟩) (by assumption) ?rest9
                    case hy9 => (intro w hSw; (try dsimp only at hSw); go_simp; try (with_reducible rfl))
                    try simp only [Act.put, List.setIfInBounds_toArray, List.set_cons_zero, List.set_cons_succ, List.getElem_toArray, List.getElem_cons_zero, List.getElem_cons_succ]
                    refine wpAnyH_take (i := 11) (v := ?v10) rfl (by kernel_rfl) (by kernel_rfl) (by kernel_rfl) (fun _ _ _ h => h) (Or.inl ⟨by rfl, ?hy10⟩) (by assumption) ?rest10
                    case hy10 => (intro w hSw; (try dsimp only at hSw); go_simp; try (with_reducible rfl))
                    try simp only [Act.put, List.setIfInBounds_toArray, List.set_cons_zero, List.set_cons_succ, List.getElem_toArray, List.getElem_cons_zero, List.getElem_cons_succ]
                    refine wpAnyH_take (i := 12) (v := ?v11) rfl (by kernel_rfl) (by kernel_rfl) (by kernel_rfl) (fun _ _ _ h => h) (Or.inl ⟨by rfl, ?hy11⟩) (by assumption) ?rest11
                    case hy11 => (intro w hSw; (try dsimp only at hSw); go_simp; try (with_reducible rfl))
                    try simp only [Act.put, List.setIfInBounds_toArray, List.set_cons_zero, List.set_cons_succ, List.getElem_toArray, List.getElem_cons_zero, List.getElem_cons_succ]
                    refine wpAnyH_take (i := 13) (v := ?v12) rfl (by kernel_rfl) (by kernel_rfl) (by kernel_rfl) (fun _ _ _ h => h) (Or.inl ⟨by rfl, ?hy12⟩) (by assumption) ?rest12
                    case hy12 => (intro w hSw; (try dsimp only at hSw); go_simp; try (with_reducible rfl))
                    try simp only [Act.put, List.setIfInBounds_toArray, List.set_cons_zero, List.set_cons_succ, List.getElem_toArray, List.getElem_cons_zero, List.getElem_cons_succ]
                    refine wpAnyH_take (i := 14) (v := ?v13) rfl (by kernel_rfl) (by kernel_rfl) (by kernel_rfl) (fun _ _ _ h => h) (Or.inl ⟨by rfl, ?hy13⟩) (by assumption) ?rest13
                    case hy13 => (intro w hSw; (try dsimp only at hSw); go_simp; try (with_reducible rfl))
                    try simp only [Act.put, List.setIfInBounds_toArray, List.set_cons_zero, List.set_cons_succ, List.getElem_toArray, List.getElem_cons_zero, List.getElem_cons_succ]
                    refine wpAnyH_take (i := 15) (v := ?v14) rfl (by kernel_rfl) (by kernel_rfl) (by kernel_rfl) (fun _ _ _ h => h) (Or.inl ⟨by rfl, ?hy14⟩) (by assumption) ?rest14
                    case hy14 => (intro w hSw; (try dsimp only at hSw); go_simp; try (with_reducible rfl))
                    try simp only [Act.put, List.setIfInBounds_toArray, List.set_cons_zero, List.set_cons_succ, List.getElem_toArray, List.getElem_cons_zero, List.getElem_cons_succ]
                    refine wpAnyH_take (i := 17) (v := ?v15) rfl (by kernel_rfl) (by kernel_rfl) (by kernel_rfl) (fun _ _ _ h => h) (Or.inl ⟨by rfl, ?hy15⟩) (by assumption) ?rest15
                    case hy15 => (intro w hSw; (try dsimp only at hSw); go_simp; try (with_reducible rfl))
                    try simp only [Act.put, List.setIfInBounds_toArray, List.set_cons_zero, List.set_cons_succ, List.getElem_toArray, List.getElem_cons_zero, List.getElem_cons_succ]
                    refine wpAnyH_take (i := 18) (v := ?v16) rfl (by kernel_rfl) (by kernel_rfl) (by kernel_rfl) (fun _ _ _ h => h) (Or.inl ⟨by rfl, ?hy16⟩) (by assumption) ?rest16
                    case hy16 => (intro w hSw; (try dsimp only at hSw); go_simp; try (with_reducible rfl))
                    try simp only [Act.put, List.setIfInBounds_toArray, List.set_cons_zero, List.set_cons_succ, List.getElem_toArray, List.getElem_cons_zero, List.getElem_cons_succ]
                    refine wpAnyH_ready (rs := [16]) (by kernel_rfl) (by simp) ?_
                    refine AllReadyH.cons rfl (fun K hK => ?_) AllReadyH.nil
                    go_simp
                    refine (HSz.out (v : Int) _ (later_drew _)).mono ?_
                    rintro e wA ⟨rfl, hA⟩
                    have bA := later_trans (later_drew w2) hA
                    try go_wp2_with fail
                    refine hK.out _ _ (HK9.out _ bA) (fun hH16 => ?_)
                    clear hK K hHeld
                    try simp only [Act.put, List.setIfInBounds_toArray, List.set_cons_zero, List.set_cons_succ, List.getElem_toArray, List.getElem_cons_zero, List.getElem_cons_succ]
                    refine wpAnyH_ready (rs := [19]) (by kernel_rfl) (by simp) ?_
                    refine AllReadyH.cons rfl (fun K hK => ?_) AllReadyH.nil
                    go_simp
                    refine (HSz.out at_ _ bA).mono ?_
                    rintro e wB ⟨rfl, hB⟩
                    have bB := later_trans bA hB
                    try go_wp2_with fail
                    refine hK.out _ _ (HK9.out _ bB) (fun hH19 => ?_)
                    clear hK K hH16
                    try simp only [Act.put, List.setIfInBounds_toArray, List.set_cons_zero, List.set_cons_succ, List.getElem_toArray, List.getElem_cons_zero, List.getElem_cons_succ]
                    refine wpAnyH_take (i := 20) (v := ?v17) rfl (by kernel_rfl) (by kernel_rfl) (by kernel_rfl) (fun _ _ _ h => h) (Or.inl ⟨by rfl, ?hy17⟩) (by assumption) ?rest17
                    case hy17 => (intro w hSw; (try dsimp only at hSw); go_simp; try (with_reducible rfl))
                    try simp only [Act.put, List.setIfInBounds_toArray, List.set_cons_zero, List.set_cons_succ, List.getElem_toArray, List.getElem_cons_zero, List.getElem_cons_succ]
                    refine wpAnyH_take (i := 21) (v := ?v18) rfl (by kernel_rfl) (by kernel_rfl) (by kernel_rfl) (fun _ _ _ h => h) (Or.inl ⟨by rfl, ?hy18⟩) (by assumption) ?rest18
                    case hy18 => (intro w hSw; (try dsimp only at hSw); go_simp; try (with_reducible rfl))
                    try simp only [Act.put, List.setIfInBounds_toArray, List.set_cons_zero, List.set_cons_succ, List.getElem_toArray, List.getElem_cons_zero, List.getElem_cons_succ]
                    refine wpAnyH_take (i := 22) (v := ?v19) rfl (by kernel_rfl) (by kernel_rfl) (by kernel_rfl) (fun _ _ _ h => h) (Or.inl ⟨by rfl, ?hy19⟩) (by assumption) ?rest19
                    case hy19 => (intro w hSw; (try dsimp only at hSw); go_simp; try (with_reducible rfl))
                    try simp only [Act.put, List.setIfInBounds_toArray, List.set_cons_zero, List.set_cons_succ, List.getElem_toArray, List.getElem_cons_zero, List.getElem_cons_succ]
                    refine wpAnyH_done (by kernel_rfl) ?_ _
                    refine NoPanic.normal ?_
                    go_wp2_with fail
                    go_meet
                    exact ⟨by rw [HT9.out], bB⟩
                  · have HT9 := Lib.hid (show takeB S at_ true false v = false by rw [htk]; rfl)
                    clear htk
                    go_quiet (fail)
                    go_wp2_with fail
                    go_meet
                    exact ⟨by rw [HT9.out], later_drewN _ _⟩
                · cases near
                  · have HT9 := Lib.hid (show takeB S at_ false true v = true by rw [htk]; rfl)
                    clear htk
                    go_quiet (fail)
                    go_wp2_with fail
                    go_meet
                    exact ⟨by rw [HT9.out], later_drewN _ _⟩
                  · have HT9 := Lib.hid htk
                    clear htk
                    simp only [Bool.not_true, Bool.and_false, Bool.false_or, beq_self_eq_true, Bool.true_and] at HT9
                    go_region_held3 (fun W' => W'.cell? ⟨X1, 0, none⟩ = some (.int .i64 S.many) ∧ W'.cell? ⟨X1, 1, none⟩ = some (.slice ae S.edges.length ce) ∧ W'.cell? ⟨X1, 2, none⟩ = some (.slice az S.sizes.length cz) ∧ W'.cell? ⟨wr.heap.size, 0, none⟩ = some (.int .i64 (v : Int)))
                      (first | exact HK9.out _ (later_refl _) | exact HK9.out _ (later_drew _) | exact HK9.out _ bA | exact HK9.out _ bB | assumption)
                      (first
                        | (go_at_call 105; have hq := bA; refine (HSz.out at_ _ bA).mono ?_; rintro e wB ⟨rfl, hB⟩; have bB := later_trans bA hB)
                        | (go_at_call 105; refine (HSz.out (v : Int) _ (later_drew _)).mono ?_; rintro e wA ⟨rfl, hA⟩; have bA := later_trans (later_drew w2) hA))
                    go_wp2_with fail
                    go_meet
                    exact ⟨by rw [HT9.out], bB⟩
            case rest =>
              obtain ⟨rfl, hbx⟩ := hcut
              have HBx := Lib.hid (HB.out.trans ((later_trans (below_new HB2.out) hbx).mono HB.out.size))
              obtain ⟨-, -, -, v1⟩ := HK9.out _ hbx
              clear hbx x0 x1 x2 v0
              by_cases htk : takeB S at_ near is v = true
              · have HTk := Lib.hid (pickTo_take HIn.out (by rw [HP.out.1, HP.out.2.1, HP.out.2.2]; exact htk))
                rw [htk]
                clear htk
                go_wp2_with fail
                go_roundw
                case rel => exact ⟨v + 1, by omega, by go_num, by rw [HTk.out], by rw [HTk.out, HP.out.2.2], HBx.out⟩
                case measure => simp [intOf]; try omega
              · have htk := Bool.eq_false_iff.2 htk
                have HTk := Lib.hid (pickTo_leave HIn.out (by rw [HP.out.1, HP.out.2.1, HP.out.2.2]; exact htk))
                rw [htk]
                clear htk
                go_wp2_with fail
                go_roundw
                case rel => exact ⟨v + 1, by omega, by go_num, by rw [HTk.out, HP.out.1], by rw [HTk.out, HP.out.2.1], HBx.out⟩
                case measure => simp [intOf]; try omega
        · obtain rfl : v = mn := by omega
          have hCi := HCW.out.later hb
          have hJi := HJA.out _ _ _ HJK.out (ChI.later hb HCW.out.bel.size)
          have t0 : wr.cell? ⟨W.heap.size + 1, 0, none⟩ = some (.map (some W.heap.size)) := by simpa using box_cell (i := 0) hCi.bt
          have hpb := pickTo_bound S T v
          obtain ⟨at_, hat⟩ : ∃ a, (pickTo S T v).1 = a := ⟨_, rfl⟩
          obtain ⟨near, hnr⟩ : ∃ a, (pickTo S T v).2 = a := ⟨_, rfl⟩
          rw [hat, hnr]
          rw [hat] at hpb
          have HNext : Hid (chosenTo S (k + 1) = T ++ [at_]) := Lib.hid (by
            show chosenTo S k ++ [(pickTo S (chosenTo S k) S.many.toNat).1] = _
            rw [HT.out, HS.out.2.2, Int.toNat_natCast, hat])
          have hwf : (Lit.int .i64 at_).wf = true := WalkArith.wf_i64 (by omega)
          have hkm : k < maxLen := by unfold maxLen; omega
          have HCi := Lib.hid hCi
          have HJi := Lib.hid hJi
          obtain ⟨D, hD1, hD2⟩ := hCi.mp
          clear hb hCi hJi hat hnr
          go_wp2_with fail
          gi_wp2_with (gi_at_mapUpdate; refine wpListIn_mapUpdate_own _ rfl _ _ _ 69 rfl 3 3 lawI Tryd.underlying69 _ W.heap.size k D rfl hD1 hkm _ _ _ rfl rfl (keyOf_int_mk Tryd.underlying3 hwf) _ [] (plainElem_int Tryd.underlying3 (by decide)) ?_; intro w1 hown1 hgrow1; obtain ⟨fn, tmps, assign, body, hy, hR⟩ := HY.out T at_ w1 (HJA.out _ _ _ HJi.out (ChI.grown HCi.out.mp hgrow1 HBig.out)) (by rw [← HT.out, chosenTo_len]; omega); dsimp only [encI] at hy)
          have hC1 : ChoW w0 X1 W.heap.size (W.heap.size + 1) S.many ev sv (T ++ [at_]) (k + 1) w1 := by
            have hmo := MapsOnly.grown HCi.out.mp hgrow1
            exact ⟨HCi.out.bel.grown hgrow1 HCi.out.bel.size (fun b e => by cases e; exact HBig.out), hmo.block _ _ HCi.out.bs (fun _ _ e => by cases e), hmo.block _ _ HCi.out.bt (fun _ _ e => by cases e), MpI.put hD2 hwf hD1 hown1⟩
          have HC1 := Lib.hid hC1
          clear hC1 hD2
          refine hR.mono ?_
          rintro en W3 (⟨rfl, hJ3, hk3⟩ | ⟨rfl, hJx3⟩)
          · have hC3 := HC1.out.kept hk3
            have HC3 := Lib.hid (And.intro hC3 hJ3)
            clear hC3 hJ3 hk3
            gi_wp2
            go_roundw
            case rel => exact ⟨k + 1, by omega, by go_num, by rw [HNext.out]; exact HC3.out.2, by rw [HNext.out]; exact HC3.out.1⟩
            case measure => simp [intOf]; try omega
          · gi_wp2
            refine bodyPost_ret (results_none rfl _ _ _) rfl ?_
            exact ⟨⟨_, rfl⟩, .inr ⟨_, trivial, hJx3⟩⟩
    · obtain rfl : k = mn := by omega
      gi_wp2
      go_end0
      exact ⟨⟨_, rfl⟩, .inl ⟨_, by rw [HS.out.2.2, Int.toNat_natCast], hJ, trivial⟩⟩
end Go.Proofs.YtdmfhlfhlflakaaDoor
