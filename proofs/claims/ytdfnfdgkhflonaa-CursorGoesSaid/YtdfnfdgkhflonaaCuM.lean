/-
  cursor.New, walked.
-/
import Derived.Test.YtdfnfdgkhflonaaCuK
import Derived.Test.YtdfnfdgkhflonaaCuL
import Derived.Test.YtdfnfdgkhflonaaTCheck
import Derived.Deep.RegionLaw
import Derived.Deep.AppendLies
namespace Go.Proofs.Ytdfnfdgkhflonaa
open Go.RowKit
set_option linter.unusedVariables false

set_option maxRecDepth 100000 in
set_option maxHeartbeats 1000000 in
theorem New_no (vb vl : Value) (B : List Br) (L : List Int) (w : World) (hB : SlB w vb B) (hL : SlI .u64 w vl L) (hok : ¬ TrieOk B L) :
    Calls Try.prog 15 #[.agg #[vb, vl]] w fun e w' => e = .returned (.tuple #[.pointer none, .int .i64 170]) ∧ Below w.heap.size w w' := by
  have HC := Lib.hid (check_any vb vl B L (w.alloc (.cells #[vb, vl] 25)) (hB.later (later_alloc w _)) (hL.alloc _))
  obtain ⟨a, c, rfl, -, -, -, -⟩ := hB.open
  obtain ⟨a', c', rfl, -, -, -, -⟩ := hL.open
  have HK := Lib.hid hok
  clear hB hL hok
  go_enter Try.func15, Try.ntmps15
  go_wp2_with (refine HC.out.mono ?_; rintro e w' ⟨rfl, hb⟩; rw [if_neg HK.out])
  go_ret2
  exact ⟨rfl, later_trans (later_alloc w _) hb⟩

/-- The branches' loop: the cursor's variable, and its keys so far. -/
def NewAt (w1 : World) (c : Nat) (bv lv : Value) (B : List Br) (i : Nat) (wr : World) : Prop :=
  ∃ kv, wr.heap[c]? = some (.cells #[.slice none 0 0, .int .i64 0, kv, bv, lv] 100 (0, 0)) ∧ wr.ownsRow (c + 1) 38 1 kv i (((B.take i).map Br.k).map (.int .u64)) ∧ Below c w1 wr ∧ c + 1 ≤ wr.heap.size

theorem owns_later' {w w' : World} {base cc : Nat} {e : TypeId} {size : Nat} {v : Value} {n : Nat} {xs : List Value} (hb : Below cc w w') (h : w.ownsRow base e size v n xs) (hl : ∀ k, v.ownBlock = some k → base ≤ k ∧ k < cc) : w'.ownsRow base e size v n xs := by
  obtain ⟨h1, h2⟩ := h
  refine ⟨h1, ?_⟩
  rcases h2 with h2 | ⟨g, cap, cur, hv, hg, hh, r⟩
  · exact .inl h2
  · exact .inr ⟨g, cap, cur, hv, hg, by rw [hb.block g (hl g (by rw [hv]; rfl)).2]; exact hh, r⟩
theorem NewAt.next {w1 wr W w6 : World} {cc k g6 cap6 : Nat} {bv lv kv : Value} {B : List Br} {p : Br} (rb : Below cc w1 wr) (rsz : cc + 1 ≤ wr.heap.size) (rown : wr.ownsRow (cc + 1) 38 1 kv k (((B.take k).map Br.k).map (.int .u64))) (hst : B.take (k + 1) = B.take k ++ [p]) (hW : Below wr.heap.size wr W)
    (hown6 : w6.ownsRow (cc + 1) 38 1 (.slice (some ⟨g6, 0, none⟩) (k + 1) cap6) (k + 1) (((B.take k).map Br.k).map (.int .u64) ++ [.int .u64 p.k])) (hgrow6 : W.grownBy w6 kv.ownBlock)
    (hb6 : w6.heap[cc]? = some (.cells #[.slice none 0 0, .int .i64 0, kv, bv, lv] 100 (0, 0))) : NewAt w1 cc bv lv B (k + 1) (w6.setCell ⟨cc, 2, none⟩ (.slice (some ⟨g6, 0, none⟩) (k + 1) cap6)) := by
  have h1 := hW.size
  have h2 := hgrow6.size
  refine ⟨_, by simpa using box_set (i := 2) hb6 _, ?_, ((rb.trans (hW.mono (by omega))).grown hgrow6 (by omega) (fun j e => by have := (rown.lt j e).1; omega)).setCell (p := ⟨cc, 2, none⟩) (Nat.le_refl _) _, by simp; omega⟩
  have := own_set (i := 2) hown6 hb6 (by decide) (.slice (some ⟨g6, 0, none⟩) (k + 1) cap6)
  rw [hst]
  simpa using this

set_option maxRecDepth 100000 in
set_option maxHeartbeats 4000000 in
theorem New_ok (vb vl : Value) (B : List Br) (L : List Int) (w : World) (hB : SlB w vb B) (hL : SlI .u64 w vl L) (hT : TrieS B L) :
    Calls Try.prog 15 #[.agg #[vb, vl]] w fun e w' => ∃ c, e = .returned (.tuple #[.pointer (some ⟨c, 0, none⟩), .int .i64 0]) ∧ Below w.heap.size w w' ∧ w.heap.size ≤ c ∧
      ∀ C : Nat → Prop, C c → (∀ b, w.heap.size ≤ b → b < w'.heap.size → b ≠ c → ¬ C b) → CuM w' C c w'.heap.size (.slice none 0 0) B L [] 0 := by
  have HC := Lib.hid (check_any vb vl B L (w.alloc (.cells #[vb, vl] 25)) (hB.later (later_alloc w _)) (hL.alloc _))
  have HB := Lib.hid (fun W (hb : Below w.heap.size w W) => copied_branch vb B W (hB.later hb) hT.few)
  have HL := Lib.hid (fun W (hb : Below w.heap.size w W) => copied_u64 vl L W (hL.later hb) hT.ok.1)
  obtain ⟨i0, hi, hz0, hz1, hz2⟩ := info_parts info_u64
  have hfew := hT.few
  obtain ⟨a, c, rfl, h1, h2, h3, h4⟩ := hB.open
  obtain ⟨a', c', rfl, -, -, -, -⟩ := hL.open
  have HX := Lib.hid h4
  have HT := Lib.hid hT
  have HK := Lib.hid hT.ok
  have HBs := Lib.hid hB.2
  have HLs := Lib.hid hL.2
  have hS : ∀ W : World, W.heap[w.heap.size]? = some (.cells #[.slice a B.length c, .slice a' L.length c'] 25 (0, 0)) → W.cell? ⟨w.heap.size, 0, none⟩ = some (.slice a B.length c) ∧ W.cell? ⟨w.heap.size, 1, none⟩ = some (.slice a' L.length c') := fun W hn =>
    ⟨by simpa using box_cell (i := 0) hn, by simpa using box_cell (i := 1) hn⟩
  have HS := Lib.hid hS
  clear hB hL hT h1 h2 h3 h4 hS
  go_enter Try.func15, Try.ntmps15
  go_wp2_with (refine HC.out.mono ?_; rintro e wC ⟨rfl, hb0⟩; rw [if_pos HK.out]; have hbC : Below w.heap.size w wC := later_trans (later_alloc w _) hb0; have hXC : wC.heap[w.heap.size]? = some (.cells #[.slice a B.length c, .slice a' L.length c'] 25 (0, 0)) := (hb0.block w.heap.size (by simp)).trans (box_new w _ _); clear hb0)
  go_region_held3 (fun W => W.cell? ⟨w.heap.size, 0, none⟩ = some (.slice a B.length c) ∧ W.cell? ⟨w.heap.size, 1, none⟩ = some (.slice a' L.length c'))
    (first | (with_reducible (first | exact HS.out _ hXE | exact HS.out _ hXU | exact HS.out _ hXB | exact HS.out _ hXC | exact HS.out _ (box_alloc hXE _) | assumption)) | exact HS.out wC.drew hXC)
    (first
      | (go_at_call 60; have hq := hXU; refine (HB.out _ (later_trans hbC (later_trans (later_drew _) hbU))).mono ?_; rintro e wE ⟨bv, rfl, ob, hbE⟩; obtain ⟨ab, cb, rfl⟩ := owns_shape2 ob; have hXE := (hbE.block w.heap.size (lt_of_block hXU)).trans hXU; have ol2 := owns_later ol hbE; have obL := owns_down ob (later_trans hbC (later_trans (later_drew _) hbU)).size; have olL := owns_down ol2 hbC.size; have hbWE : Below w.heap.size w wE := later_trans hbC (later_trans (later_trans (later_drew _) hbU) hbE))
      | (go_at_call 61; have hq := hXB; refine (HL.out _ (later_trans hbC (later_trans (later_drew _) hbB))).mono ?_; rintro e wE ⟨lv, rfl, ol, hbE⟩; obtain ⟨al, cl, rfl⟩ := owns_shape2 ol; have hXE := (hbE.block w.heap.size (lt_of_block hXB)).trans hXB; have ob2 := owns_later ob hbE; have olL := owns_down ol (later_trans hbC (later_trans (later_drew _) hbB)).size; have obL := owns_down ob2 hbC.size; have hbWE : Below w.heap.size w wE := later_trans hbC (later_trans (later_trans (later_drew _) hbB) hbE))
      | (go_at_call 60; refine (HB.out _ (later_trans hbC (later_drew _))).mono ?_; rintro e wB ⟨bv, rfl, ob, hbB⟩; obtain ⟨ab, cb, rfl⟩ := owns_shape2 ob; have hXB : wB.heap[w.heap.size]? = _ := (hbB.block w.heap.size (lt_of_block hXC)).trans hXC)
      | (go_at_call 61; refine (HL.out _ (later_trans hbC (later_drew _))).mono ?_; rintro e wU ⟨lv, rfl, ol, hbU⟩; obtain ⟨al, cl, rfl⟩ := owns_shape2 ol; have hXU : wU.heap[w.heap.size]? = _ := (hbU.block w.heap.size (lt_of_block hXC)).trans hXC))
  all_goals
    rename_i hHeld
    clear hHeld
    have hX1 := box_alloc hXE (.cells #[.slice none 0 0, .int .i64 0, .slice none 0 0, .slice ab B.length cb, .slice al L.length cl] 100)
    have hbox := box_new wE #[.slice none 0 0, .int .i64 0, .slice none 0 0, .slice ab B.length cb, .slice al L.length cl] 100
    have hb1 := later_trans hbWE (later_alloc wE (.cells #[.slice none 0 0, .int .i64 0, .slice none 0 0, .slice ab B.length cb, .slice al L.length cl] 100))
    have hcc := hbWE.size
    have hsz1 : (wE.alloc (.cells #[.slice none 0 0, .int .i64 0, .slice none 0 0, .slice ab B.length cb, .slice al L.length cl] 100)).heap.size = wE.heap.size + 1 := by simp
    have hbl := obL.lt
    have hll := olL.lt
    have ob1 := owns_later obL (later_alloc wE (.cells #[.slice none 0 0, .int .i64 0, .slice none 0 0, .slice ab B.length cb, .slice al L.length cl] 100))
    have ol1 := owns_later olL (later_alloc wE (.cells #[.slice none 0 0, .int .i64 0, .slice none 0 0, .slice ab B.length cb, .slice al L.length cl] 100))
    have hXlt : w.heap.size < wE.heap.size := lt_of_block hXE
    generalize wE.alloc (.cells #[.slice none 0 0, .int .i64 0, .slice none 0 0, .slice ab B.length cb, .slice al L.length cl] 100) = w1 at hX1 hbox hb1 hsz1 ob1 ol1 ⊢
    generalize wE.heap.size = cc at hbox hcc hsz1 hbl hll hXlt ⊢
    have HOB := Lib.hid ob1
    have HOL := Lib.hid ol1
    have HLB := Lib.hid hbl
    have HLL := Lib.hid hll
    have x0 := box_cell (i := 0) hX1
    simp only [List.getElem?_toArray, List.getElem?_cons_zero] at x0
    have hm : B.length ≤ 9223372036854775807 := by omega
    clear obL olL ob ol hXE ob1 ol1 hbl hll hX1 hXC hbC hbWE hbE HC HB HL HS
    go_wp2_with fail
    go_loopw [25] (fun i wr => ∃ k : Nat, k ≤ B.length ∧ i = .int .i64 k ∧ NewAt w1 cc (.slice ab B.length cb) (.slice al L.length cl) B k wr) (fun i _ => B.length - (intOf i).toNat)
    case atStart => exact ⟨0, Nat.zero_le _, rfl, .slice none 0 0, hbox, World.ownsRow_nil _ _ _ _, Below.refl _ _, by omega⟩
    case round =>
      obtain ⟨k, hk, rfl, kv, rbox, rown, rb, rsz⟩ := hrel
      have hbw := hb1.trans (rb.mono hcc)
      by_cases hlt : k < B.length
      · obtain ⟨kao, kac, rfl⟩ := owns_shape2 rown
        obtain ⟨bb, o, rfl, hbb, hcs⟩ := HX.out (by omega)
        obtain ⟨q0, q1, q2⟩ := hcs k hlt
        have q0 := ((bcell hbw).1 bb (o + k * 3) hbb).trans q0
        have q1 := ((bcell hbw).1 bb (o + k * 3 + 1) hbb).trans q1
        have q2 := ((bcell hbw).1 bb (o + k * 3 + 2) hbb).trans q2
        obtain ⟨p, hp⟩ : ∃ p, B[k] = p := ⟨_, rfl⟩
        have hst : B.take (k + 1) = B.take k ++ [p] := by rw [← hp]; exact List.take_succ_eq_append_getElem hlt
        rw [hp] at q0 q1 q2
        have HST := Lib.hid hst
        have rb2 := box_cell (i := 2) (box_alloc rbox (.cells #[.int .u64 p.k, .int .i64 p.f, .int .i64 p.t] 40))
        simp only [List.getElem?_toArray, List.getElem?_cons_zero, List.getElem?_cons_succ] at rb2
        have HR3 := Lib.hid (show (((wr.alloc (.cells #[.int .u64 p.k, .int .i64 p.f, .int .i64 p.t] 40)).alloc (.cells #[.int .u64 p.k] 38)).drew).ownsRow (cc + 1) 38 1 (.slice kao k kac) k _ from (rown.alloc _).alloc _)
        have HN3 := Lib.hid (show ∀ j u, [Value.int .u64 p.k][j]? = some u → (((wr.alloc (.cells #[.int .u64 p.k, .int .i64 p.f, .int .i64 p.t] 40)).alloc (.cells #[.int .u64 p.k] 38)).drew).cell? ((⟨wr.heap.size + 1, 0, none⟩ : Addr).add j) = some u from cells_newAt (wr.alloc (.cells #[.int .u64 p.k, .int .i64 p.f, .int .i64 p.t] 40)) [.int .u64 p.k] 38 _ (by simp))
        have HB3 := Lib.hid (show (((wr.alloc (.cells #[.int .u64 p.k, .int .i64 p.f, .int .i64 p.t] 40)).alloc (.cells #[.int .u64 p.k] 38)).drew).heap[cc]? = _ from box_alloc (box_alloc rbox _) _)
        have rb3 := box_cell (i := 2) (box_alloc (box_alloc rbox (.cells #[.int .u64 p.k, .int .i64 p.f, .int .i64 p.t] 40)) (.cells #[.int .u64 p.k] 38))
        simp only [List.getElem?_toArray, List.getElem?_cons_zero, List.getElem?_cons_succ] at rb3
        have HZ3 := Lib.hid (show cc + 1 ≤ (((wr.alloc (.cells #[.int .u64 p.k, .int .i64 p.f, .int .i64 p.t] 40)).alloc (.cells #[.int .u64 p.k] 38)).drew).heap.size by show cc + 1 ≤ ((wr.alloc _).alloc _).heap.size; simp; omega)
        clear hcs hst hp
        go_wp2_with fail
        go_region_law (first
          | (refine step_append_lies _ rfl (.tmp 33) (.tmp 36) 23 rfl (cc + 1) 38 i0 _ 1 8 Try.underlying23 hi hz0 hz1 hz2 rfl (by decide) (.slice kao k kac) k _ rfl HR3.out ⟨wr.heap.size + 1, 0, none⟩ 1 1 [.int .u64 p.k] rfl rfl HN3.out (by simp [Value.oneCell']) (by omega) (by unfold maxLen; omega) (by omega) HZ3.out _ rfl ?_; intro g6 cap6 w6 hown6 hgrow6 hat6 hlt6; have hb6 := box_grown HR3.out hgrow6 HB3.out (by decide); have t2 := box_cell (i := 2) hb6; have f2 := box_frozen (i := 2) hb6; simp only [List.getElem?_toArray, List.getElem?_cons_zero, List.getElem?_cons_succ] at t2))
        all_goals go_wp2
        all_goals go_roundw
        all_goals first
          | (simp [intOf]; omega)
          | exact ⟨k + 1, by omega, by go_num, NewAt.next rb rsz rown HST.out (later_trans (later_trans (later_alloc wr _) (later_alloc _ _)) (later_drew _)) hown6 hgrow6 hb6⟩
      · obtain rfl : k = B.length := by omega
        have e : B.take B.length = B := List.take_of_length_le (Nat.le_refl _)
        rw [e] at rown
        obtain ⟨kao, kac, rfl⟩ := owns_shape2 rown
        go_wp2_with fail
        go_ret2
        refine ⟨cc, rfl, hbw, hcc, fun C hC hno => ?_⟩
        refine ⟨_, _, _, [], ⟨rbox, by omega, Nat.le_refl _, World.ownsRow_nil _ _ _ _⟩, hC, ?_, ?_, ?_, ?_, ?_, ?_, rfl⟩
        · exact ⟨by have := SlC.of_owns rown; simpa [keysOf] using this, fun x hx => by obtain ⟨b, hb, rfl⟩ := List.mem_map.1 hx; exact (HBs.out b hb).1⟩
        · exact ⟨SlT.of_owns (owns_later' rb HOB.out HLB.out), HBs.out⟩
        · exact ⟨SlC.of_owns (owns_later' rb HOL.out HLL.out), HLs.out⟩
        · intro b hb
          have := rown.lt b hb
          exact ⟨this.2, hno b (by omega) this.2 (by omega)⟩
        · intro b hb
          have := HLB.out b hb
          exact ⟨by omega, hno b (by omega) (by omega) (by omega)⟩
        · intro b hb
          have := HLL.out b hb
          exact ⟨by omega, hno b (by omega) (by omega) (by omega)⟩
end Go.Proofs.Ytdfnfdgkhflonaa
