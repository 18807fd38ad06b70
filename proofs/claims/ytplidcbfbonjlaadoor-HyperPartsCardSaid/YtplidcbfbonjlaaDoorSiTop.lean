/-
  slices.Sort at int: all of it. (Turned from the library's walk at int by mksort.py.)
-/
import Derived.Sort.AssemblyPlain
import Derived.Sort.OwnSortedInts
import Derived.Test.YtplidcbfbonjlaaDoorSiA6
import Derived.Test.YtplidcbfbonjlaaDoorSiC
import Derived.Test.YtplidcbfbonjlaaDoorSiC4
import Derived.Test.YtplidcbfbonjlaaDoorSiD
import Derived.Test.YtplidcbfbonjlaaDoorSi7
import Derived.Test.YtplidcbfbonjlaaDoorSi13
namespace Go.Proofs.YtplidcbfbonjlaaDoor
open Go.RowKit Go.Sort
set_option linter.unusedVariables false

theorem calleesU : CalleesU where
  ins := insSort_any
  brk := breakPatterns_u64
  piv := choosePivot_u64
  par := partialInsertionSort_u64
  peq := partitionEqualOrdered_u64
  prt := partitionOrdered_u64

theorem plain13 : Plain13 where
  swo := swo_ltInt
  ins := insertionSort_holds
  par := partialInsertionSort_holds
  prt := partition_holds _
  peq := partitionEqual_holds _
  pdq := pdq_sorts _

def pdqWalk_u : Prop := ∀ (blk off cap a b limit : Nat) (d : Array Int) (w : World), Holds (Value.int .i64) w blk off d → blk < w.heap.size → a ≤ b → b ≤ d.size → d.size < 256 → limit < 4611686018427387904 → Below ltInt a b d →
  Calls Tryd.prog 54 #[.slice (some ⟨blk, off, none⟩) d.size cap, .int .i64 a, .int .i64 b, .int .i64 limit] w fun e w' =>
    e = .returned (.tuple #[]) ∧ ∃ n os, w' = grow (putRow (Value.int .i64) (Sort.ahead w n) blk off (Sort.pdq ltInt d a b limit true true)) os
theorem pdqWalkU : pdqWalk_u := fun blk off cap a b limit d w hH hb hab hbd hsz hl hB =>
  pdqsort_u64 calleesU plain13 (b - a + 1) blk off cap a b limit d w (by omega) hH hb hab hbd hsz hl hB

set_option maxRecDepth 100000 in
theorem Sort_u64 (hpdq : pdqWalk_u) (blk off cap : Nat) (d : Array Int) (w : World) (hH : Holds (Value.int .i64) w blk off d) (hblk : blk < w.heap.size) (hsz : d.size < 256) :
    Calls Tryd.prog 27 #[.slice (some ⟨blk, off, none⟩) d.size cap] w fun e w' => e = .returned (.tuple #[]) ∧ ∃ n os, w' = grow (putRow (Value.int .i64) (Sort.ahead w n) blk off (Sort.sort ltInt d)) os := by
  have HH : Hid (Holds (Value.int .i64) w blk off d) := hH
  clear hH
  have hLen : ∀ w, Calls Tryd.prog 55 #[.int .u64 (d.size : Int)] w fun e w' => e = .returned (.int .i64 (bitsLen d.size : Nat)) ∧ w' = w := fun w => by
    have h := bitsU_Len (d.size : Int) w (by omega) (by omega)
    rwa [Int.toNat_natCast, bitLen_eq _ (by omega)] at h
  have hk : bitsLen d.size ≤ 62 := (bitsLen_le_iff d.size 62).2 (by omega)
  go_enter Tryd.func27, Tryd.ntmps27
  go_wp2_with (first
    | (go_at_call 55; refine (hLen _).mono ?_; rintro e w' ⟨rfl, rfl⟩)
    | (go_at_call 54; refine (hpdq blk off cap 0 d.size (bitsLen d.size) d _ (by exact HH.out) (by exact hblk) (Nat.zero_le _) (Nat.le_refl _) hsz (by omega) (Or.inl rfl)).mono ?_; rintro e w' ⟨rfl, n, os, rfl⟩))
  go_end0
  exact ⟨rfl, n, os, rfl⟩

theorem sort_int_eq (zs : List Int) : Sort.sort ltInt zs.toArray = (zs.mergeSort fun x y => decide (x ≤ y)).toArray := by
  rw [← sortInt zs]

theorem sorts_u64 (blk off cap : Nat) (zs : List Int) (w : World) (hH : Holds (Value.int .i64) w blk off zs.toArray) (hblk : blk < w.heap.size) (hsz : zs.length < 256) :
    Calls Tryd.prog 27 #[.slice (some ⟨blk, off, none⟩) zs.length cap] w fun e w' =>
      e = .returned (.tuple #[]) ∧ ∃ n os, w' = grow (putRow (Value.int .i64) (Sort.ahead w n) blk off (zs.mergeSort fun x y => decide (x ≤ y)).toArray) os := by
  have h := Sort_u64 pdqWalkU blk off cap zs.toArray w hH hblk (by simpa using hsz)
  rw [sort_int_eq] at h
  simpa using h

end Go.Proofs.YtplidcbfbonjlaaDoor
