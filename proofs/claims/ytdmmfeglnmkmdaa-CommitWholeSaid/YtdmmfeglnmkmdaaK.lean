/- The disk: New, Arm, and its files' names. -/
import Derived.Test.YtdmmfeglnmkmdaaJ
import Derived.Test.YtdmmfeglnmkmdaaIter
import Derived.Carry
namespace Go.Proofs.Ytdmmfeglnmkmdaa
open Go.RowKit Go.Maps Go.Sort

def newDk (room : Nat) : Dk := ⟨room, .map [], -1, false, 0⟩
set_option maxHeartbeats 1000000 in
set_option maxRecDepth 100000 in
theorem new_any (room : Nat) (hr : room ≤ 16777216) (w : World) :
    Calls Try.prog 7 #[.int .i64 room] w fun e w' => e = .returned (.tuple #[.pointer (some ⟨w.heap.size + 1, 0, none⟩), .int .i64 0]) ∧ IsDisk w' (w.heap.size + 1) w.heap.size (newDk room) ∧ Below w.heap.size w w' := by
  have hmm := @run_makeMap Try.prog
  go_enter Try.func7, Try.ntmps7
  go_wp2
  go_ret2
  refine ⟨rfl, ⟨by omega, ?_, ?_, ⟨hr, Nat.zero_le _, Nat.zero_le _, Int.le_refl _, by simp [newDk]⟩⟩, ?_⟩
  · have e := (MapKept.heap_alloc (w.alloc (.map #[] 0)) (.cells (dkCells (newDk room) w.heap.size) 66)).1
    simpa [dkCells, newDk, total] using e
  · exact (World.ownsMap_made (H := Unit) w Try.prog 9 fileElem).alloc _
  · exact ((Below.refl _ w).alloc (Nat.le_refl _) _).alloc (by simp) _

def Dk.armed (x : Dk) (n : Int) : Dk := { x with fuse := max (-1) n }
set_option maxHeartbeats 1000000 in
set_option maxRecDepth 100000 in
theorem arm_any (d m : Nat) (x : Dk) (n : Int) (w : World) (h : IsDisk w d m x) (hn : n ≤ 9223372036854775807) :
    Calls Try.prog 8 #[.pointer (some ⟨d, 0, none⟩), .int .i64 n] w fun e w' => e = .returned (.tuple #[]) ∧ IsDisk w' d m (x.armed n) ∧ Turn d m w w' := by
  have z4 := h.fz 4
  have c4 : w.cell? ⟨d, 4, none⟩ = some (.int .i64 x.fuse) := h.c 4
  go_enter Try.func8, Try.ntmps8
  go_wp2_with (go_at_call 28; refine (given_so _ _ (h.c 0)).mono ?_; rintro e w' ⟨rfl, rfl⟩)
  go_end0
  refine ⟨rfl, ⟨h.ne, ?_, h.own.setCell (a := ⟨d, 4, none⟩) h.ne _, ⟨h.ok.room, h.ok.fits, h.ok.few, ?_, ?_⟩⟩, (Turn.refl d m w).setD _ _⟩
  · simp [World.setCell, Array.getElem?_modify, h.blk, dkCells, Dk.armed]
  · simp only [Dk.armed]; omega
  · simp only [Dk.armed]; omega

def Names (x : Dk) (W : World) (base : Nat) (v : Value) (ss : List (List UInt8)) : Prop :=
  ss.Perm (strKeys x.D) ∧ W.ownsRow base 9 1 v ss.length ((ss.mergeSort (fun x y => decide (x ≤ y))).map encStr)
set_option maxHeartbeats 1000000 in
set_option maxRecDepth 100000 in
theorem names_any (d m : Nat) (x : Dk) (w : World) (h : IsDisk w d m x) :
    Calls Try.prog 40 #[.pointer (some ⟨d, 0, none⟩)] w fun e w' => ∃ v ss, e = .returned v ∧ Names x w' w.heap.size v ss ∧ Below w.heap.size w w' := by
  have c3 : w.cell? ⟨d, 3, none⟩ = some (.map (some m)) := h.c 3
  have hfew := h.ok.few
  go_enter Try.func40, Try.ntmps40
  go_wp2_with fail
  refine (callsIn_wide.1 (Try.maps_Keys_72 (some m) w)).mono ?_
  rintro e w1 ⟨rfl, rfl⟩
  go_wp2_with fail
  refine (callsIn_wide.1 (Try.slices_Sorted_keys_71_72 m _ x.D fileElem w h.own (by unfold maxLen; omega) (by omega))).mono ?_
  rintro e w2 ⟨v, ss, rfl, hS, hrow, hnil, hb⟩
  go_wp2
  go_ret
  exact ⟨v, ss, rfl, ⟨hS, ownsRow_base_a hrow (by simp)⟩, ((Below.refl _ w).alloc (Nat.le_refl _) _).trans (hb.mono (by simp))⟩
end Go.Proofs.Ytdmmfeglnmkmdaa
