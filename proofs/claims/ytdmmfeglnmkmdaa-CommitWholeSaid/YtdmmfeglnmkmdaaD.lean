/- The disk: how it lies in memory; given, call, find. -/
import Derived.Test.YtdmmfeglnmkmdaaA
import Derived.Maps.OwnSet
import Derived.Maps.Views
namespace Go.Proofs.Ytdmmfeglnmkmdaa
open Go.RowKit Go.Maps

/-- A file's datum: its bytes, and how many of them are kept. -/
def fd (s : List UInt8) (k : Int) : DataW Unit := .agg [.lit (.string s), .lit (.int .i64 k)]
def fileElem : Value → Option (DataW Unit × List MemPlace)
  | .agg cs => match cs.toList with
    | [.string s, .int .i64 k] => if 0 ≤ k ∧ k ≤ s.size then some (fd s.data.toList k, []) else none
    | _ => none
  | _ => none
theorem fileElem_mk (s : ByteArray) (k : Int) (h0 : 0 ≤ k) (h1 : k ≤ s.size) : fileElem (.agg #[.string s, .int .i64 k]) = some (fd s.data.toList k, []) := by
  simp [fileElem, h0, h1]
theorem fileElem_inv {v : Value} {z : DataW Unit × List MemPlace} (h : fileElem v = some z) : ∃ (s : ByteArray) (k : Int), v = .agg #[.string s, .int .i64 k] ∧ z = (fd s.data.toList k, []) ∧ 0 ≤ k ∧ k ≤ s.size := by
  unfold fileElem at h
  split at h
  · rename_i cs
    split at h
    · rename_i s k hcs
      split at h
      · rename_i hk
        cases h
        refine ⟨s, k, ?_, rfl, hk.1, hk.2⟩
        obtain ⟨l⟩ := cs
        simp at hcs
        subst hcs
        rfl
      · cases h
    · cases h
  · cases h

/-- How many bytes a datum's file has; how many all files have. -/
def lenOf : DataW Unit → Nat
  | .agg (.lit (.string s) :: _) => s.length
  | _ => 0
def total : DataW Unit → Nat
  | .map es => (es.map fun p => lenOf p.2).sum
  | _ => 0

structure Dk where
  room : Nat
  D : DataW Unit
  fuse : Int
  down : Bool
  calls : Int

structure Dk.ok (x : Dk) : Prop where
  room : x.room ≤ 16777216
  fits : total x.D ≤ x.room
  few : Maps.size x.D ≤ 200
  f0 : -1 ≤ x.fuse
  f1 : x.fuse ≤ 9223372036854775807

/-- The disk's seven cells. -/
def dkCells (x : Dk) (m : Nat) : Array Value := #[.bool true, .int .i64 x.room, .int .i64 (total x.D), .map (some m), .int .i64 x.fuse, .bool x.down, .int .i64 x.calls]
structure IsDisk (w : World) (d m : Nat) (x : Dk) : Prop where
  ne : m ≠ d
  blk : w.heap[d]? = some (.cells (dkCells x m) 66 (0, 0))
  own : w.ownsMap Try.prog 9 fileElem m (Maps.size x.D) x.D
  ok : x.ok

/-- All elder blocks but the disk's two stand. -/
structure Turn (d m : Nat) (w w' : World) : Prop where
  os : w'.os = w.os
  tape : w'.tape = w.tape
  output : w'.output = w.output
  size : w.heap.size ≤ w'.heap.size
  block : ∀ i, i < w.heap.size → i ≠ d → i ≠ m → w'.heap[i]? = w.heap[i]?
theorem Turn.refl (d m : Nat) (w : World) : Turn d m w w := ⟨rfl, rfl, rfl, Nat.le_refl _, fun _ _ _ _ => rfl⟩
theorem Turn.trans {d m : Nat} {w w1 w2 : World} (h : Turn d m w w1) (k : Turn d m w1 w2) : Turn d m w w2 :=
  ⟨k.os.trans h.os, k.tape.trans h.tape, k.output.trans h.output, Nat.le_trans h.size k.size, fun i hi h1 h2 => (k.block i (Nat.lt_of_lt_of_le hi h.size) h1 h2).trans (h.block i hi h1 h2)⟩
theorem Turn.of_below {d m : Nat} {w w1 : World} (h : Below w.heap.size w w1) : Turn d m w w1 := ⟨h.os, h.tape, h.output, h.size, fun i hi _ _ => h.block i hi⟩
theorem Turn.setD {d m : Nat} {w w1 : World} (h : Turn d m w w1) (o : Nat) (u : Value) : Turn d m w (w1.setCell ⟨d, o, none⟩ u) :=
  ⟨h.os, h.tape, h.output, by simpa [World.setCell] using h.size, fun i hi h1 h2 => (Below.heap_setCell w1 ⟨d, o, none⟩ u i h1).trans (h.block i hi h1 h2)⟩
theorem Turn.alloc {d m : Nat} {w w1 : World} (h : Turn d m w w1) (o : Obj) : Turn d m w (w1.alloc o) :=
  ⟨h.os, h.tape, h.output, Nat.le_trans h.size (by simp), fun i hi h1 h2 => (Below.heap_alloc w1 o i (Nat.lt_of_lt_of_le hi h.size)).trans (h.block i hi h1 h2)⟩
theorem Turn.setNew {d m : Nat} {w w1 : World} (h : Turn d m w w1) (b : Nat) (hb : w.heap.size ≤ b) (o : Nat) (u : Value) : Turn d m w (w1.setCell ⟨b, o, none⟩ u) :=
  ⟨h.os, h.tape, h.output, by simpa [World.setCell] using h.size, fun i hi h1 h2 => (Below.heap_setCell w1 ⟨b, o, none⟩ u i (by show i ≠ b; omega)).trans (h.block i hi h1 h2)⟩
theorem Turn.drewN {d m : Nat} {w w1 : World} (h : Turn d m w w1) (n : Nat) : Turn d m w (w1.drewN n) := ⟨h.os, h.tape, h.output, h.size, h.block⟩
theorem Turn.drew {d m : Nat} {w w1 : World} (h : Turn d m w w1) : Turn d m w w1.drew := ⟨h.os, h.tape, h.output, h.size, h.block⟩
theorem Turn.grown {d m : Nat} {w w1 w2 : World} (h : Turn d m w w1) (hg : w1.grownBy w2 (some m)) : Turn d m w w2 :=
  ⟨hg.os.trans h.os, hg.tape.trans h.tape, hg.output.trans h.output, Nat.le_trans h.size hg.size, fun i hi h1 h2 => (hg.block i (Nat.lt_of_lt_of_le hi h.size) (fun e => h2 (by cases e; rfl))).trans (h.block i hi h1 h2)⟩
theorem Turn.below {d m B : Nat} {w w1 : World} (h : Turn d m w w1) (hB : B ≤ w.heap.size) (hd : B ≤ d) (hm : B ≤ m) : Below B w w1 :=
  ⟨h.os, h.tape, h.output, h.size, fun i hi => h.block i (by omega) (by omega) (by omega)⟩

theorem IsDisk.turned {w w1 : World} {d m : Nat} {x : Dk} (h : IsDisk w d m x) (hd : w1.heap[d]? = w.heap[d]?) (hm : w1.heap[m]? = w.heap[m]?) : IsDisk w1 d m x := by
  obtain ⟨es, clock, hb, F, hs, hD⟩ := h.own
  exact ⟨h.ne, hd.trans h.blk, ⟨es, clock, hm.trans hb, F, hs, hD⟩, h.ok⟩
theorem IsDisk.ltd {w : World} {d m : Nat} {x : Dk} (h : IsDisk w d m x) : d < w.heap.size := (Array.getElem?_eq_some_iff.1 h.blk).1
theorem IsDisk.ltm {w : World} {d m : Nat} {x : Dk} (h : IsDisk w d m x) : m < w.heap.size := h.own.lt
theorem IsDisk.below {w w1 : World} {d m : Nat} {x : Dk} (h : IsDisk w d m x) (hb : Below w.heap.size w w1) : IsDisk w1 d m x := h.turned (hb.block d h.ltd) (hb.block m h.ltm)
theorem IsDisk.alloc {w : World} {d m : Nat} {x : Dk} (h : IsDisk w d m x) (o : Obj) : IsDisk (w.alloc o) d m x := h.turned (Below.heap_alloc w o d h.ltd) (Below.heap_alloc w o m h.ltm)
theorem IsDisk.setNew {w : World} {d m : Nat} {x : Dk} (h : IsDisk w d m x) (b : Nat) (hd : b ≠ d) (hm : b ≠ m) (o : Nat) (u : Value) : IsDisk (w.setCell ⟨b, o, none⟩ u) d m x :=
  h.turned (Below.heap_setCell w ⟨b, o, none⟩ u d (by simpa using hd.symm)) (Below.heap_setCell w ⟨b, o, none⟩ u m (by simpa using hm.symm))
theorem IsDisk.drewN {w : World} {d m : Nat} {x : Dk} (h : IsDisk w d m x) (n : Nat) : IsDisk (w.drewN n) d m x := ⟨h.ne, h.blk, h.own, h.ok⟩
theorem IsDisk.drew {w : World} {d m : Nat} {x : Dk} (h : IsDisk w d m x) : IsDisk w.drew d m x := ⟨h.ne, h.blk, h.own, h.ok⟩

/-- The disk's cells, one by one. -/
theorem IsDisk.c {w : World} {d m : Nat} {x : Dk} (h : IsDisk w d m x) (i : Nat) : w.cell? ⟨d, i, none⟩ = (dkCells x m)[i]? := Lib.cell_of_heap h.blk i
theorem IsDisk.fz {w : World} {d m : Nat} {x : Dk} (h : IsDisk w d m x) (i : Nat) : w.frozen? ⟨d, i, none⟩ = false := Lib.frozen_of_heap h.blk i

def Dk.called (x : Dk) : Dk := { x with calls := wrap64 (x.calls + 1), down := x.down || (x.fuse == 0), fuse := if -1 < x.fuse then x.fuse - 1 else x.fuse }
def Dk.callE (x : Dk) : Int := if (x.down || (x.fuse == 0)) = true then 5 else 0
theorem Dk.ok.called {x : Dk} (h : x.ok) : x.called.ok := by
  refine ⟨h.room, h.fits, h.few, ?_, ?_⟩
  · have := h.f0
    simp only [Dk.called]
    split <;> omega
  · have := h.f1
    simp only [Dk.called]
    split <;> omega

set_option maxHeartbeats 400000 in
theorem given_so (d : Nat) (w : World) (h : w.cell? ⟨d, 0, none⟩ = some (.bool true)) : Calls Try.prog 28 #[.pointer (some ⟨d, 0, none⟩)] w fun e w' => e = .returned (.bool true) ∧ w = w' := by
  go_enter Try.func28, Try.ntmps28
  go_wp2
  go_ret
  exact ⟨rfl, rfl⟩

set_option maxHeartbeats 400000 in
theorem call_no (d m : Nat) (x : Dk) (w : World) (h : IsDisk w d m x) : Calls Try.prog 85 #[.pointer (some ⟨d, 0, none⟩), .bool false] w fun e w' => e = .returned (.int .i64 1) ∧ w = w' := by
  go_enter Try.func85, Try.ntmps85
  go_wp2_with (go_at_call 28; refine (given_so _ _ (h.c 0)).mono ?_; rintro e w' ⟨rfl, rfl⟩)
  go_ret
  exact ⟨rfl, rfl⟩

set_option maxHeartbeats 1000000 in
theorem call_any (d m : Nat) (x : Dk) (w : World) (h : IsDisk w d m x) :
    Calls Try.prog 85 #[.pointer (some ⟨d, 0, none⟩), .bool true] w fun e w' => e = .returned (.int .i64 x.callE) ∧ IsDisk w' d m x.called ∧ Turn d m w w' := by
  have c0 : w.cell? ⟨d, 0, none⟩ = some (.bool true) := h.c 0
  have c4 : w.cell? ⟨d, 4, none⟩ = some (.int .i64 x.fuse) := h.c 4
  have c5 : w.cell? ⟨d, 5, none⟩ = some (.bool x.down) := h.c 5
  have c6 : w.cell? ⟨d, 6, none⟩ = some (.int .i64 x.calls) := h.c 6
  have z4 := h.fz 4
  have z5 := h.fz 5
  have z6 := h.fz 6
  have f0 := h.ok.f0
  have f1 := h.ok.f1
  have hok := h.ok.called
  have key : ∀ w', w'.heap[d]? = some (.cells (dkCells x.called m) 66 (0, 0)) → w'.heap[m]? = w.heap[m]? → IsDisk w' d m x.called := by
    intro w' hd hm
    obtain ⟨es, clock, hb, F, hs, hD⟩ := h.own
    exact ⟨h.ne, hd, ⟨es, clock, hm.trans hb, F, hs, hD⟩, hok⟩
  have hblk := h.blk
  have hne := h.ne
  have T := Turn.refl d m w
  clear h hok
  obtain ⟨room, D, fuse, down, calls⟩ := x
  simp only at c4 c5 c6 f0 f1
  cases down
  · by_cases hz : fuse = 0
    · subst hz
      go_enter Try.func85, Try.ntmps85
      go_wp2_with (go_at_call 28; refine (given_so _ _ c0).mono ?_; rintro e w' ⟨rfl, rfl⟩)
      go_ret
      refine ⟨rfl, key _ ?_ ?_, ((T.setD _ _).setD _ _).setD _ _⟩
      · simp [World.setCell, Array.getElem?_modify, hblk, dkCells, Dk.called]
      · simp [World.setCell, Array.getElem?_modify, hne.symm]
    · by_cases hp : -1 < fuse
      · go_enter Try.func85, Try.ntmps85
        go_wp2_with (go_at_call 28; refine (given_so _ _ c0).mono ?_; rintro e w' ⟨rfl, rfl⟩)
        go_ret
        refine ⟨by simp [Dk.callE, hz], key _ ?_ ?_, ((T.setD _ _).setD _ _).setD _ _⟩
        · simp [World.setCell, Array.getElem?_modify, hblk, dkCells, Dk.called, hp]
        · simp [World.setCell, Array.getElem?_modify, hne.symm]
      · obtain rfl : fuse = -1 := by omega
        go_enter Try.func85, Try.ntmps85
        go_wp2_with (go_at_call 28; refine (given_so _ _ c0).mono ?_; rintro e w' ⟨rfl, rfl⟩)
        go_ret
        refine ⟨by simp [Dk.callE], key _ ?_ ?_, (T.setD _ _).setD _ _⟩
        · simp [World.setCell, Array.getElem?_modify, hblk, dkCells, Dk.called]
        · simp [World.setCell, Array.getElem?_modify, hne.symm]
  · by_cases hp : -1 < fuse
    · go_enter Try.func85, Try.ntmps85
      go_wp2_with (go_at_call 28; refine (given_so _ _ c0).mono ?_; rintro e w' ⟨rfl, rfl⟩)
      go_ret
      refine ⟨by simp [Dk.callE], key _ ?_ ?_, ((T.setD _ _).setD _ _).setD _ _⟩
      · simp [World.setCell, Array.getElem?_modify, hblk, dkCells, Dk.called, hp]
      · simp [World.setCell, Array.getElem?_modify, hne.symm]
    · obtain rfl : fuse = -1 := by omega
      go_enter Try.func85, Try.ntmps85
      go_wp2_with (go_at_call 28; refine (given_so _ _ c0).mono ?_; rintro e w' ⟨rfl, rfl⟩)
      go_ret
      refine ⟨by simp [Dk.callE], key _ ?_ ?_, (T.setD _ _).setD _ _⟩
      · simp [World.setCell, Array.getElem?_modify, hblk, dkCells, Dk.called]
      · simp [World.setCell, Array.getElem?_modify, hne.symm]
end Go.Proofs.Ytdmmfeglnmkmdaa
