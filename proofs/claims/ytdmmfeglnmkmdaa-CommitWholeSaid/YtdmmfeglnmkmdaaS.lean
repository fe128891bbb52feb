/- strings.Builder's WriteString out of the shelf, laid by hand, and its contract with a frame that keeps every elder block but the builder's own. -/
import Derived.Test.YtdmmfeglnmkmdaaShelf
import Derived.Test.YtdmmfeglnmkmdaaA
import Derived.Lib.Builder
import Derived.Lib.AppendStr
import Derived.WalkKit
import Derived.IntWalk
namespace Go.Proofs
def Try.builder_ren : Go.Shelf.Ren := ⟨fun | 166 => 64 | 240 => 89 | 276 => 107 | n => n, fun | 9 => 9 | 3 => 3 | 4 => 4 | 0 => 0 | 20 => 20 | 72 => 99 | 70 => 96 | 37 => 97 | 75 => 101 | 80 => 105 | 164 => 143 | 5 => 5 | n => n, fun | n => n⟩
theorem Try.laysB166 : Lays.n166 Try.prog Try.builder_ren := {
  mixed := by kernel_rfl
  f166 := Try.func64.trans (congrArg some (by kernel_rfl))
  f240 := Try.func89.trans (congrArg some (by kernel_rfl))
  f276 := Try.func107.trans (congrArg some (by kernel_rfl))
  t0 := Try.underlying0
  a0 := Try.isAgg0
  z0 := Try.sizeOf0
  v0 := Try.zeroValue0
  t3 := Try.underlying3
  a3 := Try.isAgg3
  z3 := Try.sizeOf3
  v3 := Try.zeroValue3
  t4 := Try.underlying4
  a4 := Try.isAgg4
  z4 := Try.sizeOf4
  v4 := Try.zeroValue4
  t9 := Try.underlying9
  a9 := Try.isAgg9
  z9 := Try.sizeOf9
  v9 := Try.zeroValue9
  t20 := Try.underlying20
  a20 := Try.isAgg20
  z20 := Try.sizeOf20
  v20 := Try.zeroValue20
  t37 := Try.underlying97
  a37 := Try.isAgg97
  z37 := Try.sizeOf97
  v37 := Try.zeroValue97
  t70 := Try.underlying96
  a70 := Try.isAgg96
  z70 := Try.sizeOf96
  v70 := Try.zeroValue96
  t72 := Try.underlying99
  a72 := Try.isAgg99
  z72 := Try.sizeOf99
  v72 := Try.zeroValue99
  t75 := Try.underlying101
  a75 := Try.isAgg101
  z75 := Try.sizeOf101
  v75 := Try.zeroValue101
  t164 := Try.underlying143
  a164 := Try.isAgg143
  z164 := Try.sizeOf143
  v164 := Try.zeroValue143 }
theorem Try.builder_extra : Builder.Extra Try.prog Try.builder_ren := {
  sizeBuilder := by kernel_rfl
  liesBuilder := by kernel_rfl
  t5 := Try.underlying5
  a5 := Try.isAgg5
  z5 := Try.sizeOf5
  v5 := Try.zeroValue5
  infoByte := by kernel_rfl
  cellsByte := by kernel_rfl
  sizeByte := by kernel_rfl
  neB5 := by decide }
end Go.Proofs
namespace Go.Proofs.Ytdmmfeglnmkmdaa
open Go.RowKit
theorem Try.laysB240 : Lays.n240 Try.prog Try.builder_ren := { Try.laysB166 with }

/-- A builder in block b that holds bs; its row of bytes lies in no block below N. -/
def Bl (N b : Nat) (bs : List Value) (w : World) : Prop :=
  b < N ∧ N ≤ w.heap.size ∧ ∃ p v, w.heap[b]? = some (.cells #[p, v] 99 (0, 0)) ∧ (p = .pointer none ∨ p = .pointer (some ⟨b, 0, none⟩)) ∧ w.ownsRow N 5 1 v bs.length bs

/-- Of the blocks below N all but b stand; so do all blocks of another element type than byte. -/
structure But (N b : Nat) (w w' : World) : Prop where
  os : w'.os = w.os
  tape : w'.tape = w.tape
  output : w'.output = w.output
  size : w.heap.size ≤ w'.heap.size
  block : ∀ i, i < N → i ≠ b → w'.heap[i]? = w.heap[i]?
  other : ∀ i cs t fr, w.heap[i]? = some (.cells cs t fr) → t ≠ 5 → i ≠ b → w'.heap[i]? = w.heap[i]?

theorem But.refl (N b : Nat) (w : World) : But N b w w := ⟨rfl, rfl, rfl, Nat.le_refl _, fun _ _ _ => rfl, fun _ _ _ _ _ _ _ => rfl⟩
theorem But.trans {N b : Nat} {w w1 w2 : World} (h : But N b w w1) (k : But N b w1 w2) : But N b w w2 :=
  ⟨k.os.trans h.os, k.tape.trans h.tape, k.output.trans h.output, Nat.le_trans h.size k.size, fun i hi hb => (k.block i hi hb).trans (h.block i hi hb),
    fun i cs t fr hi ht hb => (k.other i cs t fr ((h.other i cs t fr hi ht hb).trans hi) ht hb).trans (h.other i cs t fr hi ht hb)⟩
theorem But.setB {N b : Nat} {w w1 : World} (h : But N b w w1) (o : Nat) (u : Value) : But N b w (w1.setCell ⟨b, o, none⟩ u) :=
  ⟨h.os, h.tape, h.output, by simpa [World.setCell] using h.size, fun i hi hb => (Below.heap_setCell w1 ⟨b, o, none⟩ u i hb).trans (h.block i hi hb),
    fun i cs t fr hi ht hb => (Below.heap_setCell w1 ⟨b, o, none⟩ u i hb).trans (h.other i cs t fr hi ht hb)⟩
theorem But.alloc {N b : Nat} {w w1 : World} (h : But N b w w1) (hN : N ≤ w1.heap.size) (o : Obj) : But N b w (w1.alloc o) :=
  ⟨h.os, h.tape, h.output, Nat.le_trans h.size (by simp), fun i hi hb => (Below.heap_alloc w1 o i (by omega)).trans (h.block i hi hb),
    fun i cs t fr hi ht hb => (Below.heap_alloc w1 o i (Nat.lt_of_lt_of_le (heap_lt hi) h.size)).trans (h.other i cs t fr hi ht hb)⟩
theorem But.drewN {N b : Nat} {w w1 : World} (h : But N b w w1) (n : Nat) : But N b w (w1.drewN n) := ⟨h.os, h.tape, h.output, h.size, h.block, h.other⟩
theorem But.grown {N b : Nat} {w w1 w2 : World} (h : But N b w w1) {row : Option Nat} (hg : w1.grownBy w2 row) (hN : N ≤ w1.heap.size) (hr : ∀ k, row = some k → N ≤ k)
    (hr2 : ∀ k cs t fr, row = some k → w1.heap[k]? = some (.cells cs t fr) → t = 5) : But N b w w2 :=
  ⟨hg.os.trans h.os, hg.tape.trans h.tape, hg.output.trans h.output, Nat.le_trans h.size hg.size, fun i hi hb => (hg.block i (by omega) (fun e => by have := hr i e.symm; omega)).trans (h.block i hi hb),
    fun i cs t fr hi ht hb => (hg.block i (Nat.lt_of_lt_of_le (heap_lt hi) h.size) (fun e => ht (hr2 i cs t fr e.symm ((h.other i cs t fr hi ht hb).trans hi)))).trans (h.other i cs t fr hi ht hb)⟩
theorem own_type {w : World} {base : Nat} {e : TypeId} {size n : Nat} {v : Value} {xs : List Value} (h : w.ownsRow base e size v n xs) (k : Nat) (cs : Array Value) (t : TypeId) (fr : Nat × Nat) (hk : v.ownBlock = some k) (hc : w.heap[k]? = some (.cells cs t fr)) : t = e := by
  rcases h.2 with ⟨rfl, _⟩ | ⟨g, cap, cur, rfl, _, hh, _⟩
  · cases hk
  · have e1 : g = k := by
      have e2 : some g = some k := hk
      injection e2
    subst e1
    rw [hh] at hc
    injection hc with hc
    injection hc with _ h2 _
    exact h2.symm
theorem But.of_below {N b : Nat} {w w1 : World} (hN : N ≤ w.heap.size) (hb : Below w.heap.size w w1) : But N b w w1 :=
  ⟨hb.os, hb.tape, hb.output, hb.size, fun i hi _ => hb.block i (by omega), fun i _ _ _ hi _ _ => hb.block i (heap_lt hi)⟩
theorem But.below {N b : Nat} {w w1 : World} (h : But N b w w1) (hb : b < N) : Below b w w1 :=
  ⟨h.os, h.tape, h.output, h.size, fun i hi => h.block i (by omega) (by omega)⟩
theorem But.cell {N b : Nat} {w w1 : World} (h : But N b w w1) {p : Addr} (hp : p.block < N) (hb : p.block ≠ b) : w1.cell? p = w.cell? p := World.cell?_of_block (w := w) (h.block p.block hp hb)

theorem Bl.blk {N b : Nat} {bs : List Value} {w : World} (h : Bl N b bs w) : ∃ p v, w.heap[b]? = some (.cells #[p, v] 99 (0, 0)) := by
  obtain ⟨_, _, p, v, h, _⟩ := h
  exact ⟨p, v, h⟩
theorem ne_row {w : World} {N b n : Nat} {v : Value} {bs : List Value} (hown : w.ownsRow N 5 1 v n bs) (hb : b < N) : v.ownBlock ≠ some b := fun e => by have := (hown.lt b e).1; omega
theorem own_lower {w : World} {base base' : Nat} {e : TypeId} {size n : Nat} {v : Value} {xs : List Value} (h : w.ownsRow base e size v n xs) (hb : base' ≤ base) : w.ownsRow base' e size v n xs := by
  refine ⟨h.1, ?_⟩
  rcases h.2 with h2 | ⟨g, cap, cur, hv, hg, r⟩
  · exact .inl h2
  · exact .inr ⟨g, cap, cur, hv, by omega, r⟩
theorem Bl.is {N b : Nat} {bs : List Value} {w : World} (h : Bl N b bs w) : Lib.IsBuilder 99 5 b b bs w := by
  obtain ⟨hb, hN, p, v, hk, hp, hown⟩ := h
  have hne := ne_row hown hb
  rcases hp with rfl | rfl
  · exact .inl ⟨Nat.le_refl _, v, hk, own_lower hown (by omega), hne⟩
  · exact .inr ⟨Nat.le_refl _, v, hk, own_lower hown (by omega), hne⟩

/-- copyCheck: behind it the builder holds its own address. -/
theorem check_any (N b : Nat) (bs : List Value) (w : World) (h : Bl N b bs w) :
    Calls Try.prog 89 #[.pointer (some ⟨b, 0, none⟩)] w fun e w' => e = .returned (.tuple #[]) ∧ (But N b w w' ∧ N ≤ w'.heap.size ∧ ∃ v, w'.heap[b]? = some (.cells #[.pointer (some ⟨b, 0, none⟩), v] 99 (0, 0)) ∧ w'.ownsRow N 5 1 v bs.length bs) := by
  obtain ⟨hb, hN, p, v, hk, hp, hown⟩ := h
  have c0 : w.cell? ⟨b, 0, none⟩ = some p := by rw [Lib.cell_of_heap hk]; rfl
  rcases hp with rfl | rfl
  · refine (Any.Builder_copyCheck_fresh Try.laysB240 Try.builder_extra.toX72 b w c0 (by simp [World.shape?, hk, Try.builder_ren]) (Lib.frozen_of_heap hk 0)).mono ?_
    rintro e w' ⟨rfl, rfl⟩
    refine ⟨rfl, (But.refl N b w).setB 0 _, by simpa [World.setCell] using hN, v, ?_, ?_⟩
    · simp [World.setCell, Array.getElem?_modify, hk]
    · exact ownsRow_setCell_below hown (by exact hb) _
  · refine (Any.Builder_copyCheck_used Try.laysB240 Try.builder_extra.toX72 b w c0).mono ?_
    rintro e w' ⟨rfl, rfl⟩
    exact ⟨rfl, But.refl N b _, hN, v, hk, hown⟩

theorem Try.info5 : (Try.prog.info? 5).map (fun i => (i.zero, i.size, i.bytes)) = some (some (.int .u8 0), 1, 1) := by kernel_rfl

set_option maxHeartbeats 1000000 in
set_option maxRecDepth 100000 in
theorem writeString_any (N b : Nat) (bs : List Value) (s : ByteArray) (w : World) (h : Bl N b bs w) (hlen : bs.length + s.size ≤ 140737488355328) :
    Calls Try.prog 64 #[.pointer (some ⟨b, 0, none⟩), .string s] w fun e w' => e = .returned (.tuple #[.int .i64 s.size, .nilIface]) ∧ (Bl N b (bs ++ Lib.strCells s) w' ∧ But N b w w') := by
  obtain ⟨i0, hi, hz0, hz1, hz2⟩ := info_parts Try.info5
  have hbN := h.1
  go_enter Try.func64, Try.ntmps64
  go_wp2_with (go_at_call 89; refine (check_any N b bs _ h).mono ?_)
  rintro e w1 ⟨rfl, hbut, hN1, v, hbk, hown⟩
  have hne := ne_row hown hbN
  have c0 : w1.cell? ⟨b, 0, none⟩ = some (.pointer (some ⟨b, 0, none⟩)) := by rw [Lib.cell_of_heap hbk]; rfl
  have c1 : w1.cell? ⟨b, 1, none⟩ = some v := by rw [Lib.cell_of_heap hbk]; rfl
  go_wp2_with (at_builtin; refine Lib.wpList_append_own_string _ rfl _ _ 97 9 rfl N 5 i0 Try.underlying97 Try.underlying9 hi hz0 hz1 hz2 _ _ _ rfl hown s rfl ?c3 ?c4 ?c5 ?_)
  case c3 => unfold maxLen; omega
  case c4 => omega
  case c5 => omega
  intro v' w2 hown' hgrow _
  have hlt : b < w1.heap.size := by omega
  have hb2 : w2.heap[b]? = some (.cells #[.pointer (some ⟨b, 0, none⟩), v] 99 (0, 0)) := by
    rw [hgrow.block b hlt (fun e => hne e.symm)]
    exact hbk
  have d0 : w2.cell? ⟨b, 0, none⟩ = some (.pointer (some ⟨b, 0, none⟩)) := by rw [Lib.cell_of_heap hb2]; rfl
  have d1 : w2.cell? ⟨b, 1, none⟩ = some v := by rw [Lib.cell_of_heap hb2]; rfl
  have f1 : w2.frozen? ⟨b, 1, none⟩ = false := Lib.frozen_of_heap hb2 1
  obtain ⟨ao, n', cap, rfl⟩ : ∃ ao n' cap, v' = .slice ao n' cap := by
    rcases hown'.2 with ⟨hv, _⟩ | ⟨g, cap, cur, hv, _⟩
    · exact ⟨_, _, _, hv⟩
    · exact ⟨_, _, _, hv⟩
  have hsz := hgrow.size
  go_wp2
  go_ret2
  refine ⟨rfl, ⟨hbN, by simp [World.setCell]; omega, .pointer (some ⟨b, 0, none⟩), .slice ao n' cap, ?_, .inr rfl, ?_⟩, ?_⟩
  · simp [World.setCell, Array.getElem?_modify, hb2]
  · exact ownsRow_setCell_below (by simpa [Lib.strCells_length] using hown') (by exact hbN) _
  · exact (hbut.grown hgrow hN1 (fun k hk => (hown.lt k hk).1) (fun k cs t fr hk hc => own_type hown k cs t fr hk hc)).setB 1 _

/-- What stands in a builder comes out. -/
theorem builderString_any (N b : Nat) (l : List UInt8) (w : World) (h : Bl N b (Lib.byteCells l) w) :
    Calls Try.prog 67 #[.pointer (some ⟨b, 0, none⟩)] w fun e w' => e = .returned (.string ⟨l.toArray⟩) ∧ Below b w w' :=
  Try.Builder_String_any b b l w h.is (by have := h.1; have := h.2.1; omega)
end Go.Proofs.Ytdmmfeglnmkmdaa
