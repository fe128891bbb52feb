/- strings.Builder's WriteByte and WriteString with a frame that keeps every elder block but the builder's own: for a loop that reads one []byte beside the builder. Conditions: the builder was made by the call, the text stays below 2^47 bytes. -/
import Derived.Test.YthecllooledpaaaDoorS
import Derived.Test.YthecllooledpaaaDoorM
import Derived.Lib.Builder
import Derived.Lib.AppendStr
namespace Go.Proofs.YthecllooledpaaaDoor
open Go.RowKit

theorem Tryd.laysB240 : Lays.n240 Tryd.prog Tryd.builder_ren := { Tryd.laysB167 with }

/-- A builder in block b that holds bs; its row of bytes lies in no block below N. -/
def Bl (N b : Nat) (bs : List Value) (w : World) : Prop :=
  b < N ∧ N ≤ w.heap.size ∧ ∃ p v, w.heap[b]? = some (.cells #[p, v] 46 (0, 0)) ∧ (p = .pointer none ∨ p = .pointer (some ⟨b, 0, none⟩)) ∧ w.ownsRow N 5 1 v bs.length bs

/-- Of the blocks below N all but b stand. -/
structure But (N b : Nat) (w w' : World) : Prop where
  os : w'.os = w.os
  tape : w'.tape = w.tape
  output : w'.output = w.output
  size : w.heap.size ≤ w'.heap.size
  block : ∀ i, i < N → i ≠ b → w'.heap[i]? = w.heap[i]?

theorem But.refl (N b : Nat) (w : World) : But N b w w := ⟨rfl, rfl, rfl, Nat.le_refl _, fun _ _ _ => rfl⟩
theorem But.trans {N b : Nat} {w w1 w2 : World} (h : But N b w w1) (k : But N b w1 w2) : But N b w w2 :=
  ⟨k.os.trans h.os, k.tape.trans h.tape, k.output.trans h.output, Nat.le_trans h.size k.size, fun i hi hb => (k.block i hi hb).trans (h.block i hi hb)⟩
theorem But.setB {N b : Nat} {w w1 : World} (h : But N b w w1) (o : Nat) (u : Value) : But N b w (w1.setCell ⟨b, o, none⟩ u) :=
  ⟨h.os, h.tape, h.output, by simpa [World.setCell] using h.size, fun i hi hb => (Below.heap_setCell w1 ⟨b, o, none⟩ u i hb).trans (h.block i hi hb)⟩
theorem But.alloc {N b : Nat} {w w1 : World} (h : But N b w w1) (hN : N ≤ w1.heap.size) (o : Obj) : But N b w (w1.alloc o) :=
  ⟨h.os, h.tape, h.output, Nat.le_trans h.size (by simp), fun i hi hb => (Below.heap_alloc w1 o i (by omega)).trans (h.block i hi hb)⟩
theorem But.drewN {N b : Nat} {w w1 : World} (h : But N b w w1) (n : Nat) : But N b w (w1.drewN n) := ⟨h.os, h.tape, h.output, h.size, h.block⟩
theorem But.grown {N b : Nat} {w w1 w2 : World} (h : But N b w w1) {row : Option Nat} (hg : w1.grownBy w2 row) (hN : N ≤ w1.heap.size) (hr : ∀ k, row = some k → N ≤ k) : But N b w w2 :=
  ⟨hg.os.trans h.os, hg.tape.trans h.tape, hg.output.trans h.output, Nat.le_trans h.size hg.size, fun i hi hb => (hg.block i (by omega) (fun e => by have := hr i e.symm; omega)).trans (h.block i hi hb)⟩
theorem But.below {N b : Nat} {w w1 : World} (h : But N b w w1) (hb : b < N) : Below b w w1 :=
  ⟨h.os, h.tape, h.output, h.size, fun i hi => h.block i (by omega) (by omega)⟩
theorem But.cell {N b : Nat} {w w1 : World} (h : But N b w w1) {p : Addr} (hp : p.block < N) (hb : p.block ≠ b) : w1.cell? p = w.cell? p := World.cell?_of_block (w := w) (h.block p.block hp hb)

theorem Bl.blk {N b : Nat} {bs : List Value} {w : World} (h : Bl N b bs w) : ∃ p v, w.heap[b]? = some (.cells #[p, v] 46 (0, 0)) := by
  obtain ⟨_, _, p, v, h, _⟩ := h
  exact ⟨p, v, h⟩
theorem ne_row {w : World} {N b n : Nat} {v : Value} {bs : List Value} (hown : w.ownsRow N 5 1 v n bs) (hb : b < N) : v.ownBlock ≠ some b := fun e => by have := (hown.lt b e).1; omega
theorem own_lower {w : World} {base base' : Nat} {e : TypeId} {size n : Nat} {v : Value} {xs : List Value} (h : w.ownsRow base e size v n xs) (hb : base' ≤ base) : w.ownsRow base' e size v n xs := by
  refine ⟨h.1, ?_⟩
  rcases h.2 with h2 | ⟨g, cap, cur, hv, hg, r⟩
  · exact .inl h2
  · exact .inr ⟨g, cap, cur, hv, by omega, r⟩
theorem Bl.is {N b : Nat} {bs : List Value} {w : World} (h : Bl N b bs w) : Lib.IsBuilder 46 5 b b bs w := by
  obtain ⟨hb, hN, p, v, hk, hp, hown⟩ := h
  have hne := ne_row hown hb
  rcases hp with rfl | rfl
  · exact .inl ⟨Nat.le_refl _, v, hk, own_lower hown (by omega), hne⟩
  · exact .inr ⟨Nat.le_refl _, v, hk, own_lower hown (by omega), hne⟩

/-- copyCheck: behind it the builder holds its own address. -/
theorem check_any (N b : Nat) (bs : List Value) (w : World) (h : Bl N b bs w) :
    Calls Tryd.prog 25 #[.pointer (some ⟨b, 0, none⟩)] w fun e w' => e = .returned (.tuple #[]) ∧ (But N b w w' ∧ N ≤ w'.heap.size ∧ ∃ v, w'.heap[b]? = some (.cells #[.pointer (some ⟨b, 0, none⟩), v] 46 (0, 0)) ∧ w'.ownsRow N 5 1 v bs.length bs) := by
  obtain ⟨hb, hN, p, v, hk, hp, hown⟩ := h
  have c0 : w.cell? ⟨b, 0, none⟩ = some p := by rw [Lib.cell_of_heap hk]; rfl
  rcases hp with rfl | rfl
  · refine (Any.Builder_copyCheck_fresh Tryd.laysB240 Tryd.builder_extra.toX72 b w c0 (by simp [World.shape?, hk, Tryd.builder_ren]) (Lib.frozen_of_heap hk 0)).mono ?_
    rintro e w' ⟨rfl, rfl⟩
    refine ⟨rfl, (But.refl N b w).setB 0 _, by simpa [World.setCell] using hN, v, ?_, ?_⟩
    · simp [World.setCell, Array.getElem?_modify, hk]
    · exact ownsRow_setCell_below hown (by exact hb) _
  · refine (Any.Builder_copyCheck_used Tryd.laysB240 Tryd.builder_extra.toX72 b w c0).mono ?_
    rintro e w' ⟨rfl, rfl⟩
    exact ⟨rfl, But.refl N b _, hN, v, hk, hown⟩

theorem Tryd.info5 : (Tryd.prog.info? 5).map (fun i => (i.zero, i.size, i.bytes)) = some (some (.int .u8 0), 1, 1) := by kernel_rfl

set_option maxHeartbeats 1000000 in
set_option maxRecDepth 100000 in
theorem writeByte_any (N b : Nat) (bs : List Value) (c : Int) (w : World) (h : Bl N b bs w) (hlen : bs.length + 1 ≤ 140737488355328) :
    Calls Tryd.prog 37 #[.pointer (some ⟨b, 0, none⟩), .int .u8 c] w fun e w' => e = .returned .nilIface ∧ (Bl N b (bs ++ [.int .u8 c]) w' ∧ But N b w w') := by
  obtain ⟨i0, hi, hz0, hz1, hz2⟩ := info_parts Tryd.info5
  have hbN := h.1
  go_enter Tryd.func37, Tryd.ntmps37
  go_wp2_with (go_at_call 25; refine (check_any N b bs _ h).mono ?_)
  rintro e w1 ⟨rfl, hbut, hN1, v, hbk, hown⟩
  have hne := ne_row hown hbN
  have c0 : w1.cell? ⟨b, 0, none⟩ = some (.pointer (some ⟨b, 0, none⟩)) := by rw [Lib.cell_of_heap hbk]; rfl
  have c1 : w1.cell? ⟨b, 1, none⟩ = some v := by rw [Lib.cell_of_heap hbk]; rfl
  go_wp2_with (at_builtin; refine wpList_append_own _ rfl _ _ 44 rfl N 5 i0 (.int .u8 0) 1 1 Tryd.underlying44 hi hz0 hz1 hz2 rfl (by decide) _ _ _ rfl (hown.alloc _) ⟨w1.heap.size, 0, none⟩ 1 1 [.int .u8 c] rfl rfl ?c1 ?c2 ?c3 ?c4 ?c5 ?_)
  case c1 =>
    intro j u hj
    match j, hj with
    | 0, hj => simp at hj; subst hj; simp [Addr.add]
  case c2 => intro u hu; simp at hu; subst hu; rfl
  case c3 => unfold maxLen; omega
  case c4 => omega
  case c5 => simp; omega
  intro v' w2 hown' hgrow _
  have hlt : b < w1.heap.size := by omega
  have hb2 : w2.heap[b]? = some (.cells #[.pointer (some ⟨b, 0, none⟩), v] 46 (0, 0)) := by
    rw [hgrow.block b (by simp; omega) (fun e => hne e.symm), Lib.alloc_old w1 _ b hlt]
    exact hbk
  have d0 : w2.cell? ⟨b, 0, none⟩ = some (.pointer (some ⟨b, 0, none⟩)) := by rw [Lib.cell_of_heap hb2]; rfl
  have d1 : w2.cell? ⟨b, 1, none⟩ = some v := by rw [Lib.cell_of_heap hb2]; rfl
  have f1 : w2.frozen? ⟨b, 1, none⟩ = false := Lib.frozen_of_heap hb2 1
  obtain ⟨g, cap, rfl⟩ : ∃ g cap, v' = .slice (some ⟨g, 0, none⟩) (bs.length + 1) cap := by
    rcases hown'.2 with ⟨_, h0⟩ | ⟨g, cap, cur, hv, _⟩
    · omega
    · exact ⟨g, cap, hv⟩
  have hsz := hgrow.size
  go_wp2
  go_ret
  refine ⟨rfl, ⟨hbN, by simp at hsz; simp [World.setCell]; omega, .pointer (some ⟨b, 0, none⟩), .slice (some ⟨g, 0, none⟩) (bs.length + 1) cap, ?_, .inr rfl, ?_⟩, ?_⟩
  · simp [World.setCell, Array.getElem?_modify, hb2]
  · exact ownsRow_setCell_below (by simpa using hown') (by exact hbN) _
  · exact ((hbut.alloc hN1 _).grown hgrow (by simp; omega) (fun k hk => (hown.lt k hk).1)).setB 1 _

set_option maxHeartbeats 1000000 in
set_option maxRecDepth 100000 in
theorem writeString_any (N b : Nat) (bs : List Value) (s : ByteArray) (w : World) (h : Bl N b bs w) (hlen : bs.length + s.size ≤ 140737488355328) :
    Calls Tryd.prog 13 #[.pointer (some ⟨b, 0, none⟩), .string s] w fun e w' => e = .returned (.tuple #[.int .i64 s.size, .nilIface]) ∧ (Bl N b (bs ++ Lib.strCells s) w' ∧ But N b w w') := by
  obtain ⟨i0, hi, hz0, hz1, hz2⟩ := info_parts Tryd.info5
  have hbN := h.1
  go_enter Tryd.func13, Tryd.ntmps13
  go_wp2_with (go_at_call 25; refine (check_any N b bs _ h).mono ?_)
  rintro e w1 ⟨rfl, hbut, hN1, v, hbk, hown⟩
  have hne := ne_row hown hbN
  have c0 : w1.cell? ⟨b, 0, none⟩ = some (.pointer (some ⟨b, 0, none⟩)) := by rw [Lib.cell_of_heap hbk]; rfl
  have c1 : w1.cell? ⟨b, 1, none⟩ = some v := by rw [Lib.cell_of_heap hbk]; rfl
  go_wp2_with (at_builtin; refine Lib.wpList_append_own_string _ rfl _ _ 44 9 rfl N 5 i0 Tryd.underlying44 Tryd.underlying9 hi hz0 hz1 hz2 _ _ _ rfl hown s rfl ?c3 ?c4 ?c5 ?_)
  case c3 => unfold maxLen; omega
  case c4 => omega
  case c5 => omega
  intro v' w2 hown' hgrow _
  have hlt : b < w1.heap.size := by omega
  have hb2 : w2.heap[b]? = some (.cells #[.pointer (some ⟨b, 0, none⟩), v] 46 (0, 0)) := by
    rw [hgrow.block b hlt (fun e => hne e.symm)]
    exact hbk
  have d0 : w2.cell? ⟨b, 0, none⟩ = some (.pointer (some ⟨b, 0, none⟩)) := by rw [Lib.cell_of_heap hb2]; rfl
  have d1 : w2.cell? ⟨b, 1, none⟩ = some v := by rw [Lib.cell_of_heap hb2]; rfl
  have f1 : w2.frozen? ⟨b, 1, none⟩ = false := Lib.frozen_of_heap hb2 1
  obtain ⟨ao, n', cap, rfl⟩ : ∃ ao n' cap, v' = .slice ao n' cap := by
    rcases hown'.2 with ⟨hv, _⟩ | ⟨g, cap, cur, hv, _⟩
    · exact ⟨_, _, _, hv⟩
    · exact ⟨_, _, _, hv⟩
  have hsz := hgrow.size
  go_wp2
  go_ret2
  refine ⟨rfl, ⟨hbN, by simp [World.setCell]; omega, .pointer (some ⟨b, 0, none⟩), .slice ao n' cap, ?_, .inr rfl, ?_⟩, ?_⟩
  · simp [World.setCell, Array.getElem?_modify, hb2]
  · exact ownsRow_setCell_below (by simpa [Lib.strCells_length] using hown') (by exact hbN) _
  · exact (hbut.grown hgrow hN1 (fun k hk => (hown.lt k hk).1)).setB 1 _

/-- What stands in a builder comes out. -/
theorem builderString_any (N b : Nat) (l : List UInt8) (w : World) (h : Bl N b (Lib.byteCells l) w) :
    Calls Tryd.prog 14 #[.pointer (some ⟨b, 0, none⟩)] w fun e w' => e = .returned (.string ⟨l.toArray⟩) ∧ Below b w w' :=
  Tryd.Builder_String_any b b l w h.is (by have := h.1; have := h.2.1; omega)
end Go.Proofs.YthecllooledpaaaDoor
