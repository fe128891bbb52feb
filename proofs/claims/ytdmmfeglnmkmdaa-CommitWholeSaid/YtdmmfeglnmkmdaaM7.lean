/- manifest.Get of bytes whose sum or head is another. -/
import Derived.Test.YtdmmfeglnmkmdaaM6
import Derived.Test.YtdmmfeglnmkmdaaE
import Derived.Test.YtdmmfeglnmkmdaaS
import Derived.Deep.AppendLies
namespace Go.Proofs.Ytdmmfeglnmkmdaa
open Go.RowKit Plain

def zeroM : Value := .agg #[.int .i64 0, .int .i64 0, .slice none 0 0]
def GetPost (s : List UInt8) (w : World) (e : Ending) (w' : World) : Prop := Below w.heap.size w w' ∧ match getM s with
  | some m => ∃ v, e = .returned (.tuple #[.agg #[.int .i64 m.stage, .int .i64 m.pass, v], .bool true]) ∧ Files w' v m.files
  | none => e = .returned (.tuple #[zeroM, .bool false])
theorem getPost_no {s : List UInt8} {w w' : World} (h : getM s = none) (hb : Below w.heap.size w w') : GetPost s w (.returned (.tuple #[zeroM, .bool false])) w' := by
  refine ⟨hb, ?_⟩
  rw [h]
theorem getPost_yes {s : List UInt8} {w w' : World} {m : Mf} (h : getM s = some m) (hb : Below w.heap.size w w') (v : Value) (hf : Files w' v m.files) : GetPost s w (.returned (.tuple #[.agg #[.int .i64 m.stage, .int .i64 m.pass, v], .bool true])) w' := by
  refine ⟨hb, ?_⟩
  rw [h]
  exact ⟨v, rfl, hf⟩
theorem openV_none {s : List UInt8} (h : openL s = none) : openV s = .tuple #[.string ⟨#[]⟩, .bool false] := by unfold openV; rw [h]
theorem openV_some {s t : List UInt8} (h : openL s = some t) : openV s = .tuple #[.string ⟨t.toArray⟩, .bool true] := by unfold openV; rw [h]
theorem set3 {W : World} {g : Nat} {t : TypeId} {a b c : Value} (h : W.heap[g]? = some (.cells #[a, b, c] t (0, 0))) (x y z : Value) :
    (((W.setCell ⟨g, 0, none⟩ x).setCell ⟨g, 1, none⟩ y).setCell ⟨g, 2, none⟩ z).heap[g]? = some (.cells #[x, y, z] t (0, 0)) := by
  simp [World.setCell, Array.getElem?_modify, h]
theorem below_set3 {w W : World} (h : Below w.heap.size w W) (x y z : Value) : Below w.heap.size w (((W.setCell ⟨w.heap.size, 0, none⟩ x).setCell ⟨w.heap.size, 1, none⟩ y).setCell ⟨w.heap.size, 2, none⟩ z) :=
  ((h.setCell (Nat.le_refl _) _).setCell (Nat.le_refl _) _).setCell (Nat.le_refl _) _
set_option maxHeartbeats 1600000 in
set_option maxRecDepth 100000 in
theorem get_none (s : ByteArray) (w : World) (hs : s.size ≤ 1073741824) (hn : openL s.data.toList = none) : Calls Try.prog 41 #[.string s] w (GetPost s.data.toList w) := by
  have hg : Hid (getM s.data.toList = none) := by unfold Hid getM; rw [hn]
  have ho := Lib.hid (openV_none hn)
  clear hn
  have hnew := heap_alloc_new w (.cells #[.int .i64 0, .int .i64 0, .slice none 0 0] 31)
  have hb0 := (Below.refl _ w).alloc (Nat.le_refl _) (.cells #[.int .i64 0, .int .i64 0, .slice none 0 0] 31)
  go_enter Try.func41, Try.ntmps41
  go_wp2_with fail
  generalize w.alloc (.cells #[.int .i64 0, .int .i64 0, .slice none 0 0] 31) = w0 at *
  refine (open_any s _ hs).mono ?_
  rw [ho.out]
  rintro e w1 ⟨rfl, hb1⟩
  have g1 := (hb1.block w.heap.size (heap_lt hnew)).trans hnew
  have hb := keepBelow hb0 hb1
  have z0 := Lib.frozen_of_heap g1 0
  have z1 := Lib.frozen_of_heap g1 1
  have z2 := Lib.frozen_of_heap g1 2
  have q0 : w1.cell? ⟨w.heap.size, 0, none⟩ = some (.int .i64 0) := Lib.cell_of_heap g1 0
  have q1 : w1.cell? ⟨w.heap.size, 1, none⟩ = some (.int .i64 0) := Lib.cell_of_heap g1 1
  have q2 : w1.cell? ⟨w.heap.size, 2, none⟩ = some (.slice none 0 0) := Lib.cell_of_heap g1 2
  go_wp2_with fail
  refine bodyPost_ret (results_cell_slot Try.results41 _ _ w.heap.size 31 _ (0, 0) _ (by simp) (set3 g1 _ _ _) Try.underlying31 rfl (by kernel_rfl)) rfl ?_
  exact getPost_no hg.out (below_set3 hb _ _ _)
theorem prefix_eq (t : List UInt8) : Lib.hasPrefix t magic = magic.isPrefixOf t := rfl
set_option maxHeartbeats 1600000 in
set_option maxRecDepth 100000 in
theorem get_other (s : ByteArray) (t : List UInt8) (w : World) (hs : s.size ≤ 1073741824) (hn : openL s.data.toList = some t) (hp : magic.isPrefixOf t = false) : Calls Try.prog 41 #[.string s] w (GetPost s.data.toList w) := by
  have hg : Hid (getM s.data.toList = none) := by unfold Hid getM; rw [hn]; simp [hp]
  have ho := Lib.hid (openV_some hn)
  have HP := Lib.hid hp
  clear hn hp
  have hnew := heap_alloc_new w (.cells #[.int .i64 0, .int .i64 0, .slice none 0 0] 31)
  have hb0 := (Below.refl _ w).alloc (Nat.le_refl _) (.cells #[.int .i64 0, .int .i64 0, .slice none 0 0] 31)
  go_enter Try.func41, Try.ntmps41
  go_wp2_with fail
  generalize w.alloc (.cells #[.int .i64 0, .int .i64 0, .slice none 0 0] 31) = w0 at *
  refine (open_any s _ hs).mono ?_
  rw [ho.out]
  rintro e w1 ⟨rfl, hb1⟩
  have g1 := (hb1.block w.heap.size (heap_lt hnew)).trans hnew
  have hb := keepBelow hb0 hb1
  have z0 := Lib.frozen_of_heap g1 0
  have z1 := Lib.frozen_of_heap g1 1
  have z2 := Lib.frozen_of_heap g1 2
  have q0 : w1.cell? ⟨w.heap.size, 0, none⟩ = some (.int .i64 0) := Lib.cell_of_heap g1 0
  have q1 : w1.cell? ⟨w.heap.size, 1, none⟩ = some (.int .i64 0) := Lib.cell_of_heap g1 1
  have q2 : w1.cell? ⟨w.heap.size, 2, none⟩ = some (.slice none 0 0) := Lib.cell_of_heap g1 2
  go_wp2_with fail
  refine (Try.strings_HasPrefix _ _ _).mono ?_
  rw [show Lib.hasPrefix (⟨t.toArray⟩ : ByteArray).data.toList (⟨#[77, 65, 78, 49]⟩ : ByteArray).data.toList = false from HP.out]
  rintro e w2 ⟨rfl, rfl⟩
  go_wp2_with fail
  refine bodyPost_ret (results_cell_slot Try.results41 _ _ w.heap.size 31 _ (0, 0) _ (by simp) (set3 g1 _ _ _) Try.underlying31 rfl (by kernel_rfl)) rfl ?_
  exact getPost_no hg.out (below_set3 hb _ _ _)
end Go.Proofs.Ytdmmfeglnmkmdaa
