/- Words for memory that the texts behind this one share: what the listed variables hold, and how a slice of whole numbers, and one of acts, reads. Conditions: none. -/
import Derived.Test.YthecllooledpaaaDoorShelf
import Derived.WalkKit
import Derived.WalkSpells
import Derived.WalkLawsBesides
import Derived.Handy
import Derived.Lib.Hide
import Derived.Deep.LoopGhost
import Derived.Deep.QuietTactic
import Derived.BigQuiet
import Derived.Deep.DeepFit
import Derived.Deep.DeepCutAuto
import Derived.Deep.RegionWith
import Derived.Deep.RegionHeld3
import Derived.StillTailTactics
import Derived.Lib.ConvBytes
import Derived.Laws.OwnMore
namespace Go.Proofs.YthecllooledpaaaDoor
open Go.RowKit

/-- What the calls below read of package-level variables: bytealg.MaxLen is some number, strconv's table of tens is what it is. -/
structure Fit (w : World) : Prop where
  mx : ∃ m : Int, w.cell? ⟨0, 0, none⟩ = some (.int .i64 m)
  tab : Lib.TabIs Tryd.prog w "internal/strconv.uint64pow10" .u64 Lib.pow10Tab

theorem Fit.drew {w : World} (h : Fit w) : Fit w.drew := ⟨h.mx, h.tab⟩
theorem Fit.drewN {w : World} (h : Fit w) (n : Nat) : Fit (w.drewN n) := ⟨h.mx, h.tab⟩

theorem below_drewN {B : Nat} {a w : World} (h : Below B a w) (n : Nat) : Below B a (w.drewN n) := ⟨h.os, h.tape, h.output, h.size, h.block⟩
theorem below_then {B : Nat} {w w1 w2 : World} (h : Below B w w1) (hB : B ≤ w1.heap.size) (k : Below w1.heap.size w1 w2) : Below B w w2 :=
  h.trans (k.mono hB)

theorem ret_bool {a b : Bool} (h : a = b) : Ending.returned (.bool a) = .returned (.bool b) := by rw [h]
theorem ret_int {k : IntKind} {a b : Int} (h : a = b) : Ending.returned (.int k a) = .returned (.int k b) := by rw [h]
theorem ret_string {a b : ByteArray} (h : a = b) : Ending.returned (.string a) = .returned (.string b) := by rw [h]

/-- A slice of whole numbers. -/
def Ints (w : World) (v : Value) (ks : List Int) : Prop :=
  ∃ A c, v = .slice A ks.length c ∧ ks.length ≤ c ∧ c ≤ maxLen ∧ ∀ j, j < ks.length → ∃ ad, A = some ad ∧ w.cell? (ad.add j) = some (.int .i64 (ks.getD j 0))

structure Act where
  kind : Int
  name : ByteArray
  s : ByteArray
  n : Int
  bits : Int
  keep : List Int

/-- An act's six cells. -/
def actCells (a : Act) (u : Value) : List Value := [.int .i64 a.kind, .string a.name, .string a.s, .int .i64 a.n, .int .u32 a.bits, u]

/-- A slice of acts. -/
def Acts (w : World) (v : Value) (l : List Act) : Prop :=
  ∃ A c, v = .slice A l.length c ∧ l.length ≤ c ∧ c ≤ maxLen ∧ ∀ i a, l[i]? = some a → ∃ ad u, A = some ad ∧ Ints w u a.keep ∧ ∀ j x, (actCells a u)[j]? = some x → w.cell? (ad.add (i * 6 + j)) = some x

theorem Ints.below {w w1 : World} {v : Value} {ks : List Int} (h : Ints w v ks) (hb : Below w.heap.size w w1) : Ints w1 v ks := by
  obtain ⟨A, c, rfl, h1, h2, h3⟩ := h
  refine ⟨A, c, rfl, h1, h2, fun j hj => ?_⟩
  obtain ⟨ad, e, hc⟩ := h3 j hj
  exact ⟨ad, e, (hb.cell (World.block_lt_of_cell? w _ hc)).trans hc⟩
theorem Acts.below {w w1 : World} {v : Value} {l : List Act} (h : Acts w v l) (hb : Below w.heap.size w w1) : Acts w1 v l := by
  obtain ⟨A, c, rfl, h1, h2, h3⟩ := h
  refine ⟨A, c, rfl, h1, h2, fun i a hi => ?_⟩
  obtain ⟨ad, u, e, hk, hc⟩ := h3 i a hi
  exact ⟨ad, u, e, hk.below hb, fun j x hx => (hb.cell (World.block_lt_of_cell? w _ (hc j x hx))).trans (hc j x hx)⟩
end Go.Proofs.YthecllooledpaaaDoor
