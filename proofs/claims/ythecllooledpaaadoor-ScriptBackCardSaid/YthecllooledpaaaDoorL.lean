/- The library's calls in one form: what is listed reads as listed ahead (Fit), and below the heap's end nothing turns. -/
import Derived.Test.YthecllooledpaaaDoorS
import Derived.Test.YthecllooledpaaaDoorM
import Derived.Lib.AppendIntMem
import Derived.WalkSmall
namespace Go.Proofs.YthecllooledpaaaDoor
open Go.RowKit

theorem tab_global : Tryd.prog.globalNamed "internal/strconv.uint64pow10" = some 1 := by kernel_rfl
theorem Fit.below {w w1 : World} (h : Fit w) (hb : Below w.heap.size w w1) : Fit w1 := by
  obtain ⟨⟨m, hm⟩, ht⟩ := h
  refine ⟨⟨m, (hb.cell (World.block_lt_of_cell? w _ hm)).trans hm⟩, ?_⟩
  have hlt : 1 < w.heap.size := by
    have h1 := ht
    unfold Lib.TabIs World.var? at h1
    rw [tab_global] at h1
    rcases Nat.lt_or_ge 1 w.heap.size with h' | h'
    · exact h'
    · simp [Array.getElem?_eq_none h'] at h1
  exact var?_below hb tab_global hlt ht

theorem itoa_any (n : Int) (h0 : -9223372036854775808 ≤ n) (h1 : n ≤ 9223372036854775807) (w : World) (hf : Fit w) :
    Calls Tryd.prog 23 #[.int .i64 n] w fun e w' => e = .returned (.string ⟨(Lib.itoa n).toArray⟩) ∧ Below w.heap.size w w' := by
  refine (Tryd.strconv_Itoa n h0 h1 w hf.tab).mono ?_
  rintro e w' ⟨rfl, k, os, rfl⟩
  exact ⟨rfl, Lib.below_grow _ w (Nat.le_refl _) k os⟩

theorem cut_any (s sep : ByteArray) (w : World) (hf : Fit w) (hs : s.size < 4294967281) :
    Calls Tryd.prog 44 #[.string s, .string sep] w fun e w' => e = .returned (.tuple #[.string ⟨(Lib.cut s.data.toList sep.data.toList).1.toArray⟩, .string ⟨(Lib.cut s.data.toList sep.data.toList).2.1.toArray⟩, .bool (Lib.cut s.data.toList sep.data.toList).2.2]) ∧ ∃ n, w' = w.drewN n := by
  obtain ⟨m, hm⟩ := hf.mx
  exact Tryd.strings_Cut s sep m w hs hm

theorem split_any (s sep : ByteArray) (w : World) (hf : Fit w) (hs : s.size < 4294967281) (h1 : 1 ≤ sep.size) :
    Calls Tryd.prog 16 #[.string s, .string sep] w fun e w' => e = .returned (.slice (some ⟨w.heap.size, 0, none⟩) (Lib.countB s sep + 1) (Lib.countB s sep + 1)) ∧ w' = w.alloc (.cells ((Lib.splitB sep 0 (Lib.countB s sep) s).map Value.string).toArray 9) := by
  obtain ⟨m, hm⟩ := hf.mx
  exact Tryd.strings_Split s sep m w hs hm h1

theorem join_any (bk c : Nat) (xs : List ByteArray) (sep : ByteArray) (w : World) (h : w.heap[bk]? = some (.cells ((xs.map Value.string).toArray) 9 (0, 0))) (hcap : xs.length ≤ c) (hN : xs.length ≤ 140737488355328)
    (hlen : (Lib.join (xs.map (·.data.toList)) sep.data.toList).length ≤ 140737488355328) :
    Calls Tryd.prog 24 #[.slice (some ⟨bk, 0, none⟩) xs.length c, .string sep] w fun e w' => e = .returned (.string ⟨(Lib.join (xs.map (·.data.toList)) sep.data.toList).toArray⟩) ∧ Below w.heap.size w w' := by
  refine Tryd.strings_Join bk 0 c xs sep w (fun j x hx => ?_) ?_ hN hcap hlen
  · rw [Nat.zero_add, Lib.cell_of_heap h]
    simp [hx]
  · rcases Nat.lt_or_ge bk w.heap.size with h' | h'
    · exact h'
    · simp [Array.getElem?_eq_none h'] at h
end Go.Proofs.YthecllooledpaaaDoor
