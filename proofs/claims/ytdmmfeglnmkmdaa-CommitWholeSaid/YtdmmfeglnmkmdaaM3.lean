/- manifest.lay puts a number's bytes into a builder. -/
import Derived.Test.YtdmmfeglnmkmdaaM2
import Derived.Test.YtdmmfeglnmkmdaaS
namespace Go.Proofs.Ytdmmfeglnmkmdaa
open Go.RowKit Plain

theorem oput_yes {n k : Nat} (h : n < 256 ^ k) : oputV n k = .tuple #[.string ⟨(beL k n).toArray⟩, .bool true] := by
  unfold oputV putN
  rw [if_pos h]
theorem Bl.below {N b : Nat} {bs : List Value} {w w1 : World} (h : Bl N b bs w) (hb : Below w.heap.size w w1) : Bl N b bs w1 := by
  obtain ⟨h1, h2, p, v, hk, hp, hown⟩ := h
  exact ⟨h1, Nat.le_trans h2 hb.size, p, v, (hb.block b (by omega)).trans hk, hp, own_below hown hb⟩
theorem But.keep {N b : Nat} {w w1 : World} (h : But N b w w1) {a : Addr} {v : Value} (hc : w.cell? a = some v) (hN : a.block < N) (hb : a.block ≠ b) : w1.cell? a = some v := (h.cell hN hb).trans hc
theorem bcat (l : List UInt8) (s : List UInt8) : Lib.byteCells l ++ Lib.strCells ⟨s.toArray⟩ = Lib.byteCells (l ++ s) := (Lib.byteCells_append l s).symm
set_option maxHeartbeats 800000 in
theorem lay_any (N b : Nat) (l : List UInt8) (n k : Nat) (w : World) (h : Bl N b (Lib.byteCells l) w) (hl : l.length ≤ 1073741824) (hk1 : 1 ≤ k) (hk8 : k ≤ 8) (hn : n ≤ 9223372036854775807) (hn2 : n < 256 ^ k) :
    Calls Try.prog 65 #[.pointer (some ⟨b, 0, none⟩), .int .i64 n, .int .i64 k] w fun e w' => e = .returned (.tuple #[]) ∧ Bl N b (Lib.byteCells (l ++ beL k n)) w' ∧ But N b w w' := by
  have hv := Lib.hid (oput_yes hn2)
  have hlen : (Lib.byteCells l).length + (⟨(beL k n).toArray⟩ : ByteArray).size ≤ 140737488355328 := by
    rw [Lib.byteCells_length]
    show l.length + (beL k n).toArray.size ≤ _
    rw [List.size_toArray, beL_length]
    omega
  have HL := Lib.hid hlen
  clear hn2 hlen
  go_enter Try.func65, Try.ntmps65
  go_wp2_with fail
  refine (oput_any n k _ hk1 hk8 hn).mono ?_
  rw [hv.out]
  rintro e w1 ⟨rfl, hb⟩
  have h1 := h.below hb
  have B1 := But.of_below (b := b) h.2.1 hb
  go_wp2_with fail
  refine (writeString_any N b _ ⟨(beL k n).toArray⟩ _ h1 HL.out).mono ?_
  rw [bcat]
  rintro e w2 ⟨rfl, h2, B2⟩
  go_wp2
  go_end0
  exact ⟨rfl, h2, B1.trans B2⟩
end Go.Proofs.Ytdmmfeglnmkmdaa
