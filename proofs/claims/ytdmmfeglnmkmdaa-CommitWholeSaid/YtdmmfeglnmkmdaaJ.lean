/- The disk's calls: Read. -/
import Derived.Test.YtdmmfeglnmkmdaaI
namespace Go.Proofs.Ytdmmfeglnmkmdaa
open Go.RowKit Go.Maps

set_option maxHeartbeats 1000000 in
set_option maxRecDepth 100000 in
/-- Read of a whole file. -/
theorem read_whole (d m : Nat) (x : Dk) (nm : ByteArray) (n : Nat) (w : World) (h : IsDisk w d m x) (hs : nm.size ≤ maxLen) (hb : nameB nm.data.toList = true) (hn : x.hasK nm = true → n = x.sz nm) (hn2 : n ≤ 16777216) :
    Calls Try.prog 22 #[.pointer (some ⟨d, 0, none⟩), .string nm, .int .i64 0, .int .i64 n] w fun e w' => ∃ s : ByteArray, e = .returned (.tuple #[.string s, .int .i64 (x.findE nm)]) ∧ IsDisk w' d m x.called ∧ Turn d m w w' ∧
      (x.findE nm = 0 → s.data.toList = x.bytes nm) ∧ (x.findE nm ≠ 0 → s = ⟨#[]⟩) := by
  go_enter Try.func22, Try.ntmps22
  go_wp2_with fail
  try rw [show decide (0 ≤ min (0 : Int) (n : Int)) = true from by simp; omega]
  refine (find_any d m x nm _ h hs hb).mono ?_
  rintro e w1 ⟨s, k, rfl, h1, T, hf, hg⟩
  by_cases hE : x.findE nm = 0
  · obtain ⟨hat, k0, k1⟩ := hf hE
    obtain ⟨hby, hke, hsz⟩ := bytes_of hat
    have hnn : n = s.size := by rw [← hsz]; exact hn (find_some hE)
    subst hnn
    clear hf hg hat
    rw [hE]
    go_wp2
    go_ret2
    exact ⟨s, by rw [hE]; rfl, h1.alloc _, T.alloc _, fun _ => hby.symm, fun h => absurd hE h⟩
  · have hs0 := (hg hE).1
    clear hf hg
    go_wp2
    go_ret2
    exact ⟨⟨#[]⟩, rfl, h1.alloc _, T.alloc _, fun h => absurd h hE, fun _ => rfl⟩
end Go.Proofs.Ytdmmfeglnmkmdaa
