/- crc: nibble, More, Of, Close, Open compute the plain words. -/
import Derived.Test.YtdmmfeglnmkmdaaP1
import Derived.Laws.BitsAllLaws
namespace Go.Proofs.Ytdmmfeglnmkmdaa
open Go.RowKit Plain

theorem not32 (n : Nat) (h : n < 4294967296) : 4294967295 ^^^ n = 4294967295 - n := by
  have e : (BitVec.allOnes 32 ^^^ BitVec.ofNat 32 n).toNat = 4294967295 ^^^ n := by
    rw [BitVec.toNat_xor, BitVec.toNat_allOnes, BitVec.toNat_ofNat, Nat.mod_eq_of_lt (by omega)]
  rw [← e, BitVec.allOnes_xor, BitVec.toNat_not, BitVec.toNat_ofNat, Nat.mod_eq_of_lt (by omega)]
theorem bits_not32 (n : Nat) (h : n < 4294967296) : bits .xor .u32 IntKind.u32.max (n : Int) = ((4294967295 - n : Nat) : Int) := by
  rw [show IntKind.u32.max = ((4294967295 : Nat) : Int) from rfl, u32_xor_nat _ _ (by omega) h, not32 n h]
theorem bits_half (p : Nat) (h : p < 4294967296) : bits .xor .u32 ((p : Int) / 16) ((tab p : Nat) : Int) = ((half p : Nat) : Int) := by
  rw [show (p : Int) / 16 = ((p / 16 : Nat) : Int) from by omega, u32_xor_nat _ _ (by omega) (tab_lt p)]
  rfl

set_option maxHeartbeats 400000 in
theorem nibble_any (n : Nat) (h : n < 4294967296) (w : World) : Calls Try.prog 80 #[.int .u32 n] w fun e w' => e = .returned (.int .u32 (tab n)) ∧ Below w.heap.size w w' := by
  have hb : bits .and .u32 (n : Int) 15 = ((n % 16 : Nat) : Int) := by
    rw [show (15 : Int) = ((15 : Nat) : Int) from rfl, u32_and_nat n 15 h (by omega), nat_mask4]
  have hk : n % 16 < 16 := Nat.mod_lt _ (by decide)
  have ht : Hid (tab n = tabL.getD (n % 16) 0) := rfl
  generalize n % 16 = k at *
  go_enter Try.func80, Try.ntmps80
  go_wp2
  go_ret
  refine ⟨?_, (Below.refl _ w).alloc (Nat.le_refl _) _⟩
  rw [ht.out]
  clear ht hb h
  have hc : k = 0 ∨ k = 1 ∨ k = 2 ∨ k = 3 ∨ k = 4 ∨ k = 5 ∨ k = 6 ∨ k = 7 ∨ k = 8 ∨ k = 9 ∨ k = 10 ∨ k = 11 ∨ k = 12 ∨ k = 13 ∨ k = 14 ∨ k = 15 := by omega
  rcases hc with rfl | rfl | rfl | rfl | rfl | rfl | rfl | rfl | rfl | rfl | rfl | rfl | rfl | rfl | rfl | rfl <;> rfl

set_option maxHeartbeats 800000 in
theorem more_any (sum : Nat) (s : ByteArray) (w : World) (hm : sum < 4294967296) (hs : s.size ≤ 9223372036854775807) : Calls Try.prog 50 #[.int .u32 sum, .string s] w fun e w' => e = .returned (.int .u32 (more sum s.data.toList)) ∧ Below w.heap.size w w' := by
  have kb := fun W => Lib.run_convert_string_bytes (P := Try.prog) W 9 97 5 s Try.underlying9 Try.underlying97 Try.underlying5
  have hl : s.data.toList.length = s.size := by rw [Array.length_toList]; rfl
  have hL := Lib.hid hl
  have hc := Lib.bytesWorld_cell w 5 s
  have hb := bytes_below w 5 s
  have hx := bits_not32 sum hm
  have hd : Hid (more sum s.data.toList = 4294967295 - raw (4294967295 - sum) s.data.toList) := rfl
  have hq : 4294967295 - sum < 4294967296 := by omega
  generalize 4294967295 - sum = q at *
  clear hl
  go_enter Try.func50, Try.ntmps50
  go_wp2
  clear hx
  generalize hWe : Lib.bytesWorld w 5 s = W at *
  have hWz : w.heap.size < W.heap.size := by rw [← hWe, Lib.bytesWorld_size]; omega
  clear kb hWe
  go_loopw [5, 13] (fun n i wr => ∃ k : Nat, k ≤ s.size ∧ i = .int .i64 k ∧ n = .int .u32 (raw q (s.data.toList.take k)) ∧ Below W.heap.size W wr) (fun _ i _ => s.size - (intOf i).toNat)
  case atStart => exact ⟨0, Nat.zero_le _, rfl, rfl, Below.refl _ _⟩
  case round =>
    rename_i wr _
    obtain ⟨k, hk, rfl, rfl, hbr⟩ := hrel
    by_cases hlt : k < s.size
    · have hr := raw_lt (s.data.toList.take k) q hq
      have hsn : Hid (raw q (s.data.toList.take (k + 1)) = stepB (raw q (s.data.toList.take k)) (s.data.toList.getD k 0).toNat) := by
        have hk2 : k < s.data.toList.length := by rw [hL.out]; exact hlt
        unfold Hid
        rw [List.take_succ_eq_append_getElem hk2, raw_snoc]
        simp [List.getD, List.getElem?_eq_getElem hk2]
      generalize raw q (s.data.toList.take k) = r at *
      have hcell := (hbr.cell (p := ⟨w.heap.size, k, none⟩) hWz).trans (hc k hlt)
      generalize s.data.toList.getD k 0 = x at *
      have hxb : x.toNat < 256 := x.toNat_lt
      have e1 : bits .xor .u32 (r : Int) (x.toNat : Int) = ((r ^^^ x.toNat : Nat) : Int) := u32_xor_nat _ _ hr (by omega)
      generalize x.toNat = b at *
      clear hc
      have hp : r ^^^ b < 4294967296 := xor_lt32 hr (by omega)
      have hs2 : Hid (stepB r b = half (half (r ^^^ b))) := rfl
      have e2 := bits_half (r ^^^ b) hp
      have hh := half_lt hp
      have e3 := bits_half (half (r ^^^ b)) hh
      go_wp2_with fail
      refine (nibble_any _ hp _).mono ?_
      rintro e w1 ⟨rfl, hb1⟩
      have hbr1 := below_then hbr hbr.size hb1
      clear hcell
      go_wp2_with fail
      refine (nibble_any _ hh _).mono ?_
      rintro e w2 ⟨rfl, hb2⟩
      have hbr2 := below_then hbr1 hbr1.size hb2
      go_wp2_with fail
      go_roundw
      case rel => exact ⟨k + 1, by omega, by go_num, by rw [hsn.out, hs2.out], hbr2⟩
      case measure => simp [intOf]; omega
    · have hks : k = s.size := by omega
      subst hks
      have hr := raw_lt s.data.toList q hq
      have e4 : Hid (s.data.toList.take s.size = s.data.toList) := by
        have := hL.out
        unfold Hid
        rw [← this, List.take_length]
      have hx2 := bits_not32 _ hr
      rw [e4.out]
      generalize raw q s.data.toList = r at *
      clear hc
      go_wp2_with fail
      go_ret
      exact ⟨by rw [hd.out]; rfl, below_then hb hb.size hbr⟩

theorem of_any (s : ByteArray) (w : World) (hs : s.size ≤ 9223372036854775807) : Calls Try.prog 90 #[.string s] w fun e w' => e = .returned (.int .u32 (more 0 s.data.toList)) ∧ Below w.heap.size w w' := by
  go_enter Try.func90, Try.ntmps90
  go_wp2_with fail
  refine (more_any 0 s _ (by omega) hs).mono ?_
  rintro e w1 ⟨rfl, hb⟩
  go_wp2
  go_ret
  exact ⟨rfl, hb⟩

def clc (n k i : Nat) : Value := if i < k then .int .u8 ((n / 256 ^ i % 256 : Nat) : Int) else .int .u8 0
def clCells (n k : Nat) : Array Value := #[clc n k 0, clc n k 1, clc n k 2, clc n k 3]
theorem clCells_set (n k : Nat) (hk : k < 4) (v : Value) (hv : v = .int .u8 ((n / 256 ^ k % 256 : Nat) : Int)) (W : World) (B : Nat) (t : TypeId) (h : W.heap[B]? = some (.cells (clCells n k) t (0, 0))) :
    (W.setCell ⟨B, k, none⟩ v).heap[B]? = some (.cells (clCells n (k + 1)) t (0, 0)) := by
  subst hv
  have e : (W.setCell ⟨B, k, none⟩ (.int .u8 ((n / 256 ^ k % 256 : Nat) : Int))).heap[B]? = some (.cells ((clCells n k).set! k (.int .u8 ((n / 256 ^ k % 256 : Nat) : Int))) t (0, 0)) := by
    simp [World.setCell, Array.getElem?_modify, h]
  rw [e]
  have hc : k = 0 ∨ k = 1 ∨ k = 2 ∨ k = 3 := by omega
  rcases hc with rfl | rfl | rfl | rfl <;> simp [clCells, clc]
set_option maxHeartbeats 800000 in
set_option maxRecDepth 100000 in
theorem close_any (s : ByteArray) (w : World) (hs : s.size ≤ 1073741824) : Calls Try.prog 66 #[.string s] w fun e w' => e = .returned (.string ⟨(closeL s.data.toList).toArray⟩) ∧ Below w.heap.size w w' := by
  have hn := more_lt 0 s.data.toList
  have hd : Hid (closeL s.data.toList = s.data.toList ++ le4 (more 0 s.data.toList)) := rfl
  go_enter Try.func66, Try.ntmps66
  go_wp2_with fail
  refine (of_any s _ (by omega)).mono ?_
  rintro e w1 ⟨rfl, hb⟩
  generalize more 0 s.data.toList = n at *
  have hb2 : Below w.heap.size w w1 := below_then ((Below.refl _ w).alloc (Nat.le_refl _) _) (by simp) hb
  have hblk : w1.heap[w.heap.size]? = some (.cells (clCells n 0) 129 (0, 0)) := (hb.block w.heap.size (by simp)).trans (heap_alloc_new w _)
  clear hb
  go_wp2_with fail
  go_loopw [8] (fun i wr => ∃ k : Nat, k ≤ 4 ∧ i = .int .i64 k ∧ wr.heap[w.heap.size]? = some (.cells (clCells n k) 129 (0, 0)) ∧ Below w.heap.size w wr) (fun i _ => 4 - (intOf i).toNat)
  case atStart => exact ⟨0, by omega, rfl, hblk, hb2⟩
  case round =>
    rename_i wr _
    obtain ⟨k, hk, rfl, hbk, hbr⟩ := hrel
    have hH := Lib.hid hbk
    have fz : ∀ j, wr.frozen? ⟨w.heap.size, j, none⟩ = false := fun j => Lib.frozen_of_heap hbk j
    have z0 := fz 0
    have z1 := fz 1
    have z2 := fz 2
    have z3 := fz 3
    have c0 : wr.cell? ⟨w.heap.size, 0, none⟩ = some (clc n k 0) := Lib.cell_of_heap hbk 0
    have c1 : wr.cell? ⟨w.heap.size, 1, none⟩ = some (clc n k 1) := Lib.cell_of_heap hbk 1
    have c2 : wr.cell? ⟨w.heap.size, 2, none⟩ = some (clc n k 2) := Lib.cell_of_heap hbk 2
    have c3 : wr.cell? ⟨w.heap.size, 3, none⟩ = some (clc n k 3) := Lib.cell_of_heap hbk 3
    clear hbk hblk fz
    have hc : k = 0 ∨ k = 1 ∨ k = 2 ∨ k = 3 ∨ k = 4 := by omega
    rcases hc with rfl | rfl | rfl | rfl | rfl
    · go_wp2_with fail
      go_roundw
      case rel => exact ⟨1, by omega, rfl, clCells_set n 0 (by omega) _ (by simp) _ _ _ hH.out, hbr.setCell (Nat.le_refl _) _⟩
      case measure => simp [intOf]
    · go_wp2_with fail
      go_roundw
      case rel => exact ⟨2, by omega, rfl, clCells_set n 1 (by omega) _ (by simp) _ _ _ hH.out, hbr.setCell (Nat.le_refl _) _⟩
      case measure => simp [intOf]
    · go_wp2_with fail
      go_roundw
      case rel => exact ⟨3, by omega, rfl, clCells_set n 2 (by omega) _ (by simp) _ _ _ hH.out, hbr.setCell (Nat.le_refl _) _⟩
      case measure => simp [intOf]
    · have e3 : (n : Int) / 16777216 = ((n / 256 ^ 3 % 256 : Nat) : Int) := by
        have : n / 16777216 < 256 := by omega
        rw [show 256 ^ 3 = 16777216 from rfl, Nat.mod_eq_of_lt this]
        omega
      have E3 := Lib.hid e3
      clear e3
      go_wp2_with fail
      go_roundw
      case rel => exact ⟨4, by omega, rfl, clCells_set n 3 (by omega) _ (by rw [E3.out]) _ _ _ hH.out, hbr.setCell (Nat.le_refl _) _⟩
      case measure => simp [intOf]
    · have hcv : (convert 97 9 (.slice (some ⟨w.heap.size, 0, none⟩) 4 4)).run Try.prog wr = .ok (.string ⟨(le4 n).toArray⟩) wr :=
        run_convert_bytes_back wr 97 9 5 ⟨w.heap.size, 0, none⟩ 4 (le4 n) Try.underlying97 Try.underlying5 Try.underlying9 (fun j hj => by
          have hc : j = 0 ∨ j = 1 ∨ j = 2 ∨ j = 3 := by have : (le4 n).length = 4 := rfl; omega
          rw [add_plain]
          rcases hc with rfl | rfl | rfl | rfl
          · rw [c0]; simp [clc, le4]
          · rw [c1]; simp [clc, le4]
          · rw [c2]; simp [clc, le4]
          · rw [c3]; simp [clc, le4])
      have hq : (⟨(le4 n).toArray⟩ : ByteArray).size ≤ 4 := by
        show (le4 n).toArray.size ≤ 4
        rw [List.size_toArray, le4_length]
        exact Nat.le_refl _
      have hres : Hid (s ++ ⟨(le4 n).toArray⟩ = (⟨(closeL s.data.toList).toArray⟩ : ByteArray)) := by
        unfold Hid
        rw [hd.out]
        apply bytes_ext
        simp [ByteArray.data_append]
      generalize (⟨(le4 n).toArray⟩ : ByteArray) = q at *
      clear c0 c1 c2 c3 z0 z1 z2 z3
      go_wp2_with fail
      go_ret
      exact ⟨ret_string hres.out, hbr⟩

def openV (s : List UInt8) : Value := match openL s with
  | some t => .tuple #[.string ⟨t.toArray⟩, .bool true]
  | none => .tuple #[.string ⟨#[]⟩, .bool false]
theorem extract_list (s : ByteArray) (a b : Nat) : (s.extract a b).data.toList = (s.data.toList.take b).drop a := by
  simp [ByteArray.data_extract]
  rw [List.drop_take]
set_option maxHeartbeats 800000 in
set_option maxRecDepth 100000 in
theorem open_any (s : ByteArray) (w : World) (hs : s.size ≤ 1073741824) : Calls Try.prog 73 #[.string s] w fun e w' => e = .returned (openV s.data.toList) ∧ Below w.heap.size w w' := by
  by_cases h4 : s.size < 4
  · have ho : openV s.data.toList = .tuple #[.string ⟨#[]⟩, .bool false] := by
      unfold openV openL
      rw [if_pos (by rw [ba_length]; exact h4)]
    rw [ho]
    clear ho
    go_enter Try.func73, Try.ntmps73
    go_wp2_with fail
    go_ret2
    exact ⟨rfl, Below.refl _ _⟩
  · have hle : 4 ≤ s.size := by omega
    have hx : (s.extract 0 (s.size - 4)).data.toList = s.data.toList.take (s.data.toList.length - 4) := by
      rw [extract_list, ba_length]
      rfl
    have hxs : (s.extract 0 (s.size - 4)).size ≤ 1073741824 := by rw [ByteArray.size_extract]; omega
    have ho : Hid (openV s.data.toList = if closeL (s.extract 0 (s.size - 4)).data.toList = s.data.toList then .tuple #[.string (s.extract 0 (s.size - 4)), .bool true] else .tuple #[.string ⟨#[]⟩, .bool false]) := by
      unfold Hid openV openL
      rw [if_neg (by rw [ba_length]; exact h4), hx]
      split
      · rename_i t ht
        split at ht
        · rename_i hc
          rw [if_pos hc]
          cases ht
          rw [← hx, ba_mk]
        · cases ht
      · rename_i ht
        split at ht
        · cases ht
        · rename_i hc
          rw [if_neg hc]
    clear h4 hx
    obtain ⟨u, hu⟩ : ∃ u, s.extract 0 (s.size - 4) = u := ⟨_, rfl⟩
    rw [hu] at ho hxs
    have hcl : Hid ((⟨(closeL u.data.toList).toArray⟩ : ByteArray) = ⟨(closeL u.data.toList).toArray⟩) := rfl
    by_cases hc : closeL u.data.toList = s.data.toList
    · have hr := ho.out
      rw [if_pos hc] at hr
      have HR := Lib.hid hr
      have HC := Lib.hid hc
      clear hr ho hc
      go_enter Try.func73, Try.ntmps73
      go_wp2_with fail
      refine (close_any u _ hxs).mono ?_
      rintro e w1 ⟨rfl, hb⟩
      rw [HC.out, ba_mk]
      go_wp2_with fail
      go_ret2
      exact ⟨by rw [HR.out, ← hu]; rfl, hb⟩
    · have hr := ho.out
      rw [if_neg hc] at hr
      have HR := Lib.hid hr
      have hne : ((⟨(closeL u.data.toList).toArray⟩ : ByteArray).toList == s.toList) = false := by
        rw [beq_eq_false_iff_ne]
        intro e
        rw [ByteArray.toList_eq, ByteArray.toList_eq] at e
        exact hc (by simpa using e)
      clear hr hc ho
      go_enter Try.func73, Try.ntmps73
      go_wp2_with fail
      refine (close_any u _ hxs).mono ?_
      rintro e w1 ⟨rfl, hb⟩
      generalize (⟨(closeL u.data.toList).toArray⟩ : ByteArray) = q at *
      go_wp2_with fail
      go_ret2
      exact ⟨by rw [HR.out]; rfl, hb⟩
end Go.Proofs.Ytdmmfeglnmkmdaa
