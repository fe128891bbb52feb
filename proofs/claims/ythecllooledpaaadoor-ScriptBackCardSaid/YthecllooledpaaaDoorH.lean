/- script.Hex: two hexadecimal digits a byte. -/
import Derived.Test.YthecllooledpaaaDoorS2
import Derived.Test.YthecllooledpaaaDoorB
namespace Go.Proofs.YthecllooledpaaaDoor
open Go.RowKit

def hexDigits : List UInt8 := [48, 49, 50, 51, 52, 53, 54, 55, 56, 57, 97, 98, 99, 100, 101, 102]
def hexD (n : Nat) : UInt8 := hexDigits.getD n 0
def hexL (s : List UInt8) : List UInt8 := s.flatMap fun c => [hexD (c.toNat / 16), hexD (c.toNat % 16)]
theorem hexL_take (s : List UInt8) (k : Nat) (hk : k < s.length) : hexL (s.take (k + 1)) = hexL (s.take k) ++ [hexD ((s.getD k 0).toNat / 16)] ++ [hexD ((s.getD k 0).toNat % 16)] := by
  unfold hexL
  rw [List.take_succ_eq_append_getElem hk, List.flatMap_append]
  simp [List.getD, List.getElem?_eq_getElem hk]
theorem hexL_length (s : List UInt8) : (hexL s).length = 2 * s.length := by
  unfold hexL
  induction s with
  | nil => rfl
  | cons c s ih => simp [List.flatMap_cons, ih]; omega

set_option maxHeartbeats 1000000 in
theorem hexD_get (n : Nat) (h : n < 16) : (⟨#[48, 49, 50, 51, 52, 53, 54, 55, 56, 57, 97, 98, 99, 100, 101, 102]⟩ : ByteArray)[n]'h = hexD n := by
  have H : ∀ m : Fin 16, (⟨#[48, 49, 50, 51, 52, 53, 54, 55, 56, 57, 97, 98, 99, 100, 101, 102]⟩ : ByteArray)[m.val]'m.isLt = hexD m.val := by decide
  exact H ⟨n, h⟩
theorem byteCells_snoc (l : List UInt8) (c : UInt8) : Lib.byteCells (l ++ [c]) = Lib.byteCells l ++ [.int .u8 c.toNat] := by simp [Lib.byteCells]

set_option maxHeartbeats 1000000 in
set_option maxRecDepth 100000 in
theorem hex_any (s : ByteArray) (w : World) (hs : 2 * s.size ≤ 140737488355320) : Calls Tryd.prog 22 #[.string s] w fun e w' => e = .returned (.string ⟨(hexL s.data.toList).toArray⟩) ∧ Below w.heap.size w w' := by
  have kb := fun W => Lib.run_convert_string_bytes (P := Tryd.prog) W 9 44 5 s Tryd.underlying9 Tryd.underlying44 Tryd.underlying5
  have hl : s.data.toList.length = s.size := by rw [Array.length_toList]; rfl
  have hL := Lib.hid hl
  clear hl
  have hc := Lib.bytesWorld_cell (w.alloc (.cells #[.pointer none, .slice none 0 0] 46)) 5 s
  have hb := (below_then ((Below.refl _ w).alloc (Nat.le_refl _) (.cells #[.pointer none, .slice none 0 0] 46)) (by simp) (bytes_below _ 5 s))
  have hz := Lib.bytesWorld_size (w.alloc (.cells #[.pointer none, .slice none 0 0] 46)) 5 s
  have ho := Lib.bytesWorld_at_old (w.alloc (.cells #[.pointer none, .slice none 0 0] 46)) 5 s w.heap.size (by simp)
  go_enter Tryd.func22, Tryd.ntmps22
  go_wp2
  generalize Lib.bytesWorld (w.alloc (.cells #[.pointer none, .slice none 0 0] 46)) 5 s = W at *
  clear kb
  rw [World.size_alloc] at hz hc
  have hB : Bl (w.heap.size + 2) w.heap.size [] W := ⟨by omega, by omega, .pointer none, .slice none 0 0, ho.trans (heap_alloc_new w _), .inl rfl, by simp, .inl ⟨rfl, rfl⟩⟩
  have HZ := Lib.hid hz
  clear hz ho
  go_loopw [9] (fun i wr => ∃ k : Nat, k ≤ s.size ∧ i = .int .i64 k ∧ Bl (w.heap.size + 2) w.heap.size (Lib.byteCells (hexL (s.data.toList.take k))) wr ∧ But (w.heap.size + 2) w.heap.size W wr) (fun i _ => s.size - (intOf i).toNat)
  case atStart => exact ⟨0, Nat.zero_le _, rfl, hB, But.refl _ _ _⟩
  case round =>
    obtain ⟨k, hk, rfl, hbl, hbut⟩ := hrel
    by_cases hlt : k < s.size
    · have hcell := (hbut.cell (p := ⟨w.heap.size + 1, k, none⟩) (by simp) (by simp)).trans (hc k hlt)
      have hS := Lib.hid (hexL_take s.data.toList k (by rw [hL.out]; exact hlt))
      have hle : (Lib.byteCells (hexL (s.data.toList.take k))).length ≤ 2 * s.size := by rw [Lib.byteCells_length, hexL_length]; have := List.length_take_le k s.data.toList; omega
      have HLE := Lib.hid hle
      clear hle
      generalize hexL (s.data.toList.take k) = done at *
      generalize s.data.toList.getD k 0 = x at *
      have hx : (x.toNat : Int) < 256 := by have := x.toNat_lt; omega
      clear hc
      go_wp2_with (go_at_call 37; refine (writeByte_any _ _ _ _ _ hbl (by have := HLE.out; omega)).mono ?_)
      rintro e w1 ⟨rfl, hbl1, hbut1⟩
      go_wp2_with (go_at_call 37; refine (writeByte_any _ _ _ _ _ hbl1 (by have := HLE.out; simp; omega)).mono ?_)
      rintro e w2 ⟨rfl, hbl2, hbut2⟩
      rw [hexD_get, hexD_get, ← byteCells_snoc, ← byteCells_snoc, ← hS.out] at hbl2
      go_wp2
      go_roundw
      case rel => exact ⟨k + 1, by omega, by go_num, hbl2, (hbut.trans hbut1).trans hbut2⟩
      case measure => simp [intOf]; omega
    · have : k = s.size := by omega
      subst this
      go_wp2_with (go_at_call 14; refine (builderString_any _ _ _ _ hbl).mono ?_)
      rintro e w1 ⟨rfl, hb1⟩
      go_wp2
      go_ret
      refine ⟨ret_string ?_, ?_⟩
      · rw [← hL.out, List.take_length]
      · exact (hb.trans (hbut.below (by omega))).trans hb1
end Go.Proofs.YthecllooledpaaaDoor
