/- script.bytes: the bytes of hexadecimal digits. -/
import Derived.Test.YthecllooledpaaaDoorV
namespace Go.Proofs.YthecllooledpaaaDoor
open Go.RowKit Plain

theorem hexL_get0 : ∀ (t : List UInt8) (k : Nat) (h : k < t.length) (bad : List UInt8), (hexL t ++ bad)[2 * k]? = some (hexD (t[k].toNat / 16))
  | c :: t, 0, _, bad => rfl
  | c :: t, k + 1, h, bad => by
    have e : hexL (c :: t) ++ bad = hexD (c.toNat / 16) :: hexD (c.toNat % 16) :: (hexL t ++ bad) := by simp [hexL, List.flatMap_cons]
    rw [e, show 2 * (k + 1) = 2 * k + 1 + 1 by omega, List.getElem?_cons_succ, List.getElem?_cons_succ, hexL_get0 t k (by simpa using h) bad]
    simp
theorem hexL_get1 : ∀ (t : List UInt8) (k : Nat) (h : k < t.length) (bad : List UInt8), (hexL t ++ bad)[2 * k + 1]? = some (hexD (t[k].toNat % 16))
  | c :: t, 0, _, bad => rfl
  | c :: t, k + 1, h, bad => by
    have e : hexL (c :: t) ++ bad = hexD (c.toNat / 16) :: hexD (c.toNat % 16) :: (hexL t ++ bad) := by simp [hexL, List.flatMap_cons]
    rw [e, show 2 * (k + 1) + 1 = (2 * k + 1) + 1 + 1 by omega, List.getElem?_cons_succ, List.getElem?_cons_succ, hexL_get1 t k (by simpa using h) bad]
    simp
theorem index_hex (n : Nat) (h : n < 16) : Lib.indexByte hexDigits (hexD n) = n := by
  have H : ∀ m : Fin 16, Lib.indexByte hexDigits (hexD m.val) = m.val := by decide +kernel
  exact H ⟨n, h⟩

theorem ofInt_i64 (a : Nat) (ha : a < 9223372036854775808) : (BitVec.ofInt 64 (a : Int)).toNat = a := by
  rw [BitVec.ofInt_natCast, BitVec.toNat_ofNat]; exact Nat.mod_eq_of_lt (by omega)
theorem i64_or_nat (a b : Nat) (ha : a < 9223372036854775808) (hb : b < 9223372036854775808) : bits .or .i64 (a : Int) (b : Int) = ((a ||| b : Nat) : Int) := by
  have hx : a ||| b < 2 ^ 63 := Nat.or_lt_two_pow (by omega) (by omega)
  show IntKind.i64.wrap ((BitVec.ofInt 64 (a : Int) ||| BitVec.ofInt 64 (b : Int)).toNat : Int) = _
  rw [BitVec.toNat_or, ofInt_i64 a ha, ofInt_i64 b hb, IntKind.wrap_i64]
  omega
theorem join_nib (hi lo : Nat) (h : hi < 16) (l : lo < 16) : bits .or .i64 ((hi : Int) * 16) (lo : Int) % 256 = ((16 * hi + lo : Nat) : Int) := by
  rw [show ((hi : Int) * 16) = ((16 * hi : Nat) : Int) by omega, i64_or_nat _ _ (by omega) (by omega)]
  have := Nat.two_pow_add_eq_or_of_lt (i := 4) (b := lo) (by omega) hi
  rw [show (2 : Nat) ^ 4 = 16 from rfl] at this
  rw [← this]
  omega
theorem nib (s : List UInt8) (i n : Nat) (hn : n < 16) (h : s[i]? = some (hexD n)) (hi : i < (⟨s.toArray⟩ : ByteArray).size) :
    Lib.indexByte (⟨#[48, 49, 50, 51, 52, 53, 54, 55, 56, 57, 97, 98, 99, 100, 101, 102]⟩ : ByteArray).data.toList ((((⟨s.toArray⟩ : ByteArray)[i]'hi).toNat : Int)).toNat.toUInt8 = (n : Int) := by
  have e : (⟨s.toArray⟩ : ByteArray)[i]'hi = hexD n := by
    show s.toArray[i] = hexD n
    rw [List.getElem_toArray]
    exact (List.getElem?_eq_some_iff.1 h).2
  rw [e, Int.toNat_natCast, show (hexD n).toNat.toUInt8 = hexD n by simp]
  exact index_hex n hn

set_option maxHeartbeats 4000000 in
set_option maxRecDepth 100000 in
theorem bytes_dash (w : World) : Calls Tryd.prog 29 #[.string ⟨#[45]⟩] w fun e w' => e = .returned (.string ⟨#[]⟩) ∧ w = w' := by
  go_enter Tryd.func29, Tryd.ntmps29
  go_wp2
  go_ret
  exact ⟨rfl, rfl⟩

set_option maxHeartbeats 4000000 in
set_option maxRecDepth 100000 in
theorem bytes_hex (t : List UInt8) (ht : t ≠ []) (h4 : t.length ≤ 400) (w : World) : Calls Tryd.prog 29 #[.string ⟨(hexL t).toArray⟩] w fun e w' => e = .returned (.string ⟨t.toArray⟩) ∧ Below w.heap.size w w' := by
  obtain ⟨i0, hinf, hz0, hz1, hz2⟩ := info_parts Tryd.info5
  have hlen := hexL_length t
  have hg0 := fun k h => hexL_get0 t k h []
  have hg1 := fun k h => hexL_get1 t k h []
  simp only [List.append_nil] at hg0 hg1
  generalize hexL t = s at *
  have htl : 0 < t.length := by cases t <;> simp_all
  have n0 : (s == [45]) = false := by rw [beq_eq_false_iff_ne]; rintro rfl; simp at hlen; omega
  have n1 : s.isEmpty = false := by cases s <;> simp_all; omega
  have hl2 : s.length ≤ 800 := by omega
  have HL := Lib.hid hlen
  clear hlen
  go_enter Tryd.func29, Tryd.ntmps29
  go_wp2_with fail
  rw [show ((s.length : Int) % 2 == 0) = true by rw [beq_iff_eq]; have := HL.out; omega]
  refine (must_so _).mono ?_
  rintro e w' ⟨rfl, rfl⟩
  go_wp2_with fail
  go_loopw [3, 4] (fun v i wr => ∃ k : Nat, k ≤ t.length ∧ i = .int .i64 (2 * (k : Int)) ∧ wr.ownsRow w.heap.size 5 1 v k (Lib.byteCells (t.take k)) ∧ Below w.heap.size w wr) (fun _ i _ => s.length - (intOf i).toNat)
  case atStart => exact ⟨0, Nat.zero_le _, rfl, ⟨by simp [Lib.byteCells], .inl ⟨rfl, rfl⟩⟩, Below.refl _ _⟩
  case round =>
    obtain ⟨k, hk, rfl, hown, hbr⟩ := hrel
    by_cases hlt : k < t.length
    · have x0 := hg0 k hlt
      have x1 := hg1 k hlt
      have q0 : (0 : Int) ≤ 2 * (k : Int) := by omega
      have q1 : 2 * (k : Int) < (s.length : Int) := by have := HL.out; omega
      have q2 : 2 * (k : Int) + 1 < (s.length : Int) := by have := HL.out; omega
      have q3 : IntKind.i64.wrap (2 * (k : Int) + 1) = 2 * (k : Int) + 1 := IntWalk.i64_in _ (by omega)
      have q4 : (2 * (k : Int)).toNat = 2 * k := by omega
      have q5 : (2 * (k : Int) + 1).toNat = 2 * k + 1 := by omega
      clear hg0 hg1
      go_wp2_with fail
      have q6 : (0 : Int) ≤ 2 * (k : Int) + 1 := by omega
      go_quiet ((go_at_call 45; exact Calls.quiet_of_same (Tryd.strings_IndexByte _ _ _)))
      have hc0 := t[k].toNat_lt
      have hlo := Nat.mod_lt t[k].toNat (show 16 > 0 by omega)
      rw [nib s (2 * k) (t[k].toNat / 16) (by omega) x0, nib s (2 * k + 1) (t[k].toNat % 16) hlo x1]
      have htk : Hid (t.take (k + 1) = t.take k ++ [t[k]]) := List.take_succ_eq_append_getElem hlt
      generalize t[k] = c at *
      have hhi : c.toNat / 16 < 16 := by omega
      have hcc : Hid (16 * (c.toNat / 16) + c.toNat % 16 = c.toNat) := Nat.div_add_mod _ _
      generalize c.toNat / 16 = hi at *
      generalize c.toNat % 16 = lo at *
      clear q3 hc0
      go_wp2_with fail
      refine (must_so _).mono ?_
      rintro e w2 ⟨rfl, rfl⟩
      have hown2 := own_below hown ((below_drewN (Below.refl _ wr) nq))
      have hbr2 := below_drewN hbr nq
      go_wp2_with (at_builtin; refine wpList_append_own _ rfl _ _ 44 rfl w.heap.size 5 i0 (.int .u8 0) 1 1 Tryd.underlying44 hinf hz0 hz1 hz2 rfl (by decide) _ _ _ rfl (hown2.alloc _) ⟨wr.heap.size, 0, none⟩ 1 1 [.int .u8 (bits BinOp.or IntKind.i64 ((hi : Int) * 16) (lo : Int) % 256)] rfl rfl ?c1 ?c2 ?c3 ?c4 ?c5 ?_)
      case c1 => exact (cell_one_new _ _ _)
      case c2 => intro u hu; simp at hu; subst hu; rfl
      case c3 => unfold maxLen; omega
      case c4 => omega
      case c5 => have := hbr.size; simp; omega
      intro v' w3 hown' hgrow _
      rw [join_nib hi lo hhi hlo, hcc.out] at hown'
      have hfin : w3.ownsRow w.heap.size 5 1 v' (k + 1) (Lib.byteCells (t.take (k + 1))) := by rw [htk.out, byteCells_snoc]; exact hown'
      go_wp2
      go_roundw
      case rel => exact ⟨k + 1, by omega, by congr 1, hfin, (hbr2.alloc hbr2.size _).grown hgrow (by have := hbr.size; simp; omega) (fun g hg => (hown2.lt g hg).1)⟩
      case measure => simp [intOf]; omega
    · have : k = t.length := by omega
      subst this
      rw [List.take_length] at hown
      have hl3 : ¬ (2 * (t.length : Int) < (s.length : Int)) := by have := HL.out; omega
      rcases id hown.2 with ⟨_, h0⟩ | ⟨g, cap, cur, rfl, _⟩
      · exact absurd h0 (by omega)
      have hcv := run_convert_bytes_back (P := Tryd.prog) wr 44 9 5 ⟨g, 0, none⟩ cap t Tryd.underlying44 Tryd.underlying5 Tryd.underlying9 (fun j hj => hown.cells (g := g) rfl j _ (by simp [Lib.byteCells, List.getElem?_eq_getElem hj]))
      go_wp2
      go_ret
      exact ⟨rfl, hbr⟩
theorem nob (s : List UInt8) (i : Nat) (h : s[i]? = some 70) (hi : i < (⟨s.toArray⟩ : ByteArray).size) :
    Lib.indexByte (⟨#[48, 49, 50, 51, 52, 53, 54, 55, 56, 57, 97, 98, 99, 100, 101, 102]⟩ : ByteArray).data.toList ((((⟨s.toArray⟩ : ByteArray)[i]'hi).toNat : Int)).toNat.toUInt8 = -1 := by
  have e : (⟨s.toArray⟩ : ByteArray)[i]'hi = 70 := by
    show s.toArray[i] = 70
    rw [List.getElem_toArray]
    exact (List.getElem?_eq_some_iff.1 h).2
  rw [e]
  decide +kernel

set_option maxHeartbeats 4000000 in
set_option maxRecDepth 100000 in
theorem bytes_bad (t : List UInt8) (h4 : t.length ≤ 400) (w : World) : Calls Tryd.prog 29 #[.string ⟨(hexL t ++ [70, 48]).toArray⟩] w fun e w' => e = .panicked wrongP ∧ Below w.heap.size w w' := by
  obtain ⟨i0, hinf, hz0, hz1, hz2⟩ := info_parts Tryd.info5
  have hlen : (hexL t ++ [70, 48]).length = 2 * t.length + 2 := by rw [List.length_append, hexL_length]; rfl
  have hg0 := fun k h => hexL_get0 t k h [70, 48]
  have hg1 := fun k h => hexL_get1 t k h [70, 48]
  have b0 : (hexL t ++ [70, 48])[2 * t.length]? = some 70 := by rw [List.getElem?_append_right (by rw [hexL_length]; omega), hexL_length]; simp
  have b1 : (hexL t ++ [70, 48])[2 * t.length + 1]? = some 48 := by rw [List.getElem?_append_right (by rw [hexL_length]; omega), hexL_length]; simp
  generalize hexL t ++ [70, 48] = s at *
  have n0 : (s == [45]) = false := by rw [beq_eq_false_iff_ne]; rintro rfl; simp at hlen
  have n1 : s.isEmpty = false := by cases s <;> simp_all
  have hl2 : s.length ≤ 802 := by omega
  have HL := Lib.hid hlen
  clear hlen
  go_enter Tryd.func29, Tryd.ntmps29
  go_wp2_with fail
  rw [show ((s.length : Int) % 2 == 0) = true by rw [beq_iff_eq]; have := HL.out; omega]
  refine (must_so _).mono ?_
  rintro e w' ⟨rfl, rfl⟩
  go_wp2_with fail
  go_loopw [3, 4] (fun v i wr => ∃ k : Nat, k ≤ t.length ∧ i = .int .i64 (2 * (k : Int)) ∧ wr.ownsRow w.heap.size 5 1 v k (Lib.byteCells (t.take k)) ∧ Below w.heap.size w wr) (fun _ i _ => s.length - (intOf i).toNat)
  case atStart => exact ⟨0, Nat.zero_le _, rfl, ⟨by simp [Lib.byteCells], .inl ⟨rfl, rfl⟩⟩, Below.refl _ _⟩
  case round =>
    obtain ⟨k, hk, rfl, hown, hbr⟩ := hrel
    by_cases hlt : k < t.length
    · have x0 := hg0 k hlt
      have x1 := hg1 k hlt
      have q0 : (0 : Int) ≤ 2 * (k : Int) := by omega
      have q1 : 2 * (k : Int) < (s.length : Int) := by have := HL.out; omega
      have q2 : 2 * (k : Int) + 1 < (s.length : Int) := by have := HL.out; omega
      have q3 : IntKind.i64.wrap (2 * (k : Int) + 1) = 2 * (k : Int) + 1 := IntWalk.i64_in _ (by omega)
      have q4 : (2 * (k : Int)).toNat = 2 * k := by omega
      have q5 : (2 * (k : Int) + 1).toNat = 2 * k + 1 := by omega
      clear hg0 hg1 b0 b1
      go_wp2_with fail
      have q6 : (0 : Int) ≤ 2 * (k : Int) + 1 := by omega
      go_quiet ((go_at_call 45; exact Calls.quiet_of_same (Tryd.strings_IndexByte _ _ _)))
      have hc0 := t[k].toNat_lt
      have hlo := Nat.mod_lt t[k].toNat (show 16 > 0 by omega)
      rw [nib s (2 * k) (t[k].toNat / 16) (by omega) x0, nib s (2 * k + 1) (t[k].toNat % 16) hlo x1]
      have htk : Hid (t.take (k + 1) = t.take k ++ [t[k]]) := List.take_succ_eq_append_getElem hlt
      generalize t[k] = c at *
      have hhi : c.toNat / 16 < 16 := by omega
      have hcc : Hid (16 * (c.toNat / 16) + c.toNat % 16 = c.toNat) := Nat.div_add_mod _ _
      generalize c.toNat / 16 = hi at *
      generalize c.toNat % 16 = lo at *
      clear q3 hc0
      go_wp2_with fail
      refine (must_so _).mono ?_
      rintro e w2 ⟨rfl, rfl⟩
      have hown2 := own_below hown ((below_drewN (Below.refl _ wr) nq))
      have hbr2 := below_drewN hbr nq
      go_wp2_with (at_builtin; refine wpList_append_own _ rfl _ _ 44 rfl w.heap.size 5 i0 (.int .u8 0) 1 1 Tryd.underlying44 hinf hz0 hz1 hz2 rfl (by decide) _ _ _ rfl (hown2.alloc _) ⟨wr.heap.size, 0, none⟩ 1 1 [.int .u8 (bits BinOp.or IntKind.i64 ((hi : Int) * 16) (lo : Int) % 256)] rfl rfl ?c1 ?c2 ?c3 ?c4 ?c5 ?_)
      case c1 => exact (cell_one_new _ _ _)
      case c2 => intro u hu; simp at hu; subst hu; rfl
      case c3 => unfold maxLen; omega
      case c4 => omega
      case c5 => have := hbr.size; simp; omega
      intro v' w3 hown' hgrow _
      rw [join_nib hi lo hhi hlo, hcc.out] at hown'
      have hfin : w3.ownsRow w.heap.size 5 1 v' (k + 1) (Lib.byteCells (t.take (k + 1))) := by rw [htk.out, byteCells_snoc]; exact hown'
      go_wp2
      go_roundw
      case rel => exact ⟨k + 1, by omega, by congr 1, hfin, (hbr2.alloc hbr2.size _).grown hgrow (by have := hbr.size; simp; omega) (fun g hg => (hown2.lt g hg).1)⟩
      case measure => simp [intOf]; omega
    · have : k = t.length := by omega
      subst this
      have q0 : (0 : Int) ≤ 2 * (t.length : Int) := by omega
      have q1 : 2 * (t.length : Int) < (s.length : Int) := by have := HL.out; omega
      have q2 : 2 * (t.length : Int) + 1 < (s.length : Int) := by have := HL.out; omega
      have q3 : IntKind.i64.wrap (2 * (t.length : Int) + 1) = 2 * (t.length : Int) + 1 := IntWalk.i64_in _ (by omega)
      have q4 : (2 * (t.length : Int)).toNat = 2 * t.length := by omega
      have q5 : (2 * (t.length : Int) + 1).toNat = 2 * t.length + 1 := by omega
      clear hg0 hg1 hown hlt
      go_wp2_with fail
      have q6 : (0 : Int) ≤ 2 * (t.length : Int) + 1 := by omega
      go_quiet ((go_at_call 45; exact Calls.quiet_of_same (Tryd.strings_IndexByte _ _ _)))
      rw [nob s (2 * t.length) b0]
      clear q3
      have hb3 := below_drewN hbr nq
      go_wp2_with fail
      refine (must_not _).mono ?_
      rintro e w2 ⟨rfl, rfl⟩
      go_wp2
      exact ⟨rfl, rfl, hb3⟩
end Go.Proofs.YthecllooledpaaaDoor
