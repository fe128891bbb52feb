/- Contracts of script.may and fs.Right: one loop each. -/
import Derived.Test.YthecllooledpaaaDoorA
namespace Go.Proofs.YthecllooledpaaaDoor
open Go.RowKit

def far (n : Int) : Bool := decide (n < -4611686018427387904) || decide (4611686018427387904 < n)
theorem far_no {n : Int} (h0 : ¬ n < -4611686018427387904) (h1 : ¬ 4611686018427387904 < n) : far n = false := by simp [far]; omega
theorem far_lo {n : Int} (h0 : n < -4611686018427387904) : far n = true := by simp [far]; omega
theorem far_hi {n : Int} (h0 : 4611686018427387904 < n) : far n = true := by simp [far]; omega
def mayB (ks : List Int) : Bool := ks.all fun n => !far n
theorem mayB_take (ks : List Int) (k : Nat) (hk : k < ks.length) : mayB (ks.take (k + 1)) = (mayB (ks.take k) && !far (ks.getD k 0)) := by
  unfold mayB
  rw [List.take_succ_eq_append_getElem hk, List.all_append]
  simp [List.getD, List.getElem?_eq_getElem hk]
theorem mayB_not (ks : List Int) (k : Nat) (hk : k < ks.length) (h : far (ks.getD k 0) = true) : mayB ks = false := by
  unfold mayB
  rw [List.all_eq_false]
  refine ⟨ks[k], List.getElem_mem hk, ?_⟩
  have e : ks.getD k 0 = ks[k] := by simp [List.getD, List.getElem?_eq_getElem hk]
  rw [e] at h
  simp [h]

set_option maxHeartbeats 400000 in
theorem may_any (v : Value) (ks : List Int) (w : World) (h : Ints w v ks) : Calls Tryd.prog 34 #[v] w fun e w' => e = .returned (.bool (mayB ks)) ∧ w = w' := by
  obtain ⟨A, c, rfl, h1, h2, h3⟩ := h
  unfold maxLen at h2
  have hl : ks.length ≤ 9223372036854775807 := by omega
  go_enter Tryd.func34, Tryd.ntmps34
  go_wp2
  go_loop [7] (fun i => ∃ k : Nat, k ≤ ks.length ∧ i = .int .i64 k ∧ Hid (mayB (ks.take k) = true)) (fun i => ks.length - (intOf i).toNat)
  case atStart => exact ⟨0, Nat.zero_le _, rfl, rfl⟩
  case round =>
    obtain ⟨k, hk, rfl, hm⟩ := hrel
    by_cases hlt : k < ks.length
    · obtain ⟨ad, rfl, hc⟩ := h3 k hlt
      have hs := Lib.hid (mayB_take ks k hlt)
      have hn := Lib.hid (mayB_not ks k hlt)
      generalize ks.getD k 0 = x at *
      clear h3
      by_cases hx : x < -4611686018427387904
      · go_wp2
        go_ret
        exact ⟨ret_bool (by rw [hn.out (far_lo hx)]), rfl⟩
      · by_cases hy : 4611686018427387904 < x
        · go_wp2
          go_ret
          exact ⟨ret_bool (by rw [hn.out (far_hi hy)]), rfl⟩
        · go_wp2
          go_round
          case rel => exact ⟨k + 1, by omega, by go_num, by unfold Hid; rw [hs.out, hm.out, far_no hx hy]; rfl⟩
          case measure => simp [intOf]; omega
    · have : k = ks.length := by omega
      subst this
      go_wp2
      go_ret
      exact ⟨ret_bool (by have := hm.out; rw [List.take_length] at this; rw [this]), rfl⟩

def lettersB (s : List UInt8) : Bool := s.all fun c => letterB (c.toNat : Int)
def nameB (s : List UInt8) : Bool := lettersB s && (!s.isEmpty && decide (s.length ≤ 24))
theorem lettersB_take (s : List UInt8) (k : Nat) (hk : k < s.length) : lettersB (s.take (k + 1)) = (lettersB (s.take k) && letterB ((s.getD k 0).toNat : Int)) := by
  unfold lettersB
  rw [List.take_succ_eq_append_getElem hk, List.all_append]
  simp [List.getD, List.getElem?_eq_getElem hk]
theorem lettersB_not (s : List UInt8) (k : Nat) (hk : k < s.length) (h : letterB ((s.getD k 0).toNat : Int) = false) : nameB s = false := by
  unfold nameB lettersB
  rw [Bool.and_eq_false_iff]
  left
  rw [List.all_eq_false]
  refine ⟨s[k], List.getElem_mem hk, ?_⟩
  have e : s.getD k 0 = s[k] := by simp [List.getD, List.getElem?_eq_getElem hk]
  rw [e] at h
  simp [h]
theorem bytes_below (w : World) (e : TypeId) (s : ByteArray) : Below w.heap.size w (Lib.bytesWorld w e s) :=
  ⟨rfl, rfl, rfl, by rw [Lib.bytesWorld_size]; omega, fun i hi => Lib.bytesWorld_at_old w e s i hi⟩

set_option maxHeartbeats 400000 in
theorem right_any (s : ByteArray) (w : World) (hs : s.size ≤ 9223372036854775807) : Calls Tryd.prog 36 #[.string s] w fun e w' => e = .returned (.bool (nameB s.data.toList)) ∧ Below w.heap.size w w' := by
  have kb := fun W => Lib.run_convert_string_bytes (P := Tryd.prog) W 9 44 5 s Tryd.underlying9 Tryd.underlying44 Tryd.underlying5
  have hl : s.data.toList.length = s.size := by rw [Array.length_toList]; rfl
  have hL := Lib.hid hl
  have hc := Lib.bytesWorld_cell w 5 s
  have hb := bytes_below w 5 s
  go_enter Tryd.func36, Tryd.ntmps36
  go_wp2
  generalize Lib.bytesWorld w 5 s = W at *
  clear kb hl
  go_loop [8] (fun i => ∃ k : Nat, k ≤ s.size ∧ i = .int .i64 k ∧ Hid (lettersB (s.data.toList.take k) = true)) (fun i => s.size - (intOf i).toNat)
  case atStart => exact ⟨0, Nat.zero_le _, rfl, rfl⟩
  case round =>
    obtain ⟨k, hk, rfl, hm⟩ := hrel
    by_cases hlt : k < s.size
    · have hcell := hc k hlt
      have hS := Lib.hid (lettersB_take s.data.toList k (by rw [hL.out]; exact hlt))
      have hN := Lib.hid (lettersB_not s.data.toList k (by rw [hL.out]; exact hlt))
      generalize s.data.toList.getD k 0 = x at *
      clear hc
      cases hx : letterB (x.toNat : Int)
      · have HX := Lib.hid hx
        clear hx
        go_wp2_with (go_at_call 47; refine (letter_any _ _).mono ?_; rintro e w' ⟨rfl, rfl⟩; rw [HX.out])
        go_ret
        exact ⟨ret_bool (by rw [hN.out HX.out]), hb⟩
      · have HX := Lib.hid hx
        clear hx
        go_wp2_with (go_at_call 47; refine (letter_any _ _).mono ?_; rintro e w' ⟨rfl, rfl⟩; rw [HX.out])
        go_round
        case rel => exact ⟨k + 1, by omega, by go_num, by unfold Hid; rw [hS.out, hm.out, HX.out]; rfl⟩
        case measure => simp [intOf]; omega
    · have : k = s.size := by omega
      subst this
      go_wp2
      all_goals go_ret
      all_goals
        refine ⟨ret_bool ?_, hb⟩
        have H1 := hm.out
        have H2 := hL.out
        rw [show s.size = s.data.toList.length from H2.symm, List.take_length] at H1
        unfold nameB
        rw [H1]
      · have h := ‹s.toList = []›
        rw [ByteArray.toList_eq] at h
        rw [h]
        rfl
      · rw [ByteArray.toList_eq, H2]
        rw [show decide ((s.size : Int) ≤ 24) = decide (s.size ≤ 24) from by congr 1; simp; omega]
        rfl
end Go.Proofs.YthecllooledpaaaDoor
