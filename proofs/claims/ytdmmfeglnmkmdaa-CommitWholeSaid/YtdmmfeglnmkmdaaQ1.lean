/- chainmanref04.Right: whether a name may be. -/
import Derived.Test.YtdmmfeglnmkmdaaM2
namespace Go.Proofs.Ytdmmfeglnmkmdaa
open Go.RowKit Plain

theorem byte_get (s : ByteArray) (k : Nat) (h : k < s.size) : s.data.toList.getD k 0 = s[k] := by
  have h2 : k < s.data.toList.length := by rw [ba_length]; exact h
  rw [List.getD, List.getElem?_eq_getElem h2]
  rfl
theorem letter_yes {c : Int} (h : (97 ≤ c ∧ c ≤ 122) ∨ (48 ≤ c ∧ c ≤ 57) ∨ c = 46) : letterB c = true := by
  unfold letterB
  simp
  omega
theorem letter_no {c : Int} (h : ¬ ((97 ≤ c ∧ c ≤ 122) ∨ (48 ≤ c ∧ c ≤ 57) ∨ c = 46)) : letterB c = false := by
  rw [Bool.eq_false_iff]
  intro e
  apply h
  unfold letterB at e
  simp at e
  omega
theorem nameB_of {s : List UInt8} (h : lettersB s = true) : nameB s = (decide (1 ≤ s.length) && decide (s.length ≤ 24)) := by
  unfold nameB
  rw [h]
  cases s <;> simp
set_option maxHeartbeats 1600000 in
theorem rright_any (s : ByteArray) (w : World) (hs : s.size ≤ 9223372036854775807) : Calls Try.prog 42 #[.string s] w fun e w' => e = .returned (.bool (nameB s.data.toList)) ∧ w = w' := by
  have hL := Lib.hid (ba_length s)
  go_enter Try.func42, Try.ntmps42
  go_wp2
  go_loop [3] (fun i => ∃ k : Nat, k ≤ s.size ∧ i = .int .i64 k ∧ Hid (lettersB (s.data.toList.take k) = true)) (fun i => s.size - (intOf i).toNat)
  case atStart => exact ⟨0, Nat.zero_le _, rfl, rfl⟩
  case round =>
    obtain ⟨k, hk, rfl, hm⟩ := hrel
    by_cases hlt : k < s.size
    · have hS := Lib.hid (lettersB_take s.data.toList k (by rw [hL.out]; exact hlt))
      have hN := Lib.hid (lettersB_not s.data.toList k (by rw [hL.out]; exact hlt))
      rw [byte_get s k hlt] at hS hN
      go_wp2_with fail
      all_goals
        first
          | (go_ret
             refine ⟨ret_bool (hN.out (letter_no ?_)).symm, rfl⟩
             simp only [bne_iff_ne, ne_eq, bne_eq_false_iff_eq] at *
             omega)
          | (go_round
             case rel =>
               refine ⟨k + 1, by omega, by go_num, ?_⟩
               unfold Hid
               rw [hS.out, hm.out, letter_yes]
               · rfl
               · simp only [bne_iff_ne, ne_eq, bne_eq_false_iff_eq] at *
                 omega
             case measure => simp [intOf]; omega)
    · obtain rfl : k = s.size := by omega
      have hv : Hid (nameB s.data.toList = (decide (1 ≤ s.size) && decide (s.size ≤ 24))) := by
        have h := hm.out
        rw [show s.size = s.data.toList.length from hL.out.symm, List.take_length] at h
        unfold Hid
        rw [nameB_of h, hL.out]
      go_wp2_with fail
      all_goals
        go_ret
        refine ⟨ret_bool ?_, rfl⟩
        rw [hv.out, Bool.eq_iff_iff]
        simp
        try omega
end Go.Proofs.Ytdmmfeglnmkmdaa
