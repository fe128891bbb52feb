/- Plain laws, no Go: pieces between single bytes, decimal numerals, hexadecimal digits. -/
import Derived.Lib.Split
import Derived.Lib.SplitLaws
import Derived.Lib.IndexMore
import Derived.Lib.IndexBytes
import Derived.Lib.Join
import Derived.Lib.ItoaNum
import Derived.Lib.Strings
namespace Go.Proofs.YthecllooledpaaaDoor.Plain
open Go.Lib

theorem indexByte_hit (c : UInt8) (r : List UInt8) : ∀ x : List UInt8, c ∉ x → indexByte (x ++ c :: r) c = x.length
  | [], _ => by simp [indexByte]
  | b :: x, h => by
    have hb : (b == c) = false := by simp; intro e; exact h (by simp [e])
    have ih := indexByte_hit c r x (fun hx => h (List.mem_cons_of_mem _ hx))
    rw [List.cons_append, indexByte, hb, ih]
    simp
theorem indexByte_miss (c : UInt8) : ∀ x : List UInt8, c ∉ x → indexByte x c = -1
  | [], _ => rfl
  | b :: x, h => by
    have hb : (b == c) = false := by simp; intro e; exact h (by simp [e])
    rw [indexByte, hb, indexByte_miss c x (fun hx => h (List.mem_cons_of_mem _ hx))]
    simp
def pieces (c : UInt8) (l : List UInt8) : List (List UInt8) := splitK [c] 0 (l.count c) l
theorem pieces_miss (c : UInt8) (l : List UInt8) (h : c ∉ l) : pieces c l = [l] := by
  unfold pieces
  rw [List.count_eq_zero_of_not_mem h]
  rfl
theorem pieces_hit (c : UInt8) (x r : List UInt8) (h : c ∉ x) : pieces c (x ++ c :: r) = x :: pieces c r := by
  unfold pieces
  rw [List.count_append, List.count_cons_self, List.count_eq_zero_of_not_mem h, show 0 + (r.count c + 1) = r.count c + 1 by omega]
  rw [splitK, index_one, indexByte_hit c r x h]
  have : ((x.length : Int) == -1) = false := by simp
  rw [this]
  simp
theorem cut_hit (c : UInt8) (x r : List UInt8) (h : c ∉ x) : cut (x ++ c :: r) [c] = (x, r, true) := by
  unfold cut
  rw [index_one, indexByte_hit c r x h]
  simp
theorem cut_miss (c : UInt8) (x : List UInt8) (h : c ∉ x) : cut x [c] = (x, [], false) := by
  unfold cut
  rw [index_one, indexByte_miss c x h]
  simp
/-- Joined lists that hold no c fall apart at c again. -/
theorem pieces_join (c : UInt8) : ∀ (x : List UInt8) (r : List (List UInt8)), (∀ y ∈ x :: r, c ∉ y) → pieces c (join (x :: r) [c]) = x :: r
  | x, [], h => by rw [join_one]; exact pieces_miss c x (h x List.mem_cons_self)
  | x, y :: r, h => by
    have e : join (x :: y :: r) [c] = x ++ c :: join (y :: r) [c] := by simp [join, List.intercalate]
    rw [e, pieces_hit c x _ (h x List.mem_cons_self), pieces_join c y r (fun z hz => h z (List.mem_cons_of_mem _ hz))]
theorem join_two (c : UInt8) (x y : List UInt8) (r : List (List UInt8)) : join (x :: y :: r) [c] = x ++ c :: join (y :: r) [c] := by simp [join, List.intercalate]

def valD (ds : List UInt8) : Int := ds.foldl (fun n d => 10 * n + ((d.toNat : Int) - 48)) 0
theorem valD_snoc (a : List UInt8) (d : UInt8) : valD (a ++ [d]) = 10 * valD a + ((d.toNat : Int) - 48) := by simp [valD]
def digitB (d : UInt8) : Prop := 48 ≤ d.toNat ∧ d.toNat ≤ 57
theorem ofNat_digit (u : Nat) (h : u < 10) : (UInt8.ofNat (48 + u)).toNat = 48 + u := by
  exact UInt8.toNat_ofNat_of_lt' (by show 48 + u < 256; omega)
theorem dec_digits : ∀ (u : Nat), ∀ d ∈ decDigits u, digitB d := by
  intro u
  induction u using Nat.strongRecOn with
  | _ u ih =>
    intro d hd
    rw [decDigits] at hd
    split at hd
    · rename_i h
      rw [List.mem_singleton] at hd
      subst hd
      unfold digitB
      rw [ofNat_digit u h]
      omega
    · rename_i h
      rcases List.mem_append.1 hd with hd | hd
      · exact ih (u / 10) (by omega) d hd
      · rw [List.mem_singleton] at hd
        subst hd
        unfold digitB
        rw [ofNat_digit (u % 10) (by omega)]
        omega
theorem dec_val : ∀ (u : Nat), valD (decDigits u) = u := by
  intro u
  induction u using Nat.strongRecOn with
  | _ u ih =>
    rw [decDigits]
    split
    · rename_i h
      unfold valD
      simp only [List.foldl_cons, List.foldl_nil]
      rw [ofNat_digit u h]
      omega
    · rename_i h
      rw [valD_snoc, ih (u / 10) (by omega), ofNat_digit (u % 10) (by omega)]
      omega
/-- What stands ahead of a digit is at most a tenth. -/
theorem dec_take : ∀ (u k : Nat), k < (decDigits u).length → 10 * valD ((decDigits u).take k) ≤ u := by
  intro u
  induction u using Nat.strongRecOn with
  | _ u ih =>
    intro k hk
    rw [decDigits] at hk ⊢
    split
    · rename_i h
      rw [dif_pos h] at hk
      simp at hk
      subst hk
      simp [valD]
    · rename_i h
      rw [dif_neg h, List.length_append] at hk
      simp at hk
      by_cases e : k = (decDigits (u / 10)).length
      · subst e
        rw [List.take_left, dec_val]
        omega
      · rw [List.take_append_of_le_length (by omega)]
        have := ih (u / 10) (by omega) k (by omega)
        omega
theorem valD_ge (ds : List UInt8) (h : ∀ d ∈ ds, digitB d) : 0 ≤ valD ds := by
  have H : ∀ (ds : List UInt8) (n : Int), 0 ≤ n → (∀ d ∈ ds, digitB d) → 0 ≤ ds.foldl (fun n d => 10 * n + ((d.toNat : Int) - 48)) n := by
    intro ds
    induction ds with
    | nil => intro n hn _; exact hn
    | cons d ds ih =>
      intro n hn hd
      rw [List.foldl_cons]
      have h2 := (hd d List.mem_cons_self).1
      exact ih _ (by omega) (fun x hx => hd x (List.mem_cons_of_mem _ hx))
  exact H ds 0 (by omega) h
theorem itoa_no (n : Int) (c : UInt8) (h : ¬ digitB c) (h2 : c ≠ 45) : c ∉ itoa n := by
  unfold itoa
  split
  · intro hc
    rcases List.mem_cons.1 hc with hc | hc
    · exact h2 hc
    · exact h (dec_digits _ c hc)
  · intro hc
    exact h (dec_digits _ c hc)
theorem itoa_ne (n : Int) : itoa n ≠ [] := by
  unfold itoa
  split
  · simp
  · rw [decDigits]
    split <;> simp
end Go.Proofs.YthecllooledpaaaDoor.Plain
