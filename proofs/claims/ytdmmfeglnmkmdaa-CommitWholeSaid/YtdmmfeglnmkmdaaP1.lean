/- Plain words, no program in sight: the sum of bytes, numbers as bytes. -/
import Derived.Test.YtdmmfeglnmkmdaaA
namespace Go.Proofs.Ytdmmfeglnmkmdaa.Plain

/-- The table of half bytes. -/
def tabL : List Nat := [0x00000000, 0x1db71064, 0x3b6e20c8, 0x26d930ac, 0x76dc4190, 0x6b6b51f4, 0x4db26158, 0x5005713c,
  0xedb88320, 0xf00f9344, 0xd6d6a3e8, 0xcb61b38c, 0x9b64c2b0, 0x86d3d2d4, 0xa00ae278, 0xbdbdf21c]
def tab (n : Nat) : Nat := tabL.getD (n % 16) 0
def half (n : Nat) : Nat := (n / 16) ^^^ tab n
def stepB (n b : Nat) : Nat := half (half (n ^^^ b))
def raw (n : Nat) (s : List UInt8) : Nat := s.foldl (fun n b => stepB n b.toNat) n
def more (sum : Nat) (s : List UInt8) : Nat := 4294967295 - raw (4294967295 - sum) s

theorem tab_lt (n : Nat) : tab n < 4294967296 := by
  have h : n % 16 < 16 := Nat.mod_lt _ (by decide)
  have k : ∀ k, k < 16 → tabL.getD k 0 < 4294967296 := by decide
  exact k _ h
theorem xor_lt32 {a b : Nat} (ha : a < 4294967296) (hb : b < 4294967296) : a ^^^ b < 4294967296 := Nat.xor_lt_two_pow (n := 32) ha hb
theorem half_lt {n : Nat} (h : n < 4294967296) : half n < 4294967296 := xor_lt32 (by omega) (tab_lt n)
theorem stepB_lt {n b : Nat} (h : n < 4294967296) (hb : b < 256) : stepB n b < 4294967296 := half_lt (half_lt (xor_lt32 h (by omega)))
theorem raw_lt (s : List UInt8) : ∀ n, n < 4294967296 → raw n s < 4294967296 := by
  induction s with
  | nil => intro n h; exact h
  | cons b s ih => intro n h; exact ih _ (stepB_lt h b.toNat_lt)
theorem raw_snoc (s : List UInt8) (b : UInt8) (n : Nat) : raw n (s ++ [b]) = stepB (raw n s) b.toNat := by simp [raw, List.foldl_append]
theorem more_lt (sum : Nat) (s : List UInt8) : more sum s < 4294967296 := by unfold more; omega
theorem more_append (sum : Nat) (hs : sum < 4294967296) (s t : List UInt8) : more sum (s ++ t) = more (more sum s) t := by
  have h := raw_lt s (4294967295 - sum) (by omega)
  unfold more
  rw [show 4294967295 - (4294967295 - raw (4294967295 - sum) s) = raw (4294967295 - sum) s by omega]
  simp [raw, List.foldl_append]

/-- A sum's four bytes, the least first. -/
def le4 (n : Nat) : List UInt8 := [UInt8.ofNat (n % 256), UInt8.ofNat (n / 256 % 256), UInt8.ofNat (n / 65536 % 256), UInt8.ofNat (n / 16777216 % 256)]
def closeL (s : List UInt8) : List UInt8 := s ++ le4 (more 0 s)
def openL (t : List UInt8) : Option (List UInt8) := if t.length < 4 then none else if closeL (t.take (t.length - 4)) = t then some (t.take (t.length - 4)) else none
theorem le4_length (n : Nat) : (le4 n).length = 4 := rfl
theorem closeL_length (s : List UInt8) : (closeL s).length = s.length + 4 := by simp [closeL, le4_length]
theorem open_close (s : List UInt8) : openL (closeL s) = some s := by
  unfold openL
  rw [closeL_length, if_neg (by omega)]
  have e : (closeL s).take (s.length + 4 - 4) = s := by simp [closeL]
  rw [e, if_pos rfl]

/-- A number's k bytes, the greatest first; the number of bytes. -/
def beL : Nat → Nat → List UInt8
  | 0, _ => []
  | k + 1, n => beL k (n / 256) ++ [UInt8.ofNat (n % 256)]
def beV (s : List UInt8) : Nat := s.foldl (fun n b => n * 256 + b.toNat) 0
theorem beL_length : ∀ k n, (beL k n).length = k
  | 0, _ => rfl
  | k + 1, n => by simp [beL, beL_length k]
theorem beV_snoc (s : List UInt8) (b : UInt8) : beV (s ++ [b]) = beV s * 256 + b.toNat := by simp [beV, List.foldl_append]
theorem beV_beL : ∀ k n, n < 256 ^ k → beV (beL k n) = n
  | 0, n, h => by
    have : n = 0 := by simpa using h
    subst this
    rfl
  | k + 1, n, h => by
    have h1 : n / 256 < 256 ^ k := by
      rw [Nat.pow_succ] at h
      exact Nat.div_lt_of_lt_mul (by omega)
    have h2 : (UInt8.ofNat (n % 256)).toNat = n % 256 := by
      simp
    rw [show beL (k + 1) n = beL k (n / 256) ++ [UInt8.ofNat (n % 256)] from rfl, beV_snoc, beV_beL k _ h1, h2]
    omega
theorem beV_from (s : List UInt8) : ∀ a, s.foldl (fun n (b : UInt8) => n * 256 + b.toNat) a < (a + 1) * 256 ^ s.length := by
  induction s with
  | nil => intro a; simp
  | cons b s ih =>
    intro a
    have h : b.toNat < 256 := b.toNat_lt
    have := ih (a * 256 + b.toNat)
    rw [List.foldl_cons, List.length_cons, Nat.pow_succ]
    refine Nat.lt_of_lt_of_le this ?_
    rw [Nat.mul_comm (256 ^ s.length) 256, ← Nat.mul_assoc]
    exact Nat.mul_le_mul_right _ (by omega)
theorem beV_lt (s : List UInt8) : beV s < 256 ^ s.length := by
  have := beV_from s 0
  simpa [beV] using this

/-- octet.Put, octet.Get at place 0. -/
def putN (n k : Nat) : Option (List UInt8) := if n < 256 ^ k then some (beL k n) else none
def getN (s : List UInt8) (k : Nat) : Nat × Bool := if s.length < k then (0, false) else if beV (s.take k) < 9223372036854775808 then (beV (s.take k), true) else (0, false)
theorem getN_beL (k n : Nat) (h : n < 256 ^ k) (h2 : n < 9223372036854775808) : getN (beL k n) k = (n, true) := by
  have e : (beL k n).take k = beL k n := List.take_of_length_le (by rw [beL_length]; omega)
  unfold getN
  rw [beL_length, if_neg (by omega), e, beV_beL k n h, if_pos h2]
end Go.Proofs.Ytdmmfeglnmkmdaa.Plain
