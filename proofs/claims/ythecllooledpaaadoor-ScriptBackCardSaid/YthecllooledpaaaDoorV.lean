/- script.number at numerals, script.word, script.bytes. -/
import Derived.Test.YthecllooledpaaaDoorU
namespace Go.Proofs.YthecllooledpaaaDoor
open Go.RowKit Plain

theorem dec_len (u : Nat) : ∀ k, 1 ≤ k → u < 10 ^ k → (Lib.decDigits u).length ≤ k := by
  induction u using Nat.strongRecOn with
  | _ u ih =>
    intro k hk hu
    rw [Lib.decDigits]
    split
    · simp; omega
    · rename_i h
      obtain ⟨k, rfl⟩ : ∃ m, k = m + 1 := ⟨k - 1, by omega⟩
      have hk1 : 1 ≤ k := by
        rcases Nat.eq_zero_or_pos k with h0 | h0
        · subst h0; simp at hu; omega
        · exact h0
      have := ih (u / 10) (by omega) k hk1 (by rw [Nat.pow_succ] at hu; omega)
      simp; omega

/-- A numeral reads as its number. -/
theorem number_itoa (n : Int) (hfar : far n = false) (w : World) (hf : Fit w) :
    Calls Tryd.prog 30 #[.string ⟨(Lib.itoa n).toArray⟩] w fun e w' => e = .returned (.int .i64 n) ∧ Below w.heap.size w w' := by
  have hb : -4611686018427387904 ≤ n ∧ n ≤ 4611686018427387904 := by unfold far at hfar; simp at hfar; omega
  by_cases h : n < 0
  · have e : Lib.itoa n = 45 :: Lib.decDigits n.natAbs := by unfold Lib.itoa; rw [if_pos h]
    have hv : valD (Lib.decDigits n.natAbs) = -n := by rw [dec_val]; omega
    have H := number_neg (Lib.decDigits n.natAbs) (dec_digits _) (by rw [Lib.decDigits]; split <;> simp) (dec_len _ 19 (by omega) (by omega)) (fun k hk => by have := dec_take n.natAbs k hk; omega) true w hf
      (by rw [hv]; simpa using hfar) (by rw [hv]; simp [e])
    rw [hv] at H
    rw [e]
    refine H.mono fun e w' ⟨he, hb⟩ => ⟨?_, hb⟩
    rw [if_pos rfl] at he
    simpa using he
  · have e : Lib.itoa n = Lib.decDigits n.toNat := by unfold Lib.itoa; rw [if_neg h]
    have hv : valD (Lib.decDigits n.toNat) = n := by rw [dec_val]; omega
    have H := number_pos (Lib.decDigits n.toNat) (dec_digits _) (by rw [Lib.decDigits]; split <;> simp) (dec_len _ 19 (by omega) (by omega)) (fun k hk => by have := dec_take n.toNat k hk; omega) true w hf
      (by rw [hv]; exact hfar) (by rw [hv]; simp [e])
    rw [hv] at H
    rw [e]
    refine H.mono fun e w' ⟨he, hb⟩ => ⟨?_, hb⟩
    rw [if_pos rfl] at he
    exact he

theorem number_07 (w : World) (hf : Fit w) : Calls Tryd.prog 30 #[.string ⟨#[48, 55]⟩] w fun e w' => e = .panicked wrongP ∧ Below w.heap.size w w' := by
  have H := number_pos [48, 55] (by intro d hd; simp at hd; rcases hd with rfl | rfl <;> (unfold digitB; decide)) (by simp) (by simp) (fun k hk => by
    have hk' : k < 2 := hk
    match k, hk' with
    | 0, _ => decide
    | 1, _ => decide) false w hf (by decide) (by decide +kernel)
  refine H.mono fun e w' ⟨he, hb⟩ => ⟨?_, hb⟩
  rw [if_neg (by simp)] at he
  exact he

/-- A cursor: what is left of a line, and whether there is more. -/
def Cur (w : World) (g : Nat) (rest : List UInt8) (some' : Bool) : Prop := w.heap[g]? = some (.cells #[.string ⟨rest.toArray⟩, .bool some'] 69 (0, 0))
theorem Cur.below {w w' : World} {g : Nat} {rest : List UInt8} {b : Bool} (h : Cur w g rest b) (hb : Below w.heap.size w w') : Cur w' g rest b := by
  unfold Cur at h ⊢
  have : g < w.heap.size := by
    rcases Nat.lt_or_ge g w.heap.size with h' | h'
    · exact h'
    · simp [Array.getElem?_eq_none h'] at h
  exact (hb.block g this).trans h
/-- Only block g of what stood ahead may have turned. -/
def Only (g : Nat) (w w' : World) : Prop := w.grownBy w' (some g)

theorem only_drewN {a w : World} {row : Option Nat} (h : a.grownBy w row) (n : Nat) : a.grownBy (w.drewN n) row := ⟨h.os, h.tape, h.output, h.size, h.block⟩
theorem only_setCell {a w : World} {g : Nat} (h : a.grownBy w (some g)) {p : Addr} (hp : p.block = g ∨ a.heap.size ≤ p.block) (u : Value) : a.grownBy (w.setCell p u) (some g) :=
  ⟨h.os, h.tape, h.output, by simpa [World.setCell] using h.size, fun i hi hne => (Below.heap_setCell w p u i (by
    rintro rfl
    rcases hp with hp | hp
    · exact hne (by rw [hp])
    · omega)).trans (h.block i hi hne)⟩
theorem only_below {a w : World} (h : Below a.heap.size a w) (row : Option Nat) : a.grownBy w row := ⟨h.os, h.tape, h.output, h.size, fun i hi _ => h.block i hi⟩
theorem only_trans {a b c : World} {g : Nat} (h : a.grownBy b (some g)) (k : b.grownBy c (some g)) : a.grownBy c (some g) :=
  ⟨k.os.trans h.os, k.tape.trans h.tape, k.output.trans h.output, Nat.le_trans h.size k.size, fun i hi hne => (k.block i (Nat.lt_of_lt_of_le hi h.size) hne).trans (h.block i hi hne)⟩
theorem below_only {w a b : World} {g : Nat} (h : Below w.heap.size w a) (k : a.grownBy b (some g)) (hg : w.heap.size ≤ g) : Below w.heap.size w b :=
  ⟨k.os.trans h.os, k.tape.trans h.tape, k.output.trans h.output, Nat.le_trans h.size k.size, fun i hi => (k.block i (Nat.lt_of_lt_of_le hi h.size) (fun e => by injection e with e; omega)).trans (h.block i hi)⟩

set_option maxHeartbeats 4000000 in
set_option maxRecDepth 100000 in
theorem word_any (g : Nat) (rest x y : List UInt8) (z : Bool) (w : World) (hf : Fit w) (hc : Cur w g rest true) (hlen : rest.length < 4294967281) (hcc : Lib.cut rest [32] = (x, y, z)) :
    Calls Tryd.prog 28 #[.pointer (some ⟨g, 0, none⟩)] w fun e w' => e = .returned (.string ⟨x.toArray⟩) ∧ (Cur w' g y z ∧ Only g w w') := by
  have c0 : w.cell? ⟨g, 0, none⟩ = some (.string ⟨rest.toArray⟩) := by rw [Lib.cell_of_heap hc]; rfl
  have c1 : w.cell? ⟨g, 1, none⟩ = some (.bool true) := by rw [Lib.cell_of_heap hc]; rfl
  have f0 : w.frozen? ⟨g, 0, none⟩ = false := Lib.frozen_of_heap hc 0
  have f1 : w.frozen? ⟨g, 1, none⟩ = false := Lib.frozen_of_heap hc 1
  have HC := Lib.hid hcc
  clear hcc
  go_enter Tryd.func28, Tryd.ntmps28
  go_wp2_with fail
  refine (must_so _).mono ?_
  rintro e w' ⟨rfl, rfl⟩
  go_wp2_with fail
  refine (cut_any _ _ _ hf (by exact hlen)).mono ?_
  rintro e w1 ⟨rfl, n, rfl⟩
  simp only
  rw [HC.out]
  go_wp2
  go_ret
  refine ⟨rfl, ?_, ?_⟩
  · unfold Cur at hc ⊢
    simp [World.setCell, Array.getElem?_modify, hc]
  · unfold Only
    exact only_setCell (p := ⟨g, 1, none⟩) (only_setCell (p := ⟨g, 0, none⟩) (only_drewN (World.grownBy.refl w _) n) (.inl rfl) _) (.inl rfl) _
end Go.Proofs.YthecllooledpaaaDoor
