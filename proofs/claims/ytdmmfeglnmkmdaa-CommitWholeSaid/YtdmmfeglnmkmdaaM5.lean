/- manifest's cursor: take, number, text. -/
import Derived.Test.YtdmmfeglnmkmdaaM2
import Derived.Test.YtdmmfeglnmkmdaaD
namespace Go.Proofs.Ytdmmfeglnmkmdaa
open Go.RowKit Plain

/-- A cursor in block c. -/
def IsCur (w : World) (c : Nat) (x : Cur) : Prop := w.heap[c]? = some (.cells #[.string ⟨x.rest.toArray⟩, .bool x.bad] 117 (0, 0))
theorem IsCur.below {w w1 : World} {c : Nat} {x : Cur} (h : IsCur w c x) (hb : Below w.heap.size w w1) : IsCur w1 c x := (hb.block c (Array.getElem?_eq_some_iff.1 h).1).trans h
theorem IsCur.lt {w : World} {c : Nat} {x : Cur} (h : IsCur w c x) : c < w.heap.size := (Array.getElem?_eq_some_iff.1 h).1
theorem IsCur.set0 {w : World} {c : Nat} {x : Cur} (h : IsCur w c x) (r : List UInt8) : IsCur (w.setCell ⟨c, 0, none⟩ (.string ⟨r.toArray⟩)) c ⟨r, x.bad⟩ := by
  unfold IsCur at *
  simp [World.setCell, Array.getElem?_modify, h]
theorem IsCur.set1 {w : World} {c : Nat} {x : Cur} (h : IsCur w c x) (b : Bool) : IsCur (w.setCell ⟨c, 1, none⟩ (.bool b)) c ⟨x.rest, b⟩ := by
  unfold IsCur at *
  simp [World.setCell, Array.getElem?_modify, h]
theorem ext_take (r : List UInt8) (n : Nat) : (⟨r.toArray⟩ : ByteArray).extract 0 n = ⟨(r.take n).toArray⟩ := by
  apply bytes_ext
  rw [extract_list]
  rfl
theorem ext_drop (r : List UInt8) (n : Nat) : (⟨r.toArray⟩ : ByteArray).extract n r.length = ⟨(r.drop n).toArray⟩ := by
  apply bytes_ext
  rw [extract_list]
  simp
def takeV (x : Cur) (n : Nat) : Value := .tuple #[.string ⟨(takeC x n).1.toArray⟩, .bool (takeC x n).2.1]
set_option maxHeartbeats 800000 in
theorem take_any (c : Nat) (x : Cur) (n : Nat) (w : World) (h : IsCur w c x) (hx : x.rest.length ≤ 1073741824) :
    Calls Try.prog 96 #[.pointer (some ⟨c, 0, none⟩), .int .i64 n] w fun e w' => e = .returned (takeV x n) ∧ IsCur w' c (takeC x n).2.2 ∧ Turn c c w w' := by
  have c0 : w.cell? ⟨c, 0, none⟩ = some (.string ⟨x.rest.toArray⟩) := Lib.cell_of_heap h 0
  have z0 : w.frozen? ⟨c, 0, none⟩ = false := Lib.frozen_of_heap h 0
  have hs : (⟨x.rest.toArray⟩ : ByteArray).size = x.rest.length := List.size_toArray
  by_cases hn : x.rest.length < n
  · have hv : Hid (takeC x n = ([], false, x)) := by unfold Hid takeC; rw [if_pos hn]
    rw [← hs] at hn
    have HV : Hid (takeV x n = .tuple #[.string ⟨#[]⟩, .bool false]) := by unfold Hid takeV; rw [hv.out]
    generalize (⟨x.rest.toArray⟩ : ByteArray) = s at *
    clear hs
    go_enter Try.func96, Try.ntmps96
    go_wp2
    go_ret2
    exact ⟨by rw [HV.out]; rfl, by rw [hv.out]; exact h, Turn.refl _ _ _⟩
  · have hv : Hid (takeC x n = (x.rest.take n, true, ⟨x.rest.drop n, x.bad⟩)) := by unfold Hid takeC; rw [if_neg hn]
    have HV : Hid (takeV x n = .tuple #[.string ⟨(x.rest.take n).toArray⟩, .bool true]) := by unfold Hid takeV; rw [hv.out]
    have hn2 : n ≤ x.rest.length := by omega
    go_enter Try.func96, Try.ntmps96
    go_wp2
    go_ret2
    refine ⟨by rw [HV.out, ← ext_take]; rfl, ?_, (Turn.refl c c w).setD 0 _⟩
    rw [hv.out, ext_drop]
    exact h.set0 _
theorem takeC_le (x : Cur) (n : Nat) : (takeC x n).2.2.rest.length ≤ x.rest.length ∧ (takeC x n).1.length ≤ x.rest.length ∧ (takeC x n).2.2.bad = x.bad := by
  unfold takeC
  split
  · simp
  · simp
    omega
theorem getN_lt (s : List UInt8) (k : Nat) : (getN s k).1 < 9223372036854775808 := by
  unfold getN
  split
  · decide
  · split
    · assumption
    · decide
set_option maxHeartbeats 800000 in
theorem number_any (c : Nat) (x : Cur) (k : Nat) (w : World) (h : IsCur w c x) (hx : x.rest.length ≤ 1073741824) (hk1 : 1 ≤ k) (hk8 : k ≤ 8) :
    Calls Try.prog 75 #[.pointer (some ⟨c, 0, none⟩), .int .i64 k] w fun e w' => e = .returned (.int .i64 (numV x k)) ∧ IsCur w' c (numS x k) ∧ Turn c c w w' := by
  have hle := takeC_le x k
  have hv : Hid (numV x k = (getN (takeC x k).1 k).1) := rfl
  have hsS : Hid (numS x k = ⟨(takeC x k).2.2.rest, x.bad || (!(takeC x k).2.1 || !(getN (takeC x k).1 k).2)⟩) := rfl
  go_enter Try.func75, Try.ntmps75
  go_wp2_with fail
  refine (take_any c x k _ h hx).mono ?_
  unfold takeV
  generalize takeC x k = t at *
  obtain ⟨s, ok, x1⟩ := t
  simp only at *
  rintro e w1 ⟨rfl, h1, T1⟩
  go_wp2_with fail
  refine (oget_any ⟨s.toArray⟩ k _ hk1 hk8 (by show s.toArray.size ≤ _; rw [List.size_toArray]; omega)).mono ?_
  unfold ogetV
  show ∀ (e : Ending) (w' : World), _ = Ending.returned (.tuple #[.int .i64 ((getN s k).1 : Int), .bool (getN s k).2]) ∧ _ → _
  generalize getN s k = g at *
  obtain ⟨n, is⟩ := g
  simp only at *
  rintro e w2 ⟨rfl, hb2⟩
  have h2 := h1.below hb2
  have T2 := T1.trans (Turn.of_below hb2)
  have c1 : w2.cell? ⟨c, 1, none⟩ = some (.bool x1.bad) := Lib.cell_of_heap h2 1
  have z1 : w2.frozen? ⟨c, 1, none⟩ = false := Lib.frozen_of_heap h2 1
  have hbad := hle.2.2
  rw [hbad] at c1
  have hfin : ∀ b, b = (x.bad || (!ok || !is)) → IsCur (w2.setCell ⟨c, 1, none⟩ (.bool b)) c (numS x k) := by
    intro b hb
    rw [hsS.out, ← hb]
    exact h2.set1 b
  have HF := Lib.hid hfin
  clear hfin h1 hbad hle
  generalize x.bad = bad at *
  cases bad <;> cases ok <;> cases is
  all_goals
    go_wp2_with fail
    go_ret
    exact ⟨by rw [hv.out]; rfl, HF.out _ rfl, T2.setD 1 _⟩
set_option maxHeartbeats 800000 in
theorem text_any (c : Nat) (x : Cur) (n : Nat) (w : World) (h : IsCur w c x) (hx : x.rest.length ≤ 1073741824) :
    Calls Try.prog 98 #[.pointer (some ⟨c, 0, none⟩), .int .i64 n] w fun e w' => e = .returned (.string ⟨(takeC x n).1.toArray⟩) ∧ IsCur w' c (textS x n) ∧ Turn c c w w' := by
  have hle := takeC_le x n
  have hsS : Hid (textS x n = ⟨(takeC x n).2.2.rest, x.bad || !(takeC x n).2.1⟩) := rfl
  go_enter Try.func98, Try.ntmps98
  go_wp2_with fail
  refine (take_any c x n _ h hx).mono ?_
  unfold takeV
  generalize ht : takeC x n = t at *
  have HT := Lib.hid ht
  clear ht
  obtain ⟨s, ok, x1⟩ := t
  simp only at *
  rintro e w1 ⟨rfl, h1, T1⟩
  have c1 : w1.cell? ⟨c, 1, none⟩ = some (.bool x1.bad) := Lib.cell_of_heap h1 1
  have z1 : w1.frozen? ⟨c, 1, none⟩ = false := Lib.frozen_of_heap h1 1
  have hbad := hle.2.2
  rw [hbad] at c1
  have hfin : ∀ b, b = (x.bad || !ok) → IsCur (w1.setCell ⟨c, 1, none⟩ (.bool b)) c (textS x n) := by
    intro b hb
    rw [hsS.out, ← hb]
    exact h1.set1 b
  have HF := Lib.hid hfin
  clear hfin hbad hle
  generalize x.bad = bad at *
  cases bad <;> cases ok
  all_goals
    go_wp2_with fail
    go_ret
    exact ⟨by rw [HT.out]; rfl, HF.out _ rfl, T1.setD 1 _⟩
end Go.Proofs.Ytdmmfeglnmkmdaa
