/- Words for memory that the texts behind this one share; fs.letter and fs.Right. -/
import Derived.Test.YtdmmfeglnmkmdaaChecked
import Derived.WalkKit
import Derived.WalkSpells
import Derived.WalkLawsBesides
import Derived.Handy
import Derived.Lib.Hide
import Derived.Deep.LoopGhost
import Derived.Deep.QuietTactic
import Derived.BigQuiet
import Derived.Deep.DeepFit
import Derived.Deep.DeepCutAuto
import Derived.Deep.RegionWith
import Derived.Deep.RegionHeld3
import Derived.StillTailTactics
import Derived.Lib.ConvBytes
import Derived.Laws.OwnMore
namespace Go.Proofs.Ytdmmfeglnmkmdaa
open Go.RowKit

theorem below_drewN {B : Nat} {a w : World} (h : Below B a w) (n : Nat) : Below B a (w.drewN n) := ⟨h.os, h.tape, h.output, h.size, h.block⟩
theorem below_then {B : Nat} {w w1 w2 : World} (h : Below B w w1) (hB : B ≤ w1.heap.size) (k : Below w1.heap.size w1 w2) : Below B w w2 :=
  h.trans (k.mono hB)

theorem keepCell {W W' : World} {a : Addr} {v : Value} (h : W.cell? a = some v) (hb : Below W.heap.size W W') : W'.cell? a = some v := (hb.cell (World.block_lt_of_cell? W a h)).trans h
theorem keepBelow {W W' w : World} (h : Below w.heap.size w W) (hb : Below W.heap.size W W') : Below w.heap.size w W' := below_then h h.size hb
theorem own_below {w w1 : World} {base : Nat} {e : TypeId} {size n : Nat} {v : Value} {xs : List Value} (h : w.ownsRow base e size v n xs) (hb : Below w.heap.size w w1) : w1.ownsRow base e size v n xs :=
  h.kept (row := none) ⟨hb.os, hb.tape, hb.output, hb.size, fun i hi _ => hb.block i hi⟩ (by cases v.ownBlock <;> simp)
theorem add_plain (g j : Nat) : (⟨g, 0, none⟩ : Addr).add j = ⟨g, j, none⟩ := by unfold Addr.add; split <;> simp_all
theorem bytes_ext {a b : ByteArray} (h : a.data.toList = b.data.toList) : a = b := by
  apply ByteArray.ext
  exact Array.toList_inj.1 h
theorem heap_lt {w : World} {i : Nat} {o : Obj} (h : w.heap[i]? = some o) : i < w.heap.size := (Array.getElem?_eq_some_iff.1 h).1
theorem ba_length (s : ByteArray) : s.data.toList.length = s.size := by rw [Array.length_toList]; rfl
theorem ba_mk (s : ByteArray) : (⟨s.data.toList.toArray⟩ : ByteArray) = s := bytes_ext (by simp)

theorem ret_bool {a b : Bool} (h : a = b) : Ending.returned (.bool a) = .returned (.bool b) := by rw [h]
theorem ret_int {k : IntKind} {a b : Int} (h : a = b) : Ending.returned (.int k a) = .returned (.int k b) := by rw [h]
theorem ret_string {a b : ByteArray} (h : a = b) : Ending.returned (.string a) = .returned (.string b) := by rw [h]

/-- A slice of whole numbers. -/
def Ints (w : World) (v : Value) (ks : List Int) : Prop :=
  ∃ A c, v = .slice A ks.length c ∧ ks.length ≤ c ∧ c ≤ maxLen ∧ ∀ j, j < ks.length → ∃ ad, A = some ad ∧ w.cell? (ad.add j) = some (.int .i64 (ks.getD j 0))

theorem Ints.below {w w1 : World} {v : Value} {ks : List Int} (h : Ints w v ks) (hb : Below w.heap.size w w1) : Ints w1 v ks := by
  obtain ⟨A, c, rfl, h1, h2, h3⟩ := h
  refine ⟨A, c, rfl, h1, h2, fun j hj => ?_⟩
  obtain ⟨ad, e, hc⟩ := h3 j hj
  exact ⟨ad, e, (hb.cell (World.block_lt_of_cell? w _ hc)).trans hc⟩
def letterB (c : Int) : Bool := (decide (97 ≤ c) && decide (c ≤ 122)) || (decide (48 ≤ c) && decide (c ≤ 57)) || (c == 46)
set_option maxHeartbeats 400000 in
theorem letter_any (c : Int) (w : World) : Calls Try.prog 91 #[.int .u8 c] w fun e w' => e = .returned (.bool (letterB c)) ∧ w = w' := by
  go_enter Try.func91, Try.ntmps91
  go_wp2
  all_goals
    go_ret
    exact ⟨ret_bool (by simp only [letterB]; rw [Bool.eq_iff_iff]; simp; omega), rfl⟩

def lettersB (s : List UInt8) : Bool := s.all fun c => letterB (c.toNat : Int)
def nameB (s : List UInt8) : Bool := lettersB s && (!s.isEmpty && decide (s.length ≤ 24))
theorem lettersB_take (s : List UInt8) (k : Nat) (hk : k < s.length) : lettersB (s.take (k + 1)) = (lettersB (s.take k) && letterB ((s.getD k 0).toNat : Int)) := by
  unfold lettersB
  rw [List.take_succ_eq_append_getElem hk, List.all_append]
  simp [List.getD, List.getElem?_eq_getElem hk]
theorem lettersB_not (s : List UInt8) (k : Nat) (hk : k < s.length) (h : letterB ((s.getD k 0).toNat : Int) = false) : nameB s = false := by
  unfold nameB lettersB
  rw [Bool.and_eq_false_iff]
  left
  rw [List.all_eq_false]
  refine ⟨s[k], List.getElem_mem hk, ?_⟩
  have e : s.getD k 0 = s[k] := by simp [List.getD, List.getElem?_eq_getElem hk]
  rw [e] at h
  simp [h]
theorem bytes_below (w : World) (e : TypeId) (s : ByteArray) : Below w.heap.size w (Lib.bytesWorld w e s) :=
  ⟨rfl, rfl, rfl, by rw [Lib.bytesWorld_size]; omega, fun i hi => Lib.bytesWorld_at_old w e s i hi⟩

set_option maxHeartbeats 400000 in
theorem right_any (s : ByteArray) (w : World) (hs : s.size ≤ 9223372036854775807) : Calls Try.prog 69 #[.string s] w fun e w' => e = .returned (.bool (nameB s.data.toList)) ∧ Below w.heap.size w w' := by
  have kb := fun W => Lib.run_convert_string_bytes (P := Try.prog) W 9 97 5 s Try.underlying9 Try.underlying97 Try.underlying5
  have hl : s.data.toList.length = s.size := by rw [Array.length_toList]; rfl
  have hL := Lib.hid hl
  have hc := Lib.bytesWorld_cell w 5 s
  have hb := bytes_below w 5 s
  go_enter Try.func69, Try.ntmps69
  go_wp2
  generalize Lib.bytesWorld w 5 s = W at *
  clear kb hl
  go_loop [8] (fun i => ∃ k : Nat, k ≤ s.size ∧ i = .int .i64 k ∧ Hid (lettersB (s.data.toList.take k) = true)) (fun i => s.size - (intOf i).toNat)
  case atStart => exact ⟨0, Nat.zero_le _, rfl, rfl⟩
  case round =>
    obtain ⟨k, hk, rfl, hm⟩ := hrel
    by_cases hlt : k < s.size
    · have hcell := hc k hlt
      have hS := Lib.hid (lettersB_take s.data.toList k (by rw [hL.out]; exact hlt))
      have hN := Lib.hid (lettersB_not s.data.toList k (by rw [hL.out]; exact hlt))
      generalize s.data.toList.getD k 0 = x at *
      clear hc
      cases hx : letterB (x.toNat : Int)
      · have HX := Lib.hid hx
        clear hx
        go_wp2_with (go_at_call 91; refine (letter_any _ _).mono ?_; rintro e w' ⟨rfl, rfl⟩; rw [HX.out])
        go_ret
        exact ⟨ret_bool (by rw [hN.out HX.out]), hb⟩
      · have HX := Lib.hid hx
        clear hx
        go_wp2_with (go_at_call 91; refine (letter_any _ _).mono ?_; rintro e w' ⟨rfl, rfl⟩; rw [HX.out])
        go_round
        case rel => exact ⟨k + 1, by omega, by go_num, by unfold Hid; rw [hS.out, hm.out, HX.out]; rfl⟩
        case measure => simp [intOf]; omega
    · have : k = s.size := by omega
      subst this
      go_wp2
      all_goals go_ret
      all_goals
        refine ⟨ret_bool ?_, hb⟩
        have H1 := hm.out
        have H2 := hL.out
        rw [show s.size = s.data.toList.length from H2.symm, List.take_length] at H1
        unfold nameB
        rw [H1]
      · have h := ‹s.toList = []›
        rw [ByteArray.toList_eq] at h
        rw [h]
        rfl
      · rw [ByteArray.toList_eq, H2]
        rw [show decide ((s.size : Int) ≤ 24) = decide (s.size ≤ 24) from by congr 1; simp; omega]
        rfl
end Go.Proofs.Ytdmmfeglnmkmdaa
