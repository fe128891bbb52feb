/- script.Line, the kinds clear, arm, put and turn. -/
import Derived.Test.YthecllooledpaaaDoorN
import Derived.Lib.ItoaLen
namespace Go.Proofs.YthecllooledpaaaDoor
open Go.RowKit

set_option maxHeartbeats 2000000 in
set_option maxRecDepth 100000 in
theorem line_5 (nm s : ByteArray) (n b : Int) (u : Value) (ks : List Int) (w : World) (hu : Ints w u ks) (hnm : nm.size ≤ 9223372036854775807) (hr : rightV 5 nm s n b ks = true) :
    Calls Tryd.prog 12 #[.agg #[.int .i64 5, .string nm, .string s, .int .i64 n, .int .u32 b, u]] w fun e w' => e = .returned (.tuple #[.string ⟨(lineL 5 nm.data.toList s.data.toList n b ks).toArray⟩, .bool true]) ∧ Below w.heap.size w w' := by
  obtain ⟨A, c, rfl, hl, hm, hc⟩ := id hu
  have hbox := hu.below ((Below.refl _ w).alloc (Nat.le_refl _) (boxA 5 nm s n b (.slice A ks.length c)))
  unfold boxA at hbox
  have HR := Lib.hid hr
  clear hc hm hl hu hr
  go_enter Tryd.func12, Tryd.ntmps12
  go_wp2_with fail
  refine (right_v _ _ _ _ _ _ _ _ hbox hnm).mono ?_
  rintro e w1 ⟨rfl, hb1⟩
  rw [HR.out]
  have e0 := (bcell hb1).1 w.heap.size 0 (by simp)
  simp at e0
  have hbw : Below w.heap.size w w1 := below_then ((Below.refl _ w).alloc (Nat.le_refl _) _) (by simp) hb1
  go_wp2_with fail
  refine (join_any w1.heap.size 1 [⟨#[99, 108, 101, 97, 114]⟩] ⟨#[32]⟩ _ (heap_alloc_new w1 _) (by simp) (by simp) (by simp [Lib.join, List.intercalate])).mono ?_
  rintro e w2 ⟨rfl, hb2⟩
  go_wp2
  go_ret2
  exact ⟨rfl, below_then (hbw.alloc hbw.size _) (by have := hbw.size; simp; omega) hb2⟩

set_option maxHeartbeats 2000000 in
set_option maxRecDepth 100000 in
theorem line_2 (nm s : ByteArray) (n b : Int) (u : Value) (ks : List Int) (w : World) (hf : Fit w) (hu : Ints w u ks) (hnm : nm.size ≤ 9223372036854775807) (h0 : -9223372036854775808 ≤ n) (h1 : n ≤ 9223372036854775807) (hr : rightV 2 nm s n b ks = true) :
    Calls Tryd.prog 12 #[.agg #[.int .i64 2, .string nm, .string s, .int .i64 n, .int .u32 b, u]] w fun e w' => e = .returned (.tuple #[.string ⟨(lineL 2 nm.data.toList s.data.toList n b ks).toArray⟩, .bool true]) ∧ Below w.heap.size w w' := by
  obtain ⟨A, c, rfl, hl, hm, hc⟩ := id hu
  have hbox := hu.below ((Below.refl _ w).alloc (Nat.le_refl _) (boxA 2 nm s n b (.slice A ks.length c)))
  unfold boxA at hbox
  have HR := Lib.hid hr
  clear hc hm hl hu hr
  go_enter Tryd.func12, Tryd.ntmps12
  go_wp2_with fail
  refine (right_v _ _ _ _ _ _ _ _ hbox hnm).mono ?_
  rintro e w1 ⟨rfl, hb1⟩
  rw [HR.out]
  have e0 := (bcell hb1).1 w.heap.size 0 (by simp)
  have e3 := (bcell hb1).1 w.heap.size 3 (by simp)
  simp at e0 e3
  have hbw : Below w.heap.size w w1 := below_then ((Below.refl _ w).alloc (Nat.le_refl _) _) (by simp) hb1
  go_wp2_with fail
  refine (itoa_any n h0 h1 _ (hf.below hbw)).mono ?_
  rintro e w2 ⟨rfl, hb2⟩
  have hbw2 := below_then hbw hbw.size hb2
  have hlen := Lib.hid (Lib.itoa_length_le n h0 h1)
  go_wp2_with fail
  refine (join_any w2.heap.size 2 [⟨#[97, 114, 109]⟩, ⟨(Lib.itoa n).toArray⟩] ⟨#[32]⟩ _ (heap_alloc_new w2 _) (by simp) (by simp) (by have := hlen.out; simp [Lib.join, List.intercalate]; omega)).mono ?_
  rintro e w3 ⟨rfl, hb3⟩
  go_wp2
  go_ret2
  exact ⟨rfl, below_then (hbw2.alloc hbw2.size _) (by have := hbw2.size; simp; omega) hb3⟩

set_option maxHeartbeats 2000000 in
set_option maxRecDepth 100000 in
theorem line_0 (nm s : ByteArray) (n b : Int) (u : Value) (ks : List Int) (w : World) (hu : Ints w u ks) (hnm : nm.size ≤ 40) (hs : s.size ≤ 400) (hr : rightV 0 nm s n b ks = true) :
    Calls Tryd.prog 12 #[.agg #[.int .i64 0, .string nm, .string s, .int .i64 n, .int .u32 b, u]] w fun e w' => e = .returned (.tuple #[.string ⟨(lineL 0 nm.data.toList s.data.toList n b ks).toArray⟩, .bool true]) ∧ Below w.heap.size w w' := by
  obtain ⟨A, c, rfl, hl, hm, hc⟩ := id hu
  have hbox := hu.below ((Below.refl _ w).alloc (Nat.le_refl _) (boxA 0 nm s n b (.slice A ks.length c)))
  unfold boxA at hbox
  have HR := Lib.hid hr
  clear hc hm hl hu hr
  go_enter Tryd.func12, Tryd.ntmps12
  go_wp2_with fail
  refine (right_v _ _ _ _ _ _ _ _ hbox (by omega)).mono ?_
  rintro e w1 ⟨rfl, hb1⟩
  rw [HR.out]
  have e0 := (bcell hb1).1 w.heap.size 0 (by simp)
  have e1 := (bcell hb1).1 w.heap.size 1 (by simp)
  have e2 := (bcell hb1).1 w.heap.size 2 (by simp)
  simp at e0 e1 e2
  have hbw : Below w.heap.size w w1 := below_then ((Below.refl _ w).alloc (Nat.le_refl _) _) (by simp) hb1
  have hz1 : w.heap.size < w1.heap.size := by have := hb1.size; simp at this; omega
  go_wp2_with fail
  go_region_held3 (fun w' => (w'.cell? ⟨w.heap.size, 1, none⟩ = some (.string nm) ∧ w'.cell? ⟨w.heap.size, 2, none⟩ = some (.string s)))
    (first | go_keep | exact ⟨(hb2.cell (by simp; omega)).trans (by simpa using e1), (hb2.cell (by simp; omega)).trans (by simpa using e2)⟩)
    (first | (go_at_call 22; refine (hex_any s _ (by omega)).mono ?_; rintro e w2 ⟨rfl, hb2⟩) | (go_at_call 21; refine (or_any _ _).mono ?_; rintro e w' ⟨rfl, rfl⟩))
  rw [orB_toList]
  have hbw2 : Below w.heap.size w w2 := below_then hbw.drew hbw.size hb2
  have hlen : Hid ((orL (hexL s.data.toList)).length ≤ 801) := by
    unfold Hid orL
    have hl : s.data.toList.length = s.size := by rw [Array.length_toList]; rfl
    split
    · simp
    · rw [hexL_length, hl]; omega
  have hnl : Hid (nm.data.toList.length = nm.size) := by unfold Hid; rw [Array.length_toList]; rfl
  go_wp2_with fail
  refine (join_any w2.heap.size 3 [⟨#[112, 117, 116]⟩, nm, ⟨(orL (hexL s.data.toList)).toArray⟩] ⟨#[32]⟩ _ (heap_alloc_new w2 _) (by simp) (by simp) (by have := hlen.out; have := hnl.out; rw [Array.length_toList] at this; simp [Lib.join, List.intercalate]; omega)).mono ?_
  rintro e w3 ⟨rfl, hb3⟩
  go_wp2
  go_ret2
  exact ⟨rfl, below_then (hbw2.alloc hbw2.size _) (by have := hbw2.size; simp; omega) hb3⟩

theorem keepCell {W W' : World} {a : Addr} {v : Value} (h : W.cell? a = some v) (hb : Below W.heap.size W W') : W'.cell? a = some v := (hb.cell (World.block_lt_of_cell? W a h)).trans h
theorem keepBelow {W W' w : World} (h : Below w.heap.size w W) (hb : Below W.heap.size W W') : Below w.heap.size w W' := below_then h h.size hb

set_option maxHeartbeats 4000000 in
set_option maxRecDepth 100000 in
theorem line_4 (nm s : ByteArray) (n b : Int) (u : Value) (ks : List Int) (w : World) (hf : Fit w) (hu : Ints w u ks) (hnm : nm.size ≤ 40) (h0 : -9223372036854775808 ≤ n) (h1 : n ≤ 9223372036854775807) (g0 : 0 ≤ b) (g1 : b < 4294967296) (hr : rightV 4 nm s n b ks = true) :
    Calls Tryd.prog 12 #[.agg #[.int .i64 4, .string nm, .string s, .int .i64 n, .int .u32 b, u]] w fun e w' => e = .returned (.tuple #[.string ⟨(lineL 4 nm.data.toList s.data.toList n b ks).toArray⟩, .bool true]) ∧ Below w.heap.size w w' := by
  obtain ⟨A, c, rfl, hl, hm, hc⟩ := id hu
  have hbox := hu.below ((Below.refl _ w).alloc (Nat.le_refl _) (boxA 4 nm s n b (.slice A ks.length c)))
  unfold boxA at hbox
  have HR := Lib.hid hr
  clear hc hm hl hu hr
  go_enter Tryd.func12, Tryd.ntmps12
  go_wp2_with fail
  refine (right_v _ _ _ _ _ _ _ _ hbox (by omega)).mono ?_
  rintro e w1 ⟨rfl, hb1⟩
  rw [HR.out]
  have e0 := (bcell hb1).1 w.heap.size 0 (by simp)
  have e1 := (bcell hb1).1 w.heap.size 1 (by simp)
  have e3 := (bcell hb1).1 w.heap.size 3 (by simp)
  have e4 := (bcell hb1).1 w.heap.size 4 (by simp)
  simp at e0 e1 e3 e4
  have hbw : Below w.heap.size w w1 := below_then ((Below.refl _ w).alloc (Nat.le_refl _) _) (by simp) hb1
  have hz1 : w.heap.size < w1.heap.size := by have := hb1.size; simp at this; omega
  have hwb : IntKind.i64.wrap b = b := IntWalk.i64_in _ (by omega)
  have hbd := hbw.drew
  go_wp2_with fail
  go_region_held3 (fun w' => (w'.cell? ⟨w.heap.size, 1, none⟩ = some (.string nm) ∧ w'.cell? ⟨w.heap.size, 3, none⟩ = some (.int .i64 n) ∧ w'.cell? ⟨w.heap.size, 4, none⟩ = some (.int .u32 b)))
    (first | go_keep | (go_split_ands; refine ⟨keepCell ?_ hb2, keepCell ?_ hb2, keepCell ?_ hb2⟩ <;> assumption))
    (first | (go_at_call 23; refine (itoa_any _ (by omega) (by omega) _ (by first | exact hf.below hbd | exact hf.below (keepBelow hbd hb2))).mono ?_; rintro e w2 ⟨rfl, hb2⟩))
  have hbw2 : Below w.heap.size w w2 := keepBelow (keepBelow hbd (by assumption)) hb2
  have hi := Lib.hid (Lib.itoa_length_le n h0 h1)
  have hj := Lib.hid (Lib.itoa_length_le b (by omega) (by omega))
  have hnl : Hid (nm.data.toList.length = nm.size) := by unfold Hid; rw [Array.length_toList]; rfl
  clear hwb
  go_wp2_with fail
  refine (join_any w2.heap.size 4 [⟨#[116, 117, 114, 110]⟩, nm, ⟨(Lib.itoa n).toArray⟩, ⟨(Lib.itoa b).toArray⟩] ⟨#[32]⟩ _ (heap_alloc_new w2 _) (by simp) (by simp) (by have := hi.out; have := hj.out; have := hnl.out; rw [Array.length_toList] at this; simp [Lib.join, List.intercalate]; omega)).mono ?_
  rintro e w3 ⟨rfl, hb3⟩
  go_wp2
  go_ret2
  exact ⟨rfl, below_then (hbw2.alloc hbw2.size _) (by have := hbw2.size; simp; omega) hb3⟩
end Go.Proofs.YthecllooledpaaaDoor
