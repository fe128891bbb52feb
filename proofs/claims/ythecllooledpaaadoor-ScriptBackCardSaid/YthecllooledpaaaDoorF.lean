/- The statement's own example: awake. -/
import Derived.Test.YthecllooledpaaaDoorD
namespace Go.Proofs.YthecllooledpaaaDoor
open Go.RowKit Plain

theorem parse_ex (w : World) (hf : Fit w) : Calls Tryd.prog 11 #[.string ⟨#[112, 117, 116, 32, 105, 110, 112, 117, 116, 32, 48, 97, 102, 102]⟩] w (ParsePost 0 ⟨#[105, 110, 112, 117, 116]⟩ ⟨#[10, 255]⟩ 0 0 [] w) :=
  parse_yes _ _ _ _ _ _ _ (fun w hf => act_0 [105, 110, 112, 117, 116] [10, 255] (by decide) (by decide) (by decide) (by decide) w hf (by decide +kernel)) w hf
theorem parse_b1 (w : World) (hf : Fit w) : Calls Tryd.prog 11 #[.string ⟨#[112, 117, 116, 32, 105, 110, 112, 117, 116, 32, 48, 97, 70, 48]⟩] w fun e w' => e = .returned (.tuple #[zeroV, .bool false]) ∧ Below w.heap.size w w' :=
  parse_no _ (fun w hf => act_bad1 w hf) w hf
theorem parse_b2 (w : World) (hf : Fit w) : Calls Tryd.prog 11 #[.string ⟨#[97, 114, 109, 32, 48, 55]⟩] w fun e w' => e = .returned (.tuple #[zeroV, .bool false]) ∧ Below w.heap.size w w' :=
  parse_no _ (fun w hf => act_bad2 w hf) w hf
def exA : Act := { kind := 3, name := ⟨#[]⟩, s := ⟨#[]⟩, n := 0, bits := 0, keep := [1, -2] }
theorem line_ex (u : Value) (w : World) (hf : Fit w) (hu : Ints w u [1, -2]) : Calls Tryd.prog 12 #[.agg #[.int .i64 3, .string ⟨#[]⟩, .string ⟨#[]⟩, .int .i64 0, .int .u32 0, u]] w fun e w' => e = .returned (.tuple #[.string ⟨#[114, 105, 115, 101, 32, 49, 44, 45, 50]⟩, .bool true]) ∧ Below w.heap.size w w' := by
  have H := line_yes exA u w hf hu ⟨by decide, by decide, by decide, by decide, by decide, by decide, by decide, by intro n hn; simp [exA] at hn; omega⟩ (by decide +kernel)
  have e : exA.line.toArray = #[114, 105, 115, 101, 32, 49, 44, 45, 50] := by decide +kernel
  rw [e] at H
  exact H

set_option maxHeartbeats 4000000 in
set_option maxRecDepth 100000 in
theorem awake_any (w : World) (hf : Fit w) : Calls Tryd.prog 5 #[] w fun e w' => e = .returned (.bool true) ∧ Below w.heap.size w w' := by
  go_enter Tryd.func5, Tryd.ntmps5
  go_wp2_with fail
  refine (parse_ex _ hf).mono ?_
  rintro e w1 ⟨u, rfl, hw, hb1⟩
  obtain ⟨A, c, rfl⟩ := own_slice3 hw
  clear hw
  have hx1 := hb1.alloc hb1.size (.cells #[.int .i64 0, .string ⟨#[105, 110, 112, 117, 116]⟩, .string ⟨#[10, 255]⟩, .int .i64 0, .int .u32 0, .slice A ([] : List Int).length c] 39)
  go_wp2_with fail
  refine (parse_b1 _ (hf.below hx1)).mono ?_
  rintro e w2 ⟨rfl, hb2⟩
  have s2 : w2.cell? ⟨w1.heap.size, 2, none⟩ = some (.string ⟨#[10, 255]⟩) := keepCell (by rw [Lib.cell_of_heap (heap_alloc_new w1 _)]; rfl) hb2
  have hx2 := keepBelow hx1 hb2
  have hx3 := hx2.alloc hx2.size zeroA
  unfold zeroV
  go_wp2_with fail
  refine (show Calls _ _ _ (w2.alloc zeroA) _ from parse_b2 _ (hf.below hx3)).mono ?_
  rintro e w3 ⟨rfl, hb3⟩
  have s3 := keepCell (keepCell s2 ((Below.refl _ w2).alloc (Nat.le_refl _) zeroA)) hb3
  have hx4 := keepBelow hx3 hb3
  have hx5 := (hx4.alloc hx4.size zeroA).alloc (by have := hx4.size; simp; omega) (.cells #[.int .i64 1, .int .i64 (-2)] 3)
  have hi : Ints ((w3.alloc zeroA).alloc (.cells #[.int .i64 1, .int .i64 (-2)] 3)) (.slice (some ⟨w3.heap.size + 1, 0, none⟩) 2 2) [1, -2] := by
    have H := heap_alloc_new (w3.alloc zeroA) (.cells #[.int .i64 1, .int .i64 (-2)] 3)
    rw [World.size_alloc] at H
    refine ⟨_, 2, rfl, by simp, by unfold maxLen; omega, fun j hj => ⟨_, rfl, ?_⟩⟩
    rw [add_plain, Lib.cell_of_heap H]
    simp at hj
    match j, hj with
    | 0, _ => rfl
    | 1, _ => rfl
  unfold zeroV
  clear hb1 hb2 hb3 hx1 hx2 hx3 hx4 s2
  go_wp2_with fail
  refine (show Calls _ _ _ ((w3.alloc zeroA).alloc (.cells #[.int .i64 1, .int .i64 (-2)] 3)) _ from line_ex _ _ (hf.below hx5) hi).mono ?_
  rintro e w4 ⟨rfl, hb4⟩
  have s4 := keepCell (keepCell (keepCell s3 ((Below.refl _ w3).alloc (Nat.le_refl _) zeroA)) ((Below.refl _ _).alloc (Nat.le_refl _) _)) hb4
  have hx6 := keepBelow hx5 hb4
  clear hb4 hx5 hi s3
  go_wp2
  go_ret
  exact ⟨rfl, hx6⟩
end Go.Proofs.YthecllooledpaaaDoor
