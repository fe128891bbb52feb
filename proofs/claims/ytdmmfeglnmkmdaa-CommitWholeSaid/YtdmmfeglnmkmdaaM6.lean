/- manifest's cursor: file. -/
import Derived.Test.YtdmmfeglnmkmdaaM5
namespace Go.Proofs.Ytdmmfeglnmkmdaa
open Go.RowKit Plain

theorem results_cell1 {P : Program} {fn : Func} {p : Tmp} {ty : TypeId} (h : fn.results = #[.cell p ty]) (tmps : Array Value) (w : World) (g : Nat) (t : TypeId) (cs : Array Value) (fr : Nat × Nat) (d : TypeDesc)
    (hp : tmps.getD p undef = .pointer (some ⟨g, 0, none⟩)) (hg : w.heap[g]? = some (.cells cs t fr))
    (hu : P.underlying ty = some d) (hd : (match d with | .struct _ | .array _ _ => true | _ => false) = true) (hi : (P.info? ty).map (·.size) = some cs.size) :
    (results fn tmps).run P w = .ok (.agg cs) w := by
  have hp' : tmps[p]?.getD undef = .pointer (some ⟨g, 0, none⟩) := by simpa using hp
  simp [results, h, hp', asAddr, run_loadVar_row w g t ty cs fr d hg hu hd hi]
theorem IsCur.setNew {w : World} {c : Nat} {x : Cur} (h : IsCur w c x) (b : Nat) (hb : b ≠ c) (o : Nat) (u : Value) : IsCur (w.setCell ⟨b, o, none⟩ u) c x :=
  (Below.heap_setCell w ⟨b, o, none⟩ u c (by simpa using hb.symm)).trans h
theorem numS_le (x : Cur) (k : Nat) : (numS x k).rest.length ≤ x.rest.length := (takeC_le x k).1
theorem textS_le (x : Cur) (k : Nat) : (textS x k).rest.length ≤ x.rest.length := (takeC_le x k).1
theorem numV4_lt (x : Cur) : numV x 4 < 4294967296 := by
  unfold numV getN
  split
  · decide
  · split
    · have h := beV_lt ((takeC x 4).1.take 4)
      have h2 : 256 ^ ((takeC x 4).1.take 4).length ≤ 256 ^ 4 := Nat.pow_le_pow_right (by decide) (by rw [List.length_take]; omega)
      exact Nat.lt_of_lt_of_le h h2
    · decide
set_option maxHeartbeats 1600000 in
theorem file_any (c : Nat) (x : Cur) (w : World) (h : IsCur w c x) (hx : x.rest.length ≤ 1073741824) :
    Calls Try.prog 76 #[.pointer (some ⟨c, 0, none⟩)] w fun e w' => e = .returned (flV (fileV x)) ∧ IsCur w' c (fileS x) ∧ Turn c c w w' := by
  have hV : Hid (flV (fileV x) = .agg #[.string ⟨(takeC (numS x 1) (numV x 1)).1.toArray⟩, .int .i64 (numV (textS (numS x 1) (numV x 1)) 1), .int .i64 (numV (numS (textS (numS x 1) (numV x 1)) 1) 8), .int .u32 (numV (numS (numS (textS (numS x 1) (numV x 1)) 1) 8) 4)]) := rfl
  have hS : Hid (fileS x = numS (numS (numS (textS (numS x 1) (numV x 1)) 1) 8) 4) := rfl
  have l1 := numS_le x 1
  have l2 := textS_le (numS x 1) (numV x 1)
  have l3 := numS_le (textS (numS x 1) (numV x 1)) 1
  have l4 := numS_le (numS (textS (numS x 1) (numV x 1)) 1) 8
  have h4 := numV4_lt (numS (numS (textS (numS x 1) (numV x 1)) 1) 8)
  have hlt := h.lt
  have h0 : IsCur (w.alloc (.cells #[.string ⟨#[]⟩, .int .i64 0, .int .i64 0, .int .u32 0] 78)) c x := h.below ((Below.refl _ w).alloc (Nat.le_refl _) _)
  have T0 := (Turn.refl c c w).alloc (.cells #[.string ⟨#[]⟩, .int .i64 0, .int .i64 0, .int .u32 0] 78)
  have hg := heap_alloc_new w (.cells #[.string ⟨#[]⟩, .int .i64 0, .int .i64 0, .int .u32 0] 78)
  have hz : w.heap.size < (w.alloc (.cells #[.string ⟨#[]⟩, .int .i64 0, .int .i64 0, .int .u32 0] 78)).heap.size := by simp
  go_enter Try.func76, Try.ntmps76
  go_wp2_with fail
  generalize w.alloc (.cells #[.string ⟨#[]⟩, .int .i64 0, .int .i64 0, .int .u32 0] 78) = w0 at *
  refine (number_any c x 1 _ h0 hx (by omega) (by omega)).mono ?_
  rintro e w1 ⟨rfl, h1, T1⟩
  have g1 := (T1.block w.heap.size hz (by omega) (by omega)).trans hg
  have T1 := T0.trans T1
  generalize numV x 1 = n1 at *
  generalize numS x 1 = x1 at *
  go_wp2_with fail
  refine (text_any c x1 n1 _ h1 (by omega)).mono ?_
  rintro e w2 ⟨rfl, h2, T2⟩
  have g2 := (T2.block w.heap.size (heap_lt g1) (by omega) (by omega)).trans g1
  have T2 := T1.trans T2
  generalize (takeC x1 n1).1 = nm at *
  generalize textS x1 n1 = x2 at *
  go_wp2_with fail
  refine (number_any c x2 1 _ h2 (by omega) (by omega) (by omega)).mono ?_
  rintro e w3 ⟨rfl, h3, T3⟩
  have g3 := (T3.block w.heap.size (heap_lt g2) (by omega) (by omega)).trans g2
  have T3 := T2.trans T3
  generalize numV x2 1 = n2 at *
  generalize numS x2 1 = x3 at *
  go_wp2_with fail
  refine (number_any c x3 8 _ h3 (by omega) (by omega) (by omega)).mono ?_
  rintro e w4 ⟨rfl, h4', T4⟩
  have g4 := (T4.block w.heap.size (heap_lt g3) (by omega) (by omega)).trans g3
  have T4 := T3.trans T4
  generalize numV x3 8 = n3 at *
  generalize numS x3 8 = x4 at *
  go_wp2_with fail
  refine (number_any c x4 4 _ h4' (by omega) (by omega) (by omega)).mono ?_
  rintro e w5 ⟨rfl, h5, T5⟩
  have g5 := (T5.block w.heap.size (heap_lt g4) (by omega) (by omega)).trans g4
  have T5 := T4.trans T5
  generalize numV x4 4 = n4 at *
  generalize numS x4 4 = x5 at *
  clear T0 T1 T2 T3 T4 h1 h2 h3 h4' g1 g2 g3 g4 hg h0 h
  have q0 : w5.cell? ⟨w.heap.size, 0, none⟩ = some (.string ⟨#[]⟩) := Lib.cell_of_heap g5 0
  have q1 : w5.cell? ⟨w.heap.size, 1, none⟩ = some (.int .i64 0) := Lib.cell_of_heap g5 1
  have q2 : w5.cell? ⟨w.heap.size, 2, none⟩ = some (.int .i64 0) := Lib.cell_of_heap g5 2
  have q3 : w5.cell? ⟨w.heap.size, 3, none⟩ = some (.int .u32 0) := Lib.cell_of_heap g5 3
  have z0 := Lib.frozen_of_heap g5 0
  have z1 := Lib.frozen_of_heap g5 1
  have z2 := Lib.frozen_of_heap g5 2
  have z3 := Lib.frozen_of_heap g5 3
  go_wp2_with fail
  refine bodyPost_ret (results_cell1 Try.results76 _ _ w.heap.size 78 #[.string ⟨nm.toArray⟩, .int .i64 n2, .int .i64 n3, .int .u32 n4] (0, 0) _ (by simp) (by simp [World.setCell, Array.getElem?_modify, g5]) Try.underlying78 rfl (by kernel_rfl)) rfl ⟨by rw [hV.out], ?_, ?_⟩
  · rw [hS.out]
    exact (((h5.setNew _ (by omega) _ _).setNew _ (by omega) _ _).setNew _ (by omega) _ _).setNew _ (by omega) _ _
  · exact (((T5.setNew _ (Nat.le_refl _) _ _).setNew _ (Nat.le_refl _) _ _).setNew _ (Nat.le_refl _) _ _).setNew _ (Nat.le_refl _) _ _
end Go.Proofs.Ytdmmfeglnmkmdaa
