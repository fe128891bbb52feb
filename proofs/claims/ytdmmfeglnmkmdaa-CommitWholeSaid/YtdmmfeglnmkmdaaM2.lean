/- manifest.may and manifest.Right. -/
import Derived.Test.YtdmmfeglnmkmdaaM1
namespace Go.Proofs.Ytdmmfeglnmkmdaa
open Go.RowKit Plain

set_option maxHeartbeats 1600000 in
theorem may_any (f : Fl) (w : World) (hs : f.name.size ≤ 9223372036854775807) :
    Calls Try.prog 86 #[.agg #[.string f.name, .int .i64 f.size, .int .i64 f.count, .int .u32 f.sum]] w fun e w' => e = .returned (.bool (mayB f)) ∧ Below w.heap.size w w' := by
  go_enter Try.func86, Try.ntmps86
  go_wp2_with fail
  refine (right_any f.name _ hs).mono ?_
  rintro e w1 ⟨rfl, hb⟩
  have hb1 := keepBelow ((Below.refl _ w).alloc (Nat.le_refl _) _) hb
  have hat := (hb.block w.heap.size (by simp)).trans (heap_alloc_new w _)
  have c1 : w1.cell? ⟨w.heap.size, 1, none⟩ = some (.int .i64 f.size) := Lib.cell_of_heap hat 1
  have c2 : w1.cell? ⟨w.heap.size, 2, none⟩ = some (.int .i64 f.count) := Lib.cell_of_heap hat 2
  have hm : Hid (mayB f = (nameB f.name.data.toList && (decide (1 ≤ f.size) && (decide (f.size ≤ 64) && (decide (0 ≤ f.count) && decide (f.count ≤ 4611686018427387904)))))) := rfl
  generalize nameB f.name.data.toList = q at *
  clear hat hb
  cases q
  · go_wp2_with fail
    go_ret
    exact ⟨ret_bool (by rw [hm.out]; rfl), hb1⟩
  · go_wp2_with fail
    all_goals
      go_ret
      refine ⟨ret_bool ?_, hb1⟩
      rw [hm.out, Bool.eq_iff_iff]
      simp
      try omega
theorem not_head {m : Mf} (h : headB m = false) : rightB m = false := by unfold rightB; rw [h]; rfl
set_option maxHeartbeats 1600000 in
set_option maxRecDepth 100000 in
theorem mright_no (m : Mf) (v : Value) (w : World) (hf : Files w v m.files) (hh : headB m = false) :
    Calls Try.prog 63 #[.agg #[.int .i64 m.stage, .int .i64 m.pass, v]] w fun e w' => e = .returned (.bool false) ∧ Below w.heap.size w w' := by
  obtain ⟨A, c, rfl, h1, h2, h3⟩ := id hf
  unfold maxLen at h2
  have HH : Hid (Head m → False) := fun h => by rw [head_mk h] at hh; cases hh
  clear h3 hh
  obtain ⟨stage, pass, files⟩ := m
  simp only at *
  go_enter Try.func63, Try.ntmps63
  go_wp2_with fail
  all_goals first
    | (go_ret; exact ⟨rfl, (Below.refl _ _).alloc (Nat.le_refl _) _⟩)
    | (exact (HH.out ⟨by assumption, by assumption, by assumption, by assumption, by show files.length ≤ 16; omega⟩).elim)
set_option maxHeartbeats 3200000 in
set_option maxRecDepth 100000 in
theorem mright_yes (m : Mf) (v : Value) (w : World) (hf : Files w v m.files) (hn : ∀ f ∈ m.files, f.name.size ≤ 9223372036854775807) (hh : headB m = true) :
    Calls Try.prog 63 #[.agg #[.int .i64 m.stage, .int .i64 m.pass, v]] w fun e w' => e = .returned (.bool (rightB m)) ∧ Below w.heap.size w w' := by
  obtain ⟨A, c, rfl, h1, h2, h3⟩ := id hf
  unfold maxLen at h2
  have hall := Lib.hid (right_of hh)
  have hone := Lib.hid (fun i hi h => right_not (m := m) i hi h)
  have HN := Lib.hid hn
  obtain ⟨s0, s1, p0, p1, few⟩ := head_of hh
  clear h3 hh hn
  generalize rightB m = q at *
  obtain ⟨stage, pass, fs⟩ := m
  simp only at *
  have hfb := hf.below ((Below.refl _ w).alloc (Nat.le_refl _) (.cells #[.int .i64 stage, .int .i64 pass, .slice A fs.length c] 31))
  have hnew := heap_alloc_new w (.cells #[.int .i64 stage, .int .i64 pass, .slice A fs.length c] 31)
  have hb1 := (Below.refl _ w).alloc (Nat.le_refl _) (.cells #[.int .i64 stage, .int .i64 pass, .slice A fs.length c] 31)
  have hz : w.heap.size < (w.alloc (.cells #[.int .i64 stage, .int .i64 pass, .slice A fs.length c] 31)).heap.size := by simp
  go_enter Try.func63, Try.ntmps63
  go_wp2_with fail
  clear hf
  generalize w.alloc (.cells #[.int .i64 stage, .int .i64 pass, .slice A fs.length c] 31) = W at *
  go_loopw [32] (fun i wr => ∃ k : Nat, k ≤ fs.length ∧ i = .int .i64 k ∧ Hid (∀ j, j < k → okAt fs j = true) ∧ Below W.heap.size W wr) (fun i _ => fs.length - (intOf i).toNat)
  case atStart => exact ⟨0, Nat.zero_le _, rfl, fun j hj => absurd hj (by omega), Below.refl _ _⟩
  case round =>
    rename_i wr _
    obtain ⟨k, hk, rfl, hso, hbr⟩ := hrel
    by_cases hlt : k < fs.length
    · obtain ⟨ad, rfl, c0, c1, c2, c3⟩ := (hfb.below hbr).at_ k hlt
      have hk0 : (0 : Int) ≤ (k : Int) := Int.natCast_nonneg _
      have hk1 : (k : Int) < (fs.length : Int) := by omega
      have hk2 : (k : Int) ≤ (fs.length : Int) := by omega
      have hk3 : (k : Int) ≤ (c : Int) := by omega
      have hnm := HN.out fs[k] (List.getElem_mem hlt)
      have hok : Hid (okAt fs k = (mayB fs[k] && !((fs.take k).any fun g => g.name.data.toList == fs[k].name.data.toList))) := by
        unfold Hid okAt
        rw [List.getElem?_eq_getElem hlt]
      have hno : Hid (okAt fs k = false → q = false) := hone.out k hlt
      have hcm : wr.cell? ⟨w.heap.size, 2, none⟩ = some (.slice (some ad) fs.length c) := keepCell (Lib.cell_of_heap hnew 2) hbr
      have hbx := hbr.alloc hbr.size (.cells #[.string fs[k].name, .int .i64 fs[k].size, .int .i64 fs[k].count, .int .u32 fs[k].sum] 78)
      generalize fs[k] = f at *
      obtain ⟨p, hp⟩ : ∃ p, ((fs.take k).any fun g => g.name.data.toList == f.name.data.toList) = p := ⟨_, rfl⟩
      rw [hp] at hok
      have HP := Lib.hid hp
      clear hp
      cases hm : mayB f
      · have hbd := hbx.drew
        have hv : Hid (q = false) := hno.out (by rw [hok.out, hm]; rfl)
        go_wp2_with fail
        have hcell : (wr.alloc (.cells #[.string f.name, .int .i64 f.size, .int .i64 f.count, .int .u32 f.sum] 78)).drew.heap[wr.heap.size]? = some (.cells #[.string f.name, .int .i64 f.size, .int .i64 f.count, .int .u32 f.sum] 78 (0, 0)) := heap_alloc_new wr _
        have x0 : (wr.alloc (.cells #[.string f.name, .int .i64 f.size, .int .i64 f.count, .int .u32 f.sum] 78)).drew.cell? ⟨wr.heap.size, 0, none⟩ = some (.string f.name) := Lib.cell_of_heap hcell 0
        have x1 : (wr.alloc (.cells #[.string f.name, .int .i64 f.size, .int .i64 f.count, .int .u32 f.sum] 78)).drew.cell? ⟨wr.heap.size, 1, none⟩ = some (.int .i64 f.size) := Lib.cell_of_heap hcell 1
        have x2 : (wr.alloc (.cells #[.string f.name, .int .i64 f.size, .int .i64 f.count, .int .u32 f.sum] 78)).drew.cell? ⟨wr.heap.size, 2, none⟩ = some (.int .i64 f.count) := Lib.cell_of_heap hcell 2
        have x3 : (wr.alloc (.cells #[.string f.name, .int .i64 f.size, .int .i64 f.count, .int .u32 f.sum] 78)).drew.cell? ⟨wr.heap.size, 3, none⟩ = some (.int .u32 f.sum) := Lib.cell_of_heap hcell 3
        refine wp_region_held_drew (S := fun _ => True) (by kernel_rfl) trivial (fun hHeld => ?_)
        refine wpAnyH_ready (rs := [0]) (by kernel_rfl) (by simp) ?_
        refine AllReadyH.cons rfl (fun K hK => ?_) AllReadyH.nil
        go_simp
        refine hK.out _ _ trivial (fun hHeld => ?_)
        clear hK K
        refine wpAnyH_ready (rs := [1]) (by kernel_rfl) (by simp) ?_
        refine AllReadyH.cons rfl (fun K hK => ?_) AllReadyH.nil
        go_simp
        refine (may_any f _ hnm).mono ?_
        rw [hm]
        rintro e w2 ⟨rfl, hb2⟩
        refine hK.out _ _ trivial (fun hHeld => ?_)
        clear hK K
        try simp only [Act.put, List.setIfInBounds_toArray, List.set_cons_zero, List.set_cons_succ]
        refine wpAnyH_take (i := 2) (oi := ⟨some 39, _, _, _, _, _⟩) (v := .bool true) rfl (by kernel_rfl) (by kernel_rfl) (by kernel_rfl) (fun _ _ _ h => h) (Or.inl ⟨by rfl, fun w _ => by go_simp⟩) (by assumption) ?_
        try simp only [Act.put, List.setIfInBounds_toArray, List.set_cons_zero, List.set_cons_succ]
        refine wpAnyH_take (i := 3) (oi := ⟨some 40, _, _, _, _, _⟩) (v := .bool true) rfl (by kernel_rfl) (by kernel_rfl) (by kernel_rfl) (fun _ _ _ h => h) (Or.inl ⟨by rfl, fun w _ => by go_simp⟩) (by assumption) ?_
        try simp only [Act.put, List.setIfInBounds_toArray, List.set_cons_zero, List.set_cons_succ]
        refine wpAnyH_take (i := 4) (oi := ⟨some 41, _, _, _, _, _⟩) (v := undef) rfl (by kernel_rfl) (by kernel_rfl) (by kernel_rfl) (fun _ _ _ h => h) (Or.inr ⟨by rfl, rfl⟩) (by assumption) ?_
        try simp only [Act.put, List.setIfInBounds_toArray, List.set_cons_zero, List.set_cons_succ]
        refine wpAnyH_take (i := 5) (oi := ⟨some 42, _, _, _, _, _⟩) (v := undef) rfl (by kernel_rfl) (by kernel_rfl) (by kernel_rfl) (fun _ _ _ h => h) (Or.inr ⟨by rfl, rfl⟩) (by assumption) ?_
        try simp only [Act.put, List.setIfInBounds_toArray, List.set_cons_zero, List.set_cons_succ]
        refine wpAnyH_take (i := 6) (oi := ⟨some 43, _, _, _, _, _⟩) (v := undef) rfl (by kernel_rfl) (by kernel_rfl) (by kernel_rfl) (fun _ _ _ h => h) (Or.inr ⟨by rfl, rfl⟩) (by assumption) ?_
        try simp only [Act.put, List.setIfInBounds_toArray, List.set_cons_zero, List.set_cons_succ]
        refine wpAnyH_take (i := 7) (oi := ⟨some 44, _, _, _, _, _⟩) (v := undef) rfl (by kernel_rfl) (by kernel_rfl) (by kernel_rfl) (fun _ _ _ h => h) (Or.inr ⟨by rfl, rfl⟩) (by assumption) ?_
        try simp only [Act.put, List.setIfInBounds_toArray, List.set_cons_zero, List.set_cons_succ]
        refine wpAnyH_take (i := 8) (oi := ⟨some 45, _, _, _, _, _⟩) (v := undef) rfl (by kernel_rfl) (by kernel_rfl) (by kernel_rfl) (fun _ _ _ h => h) (Or.inr ⟨by rfl, rfl⟩) (by assumption) ?_
        try simp only [Act.put, List.setIfInBounds_toArray, List.set_cons_zero, List.set_cons_succ]
        refine wpAnyH_take (i := 9) (oi := ⟨some 46, _, _, _, _, _⟩) (v := undef) rfl (by kernel_rfl) (by kernel_rfl) (by kernel_rfl) (fun _ _ _ h => h) (Or.inr ⟨by rfl, rfl⟩) (by assumption) ?_
        try simp only [Act.put, List.setIfInBounds_toArray, List.set_cons_zero, List.set_cons_succ]
        refine wpAnyH_take (i := 10) (oi := ⟨some 47, _, _, _, _, _⟩) (v := undef) rfl (by kernel_rfl) (by kernel_rfl) (by kernel_rfl) (fun _ _ _ h => h) (Or.inr ⟨by rfl, rfl⟩) (by assumption) ?_
        try simp only [Act.put, List.setIfInBounds_toArray, List.set_cons_zero, List.set_cons_succ]
        refine wpAnyH_take (i := 11) (oi := ⟨some 48, _, _, _, _, _⟩) (v := undef) rfl (by kernel_rfl) (by kernel_rfl) (by kernel_rfl) (fun _ _ _ h => h) (Or.inr ⟨by rfl, rfl⟩) (by assumption) ?_
        try simp only [Act.put, List.setIfInBounds_toArray, List.set_cons_zero, List.set_cons_succ]
        refine wpAnyH_take (i := 12) (oi := ⟨some 49, _, _, _, _, _⟩) (v := .bool true) rfl (by kernel_rfl) (by kernel_rfl) (by kernel_rfl) (fun _ _ _ h => h) (Or.inl ⟨by rfl, fun w _ => by go_simp⟩) (by assumption) ?_
        try simp only [Act.put, List.setIfInBounds_toArray, List.set_cons_zero, List.set_cons_succ]
        refine wpAnyH_done (by kernel_rfl) ?_ _
        have hb3 := keepBelow hbd hb2
        clear hbd hb2 hbx c0 c1 c2 c3 hcm hcell x0 x1 x2 x3
        go_wp2_with fail
        go_ret
        exact ⟨ret_bool hv.out.symm, below_then hb1 hb1.size hb3⟩
      · have hbd := hbx.drew
        go_wp2_with fail
        go_region_held3 (fun w' => (w'.cell? ⟨wr.heap.size, 0, none⟩ = some (.string f.name) ∧ w'.cell? ⟨wr.heap.size, 1, none⟩ = some (.int .i64 f.size) ∧ w'.cell? ⟨wr.heap.size, 2, none⟩ = some (.int .i64 f.count) ∧ w'.cell? ⟨wr.heap.size, 3, none⟩ = some (.int .u32 f.sum) ∧ w'.cell? ⟨w.heap.size, 2, none⟩ = some (.slice (some ad) fs.length c)))
          (first | go_keep | (go_split_ands; refine ⟨keepCell ?_ hb2, keepCell ?_ hb2, keepCell ?_ hb2, keepCell ?_ hb2, keepCell ?_ hb2⟩ <;> assumption) | (go_split_ands; refine ⟨keepCell ?_ hb4, keepCell ?_ hb4, keepCell ?_ hb4, keepCell ?_ hb4, keepCell ?_ hb4⟩ <;> assumption))
          (first | (go_at_call 86; refine (may_any f _ hnm).mono ?_; rw [hm]; rintro e w2 ⟨rfl, hb2⟩) | (go_at_call 88; refine (named_any f.name _).mono ?_; rintro e w3 ⟨rfl, rfl⟩) | (go_at_call 87; refine (contains_any _ f.name _ (fs.take k) _ (Lib.cell_of_heap (heap_alloc_new _ _) 0) (Files.take (hfb.below (keepBelow (keepBelow hbd hb2) ((Below.refl _ _).alloc (Nat.le_refl _) _))) k (by omega))).mono ?_; rw [HP.out]; rintro e w4 ⟨rfl, hb4⟩))
        have hb3 := keepBelow (keepBelow (keepBelow hbd hb2) ((Below.refl _ _).alloc (Nat.le_refl _) _)) hb4
        clear hbd hb2 hb4 hbx c0 c1 c2 c3 hcm
        have hok2 : Hid (okAt fs k = !p) := by
          unfold Hid
          rw [hok.out, hm]
          rfl
        cases p
        · have hs2 : Hid (∀ j, j < k + 1 → okAt fs j = true) := by
            intro j hj
            by_cases hjk : j = k
            · rw [hjk, hok2.out]; rfl
            · exact hso.out j (by omega)
          go_wp2_with fail
          go_roundw
          case rel => exact ⟨k + 1, by omega, by go_num, hs2, hb3⟩
          case measure => simp [intOf]; omega
        · have hv : Hid (q = false) := hno.out (by rw [hok2.out]; rfl)
          go_wp2_with fail
          go_ret
          exact ⟨ret_bool hv.out.symm, below_then hb1 hb1.size hb3⟩
    · obtain rfl : k = fs.length := by omega
      have hv : Hid (q = true) := hall.out hso.out
      go_wp2_with fail
      go_ret
      exact ⟨ret_bool hv.out.symm, below_then hb1 hb1.size hbr⟩
theorem mright_any (m : Mf) (v : Value) (w : World) (hf : Files w v m.files) (hn : ∀ f ∈ m.files, f.name.size ≤ 9223372036854775807) :
    Calls Try.prog 63 #[.agg #[.int .i64 m.stage, .int .i64 m.pass, v]] w fun e w' => e = .returned (.bool (rightB m)) ∧ Below w.heap.size w w' := by
  cases hh : headB m
  · rw [not_head hh]
    exact mright_no m v w hf hh
  · exact mright_yes m v w hf hn hh
end Go.Proofs.Ytdmmfeglnmkmdaa
