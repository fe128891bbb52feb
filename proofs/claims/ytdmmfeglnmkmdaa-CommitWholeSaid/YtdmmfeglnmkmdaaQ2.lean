/- chainmanref19.Right: whether a manifest may be. -/
import Derived.Test.YtdmmfeglnmkmdaaQ1
namespace Go.Proofs.Ytdmmfeglnmkmdaa
open Go.RowKit Plain

set_option maxHeartbeats 1600000 in
set_option maxRecDepth 100000 in
theorem rmright_no (m : Mf) (v : Value) (w : World) (hf : Files w v m.files) (hh : headB m = false) :
    Calls Try.prog 13 #[.agg #[.int .i64 m.stage, .int .i64 m.pass, v]] w fun e w' => e = .returned (.bool false) ∧ Below w.heap.size w w' := by
  obtain ⟨A, c, rfl, h1, h2, h3⟩ := id hf
  unfold maxLen at h2
  have HH : Hid (Head m → False) := fun h => by rw [head_mk h] at hh; cases hh
  clear h3 hh
  obtain ⟨stage, pass, files⟩ := m
  simp only at *
  go_enter Try.func13, Try.ntmps13
  go_wp2_with fail
  all_goals first
    | (go_ret; exact ⟨rfl, (Below.refl _ _).alloc (Nat.le_refl _) _⟩)
    | (exact (HH.out ⟨by assumption, by assumption, by assumption, by assumption, by show files.length ≤ 16; omega⟩).elim)
set_option maxHeartbeats 3200000 in
set_option maxRecDepth 100000 in
theorem rmright_yes (m : Mf) (v : Value) (w : World) (hf : Files w v m.files) (hn : ∀ f ∈ m.files, f.name.size ≤ 9223372036854775807) (hh : headB m = true) :
    Calls Try.prog 13 #[.agg #[.int .i64 m.stage, .int .i64 m.pass, v]] w fun e w' => e = .returned (.bool (rightB m)) ∧ Below w.heap.size w w' := by
  obtain ⟨A, c, rfl, h1, h2, h3⟩ := id hf
  unfold maxLen at h2
  have hall := Lib.hid (right_of hh)
  have hone := Lib.hid (fun i hi h => right_not (m := m) i hi h)
  have HN := Lib.hid hn
  obtain ⟨s0, s1, p0, p1, few⟩ := head_of hh
  clear h3 hh hn
  generalize rightB m = q at *
  obtain ⟨stage, pass, fs⟩ := m
  simp only at *
  have hfb := hf.below ((Below.refl _ w).alloc (Nat.le_refl _) (.cells #[.int .i64 stage, .int .i64 pass, .slice A fs.length c] 31))
  have hnew := heap_alloc_new w (.cells #[.int .i64 stage, .int .i64 pass, .slice A fs.length c] 31)
  have hb1 := (Below.refl _ w).alloc (Nat.le_refl _) (.cells #[.int .i64 stage, .int .i64 pass, .slice A fs.length c] 31)
  have hz : w.heap.size < (w.alloc (.cells #[.int .i64 stage, .int .i64 pass, .slice A fs.length c] 31)).heap.size := by simp
  go_enter Try.func13, Try.ntmps13
  go_wp2_with fail
  clear hf
  generalize w.alloc (.cells #[.int .i64 stage, .int .i64 pass, .slice A fs.length c] 31) = W at *
  go_loopw [3] (fun i wr => ∃ k : Nat, k ≤ fs.length ∧ i = .int .i64 k ∧ Hid (∀ j, j < k → okAt fs j = true) ∧ Below W.heap.size W wr) (fun i _ => fs.length - (intOf i).toNat)
  case atStart => exact ⟨0, Nat.zero_le _, rfl, fun j hj => absurd hj (by omega), Below.refl _ _⟩
  case round =>
    rename_i wr _
    obtain ⟨k, hk, rfl, hso, hbr⟩ := hrel
    have hcm : wr.cell? ⟨w.heap.size, 2, none⟩ = some (.slice A fs.length c) := keepCell (Lib.cell_of_heap hnew 2) hbr
    by_cases hlt : k < fs.length
    · obtain ⟨ad, rfl, c0, c1, c2, c3⟩ := (hfb.below hbr).at_ k hlt
      have hk0 : (0 : Int) ≤ (k : Int) := Int.natCast_nonneg _
      have hk1 : (k : Int) < (fs.length : Int) := by omega
      have hnm := HN.out fs[k] (List.getElem_mem hlt)
      have hok : Hid (okAt fs k = (mayB fs[k] && !((fs.take k).any fun g => g.name.data.toList == fs[k].name.data.toList))) := by
        unfold Hid okAt
        rw [List.getElem?_eq_getElem hlt]
      have hno : Hid (okAt fs k = false → q = false) := hone.out k hlt
      have hbx := hbr.alloc hbr.size (.cells #[.string fs[k].name, .int .i64 fs[k].size, .int .i64 fs[k].count, .int .u32 fs[k].sum] 78)
      have hfile := heap_alloc_new wr (.cells #[.string fs[k].name, .int .i64 fs[k].size, .int .i64 fs[k].count, .int .u32 fs[k].sum] 78)
      generalize fs[k] = f at *
      have hm : Hid (mayB f = (nameB f.name.data.toList && (decide (1 ≤ f.size) && (decide (f.size ≤ 64) && (decide (0 ≤ f.count) && decide (f.count ≤ 4611686018427387904)))))) := rfl
      go_wp2_with fail
      refine (rright_any f.name _ hnm).mono ?_
      rintro e w' ⟨rfl, rfl⟩
      have x0 : (wr.alloc (.cells #[.string f.name, .int .i64 f.size, .int .i64 f.count, .int .u32 f.sum] 78)).cell? ⟨wr.heap.size, 0, none⟩ = some (.string f.name) := Lib.cell_of_heap hfile 0
      have x1 : (wr.alloc (.cells #[.string f.name, .int .i64 f.size, .int .i64 f.count, .int .u32 f.sum] 78)).cell? ⟨wr.heap.size, 1, none⟩ = some (.int .i64 f.size) := Lib.cell_of_heap hfile 1
      have x2 : (wr.alloc (.cells #[.string f.name, .int .i64 f.size, .int .i64 f.count, .int .u32 f.sum] 78)).cell? ⟨wr.heap.size, 2, none⟩ = some (.int .i64 f.count) := Lib.cell_of_heap hfile 2
      cases hmb : mayB f
      · have hv : Hid (q = false) := hno.out (by rw [hok.out, hmb]; rfl)
        rw [hmb] at hm
        generalize nameB f.name.data.toList = nb at *
        cases nb
        · go_wp2_with fail
          go_ret
          exact ⟨ret_bool hv.out.symm, below_then hb1 hb1.size hbx⟩
        · have hm2 : Hid (¬ (1 ≤ f.size ∧ f.size ≤ 64 ∧ 0 ≤ f.count ∧ f.count ≤ 4611686018427387904)) := by
            intro h
            have := hm.out
            simp [h.1, h.2.1, h.2.2.1, h.2.2.2] at this
          go_wp2_with fail
          all_goals first
            | (go_ret; exact ⟨ret_bool hv.out.symm, below_then hb1 hb1.size hbx⟩)
            | (exact (hm2.out ⟨by omega, by omega, by omega, by omega⟩).elim)
      · obtain ⟨n0, _, t0, t1, u0, u1⟩ := may_of hmb
        have hok2 : Hid (okAt fs k = !((fs.take k).any fun g => g.name.data.toList == f.name.data.toList)) := by
          unfold Hid
          rw [hok.out, hmb]
          rfl
        clear hmb hm hok
        rw [n0]
        have hcm1 : (wr.alloc (.cells #[.string f.name, .int .i64 f.size, .int .i64 f.count, .int .u32 f.sum] 78)).cell? ⟨w.heap.size, 2, none⟩ = some (.slice (some ad) fs.length c) := keepCell hcm ((Below.refl _ wr).alloc (Nat.le_refl _) _)
        have hfx := hfb.below hbx
        go_wp2_with fail
        generalize wr.alloc (.cells #[.string f.name, .int .i64 f.size, .int .i64 f.count, .int .u32 f.sum] 78) = W1 at *
        clear x1 x2 c0 c1 c2 c3 hcm hfile
        go_loopw [5] (fun i w2 => ∃ j : Nat, j ≤ k ∧ i = .int .i64 j ∧ Hid ((fs.take j).any (fun g => g.name.data.toList == f.name.data.toList) = false) ∧ Below W1.heap.size W1 w2) (fun i _ => k - (intOf i).toNat)
        case atStart => exact ⟨0, Nat.zero_le _, rfl, rfl, Below.refl _ _⟩
        case round =>
          rename_i w2 _
          obtain ⟨j, hj, rfl, hnone, hb2⟩ := hrel
          by_cases hjk : j < k
          · obtain ⟨ad', hade, d0, _, _, _⟩ := (hfx.below hb2).at_ j (by omega)
            cases hade
            have y0 := keepCell x0 hb2
            have y1 := keepCell hcm1 hb2
            have hj0 : (0 : Int) ≤ (j : Int) := Int.natCast_nonneg _
            have hj1 : (j : Int) < (fs.length : Int) := by omega
            have hj2 : (j : Int) < (k : Int) := by omega
            have hjl : j < fs.length := by omega
            have hsn : Hid ((fs.take (j + 1)).any (fun g => g.name.data.toList == f.name.data.toList) = ((fs.take j).any (fun g => g.name.data.toList == f.name.data.toList) || (fs[j].name.data.toList == f.name.data.toList))) := by
              unfold Hid
              rw [List.take_succ_eq_append_getElem hjl, List.any_append]
              simp
            have hyes : Hid ((fs[j].name.data.toList == f.name.data.toList) = true → okAt fs k = false) := by
              intro h
              rw [hok2.out, Bool.not_eq_false']
              exact List.any_eq_true.2 ⟨fs[j], List.mem_take_iff_getElem.2 ⟨j, by omega, rfl⟩, h⟩
            have hbl : ∀ a b : ByteArray, (a.toList == b.toList) = (a.data.toList == b.data.toList) := fun a b => by rw [ByteArray.toList_eq, ByteArray.toList_eq]
            generalize fs[j] = g at *
            cases hq : (g.name.data.toList == f.name.data.toList)
            · have hq2 : (g.name.toList == f.name.toList) = false := by rw [hbl, hq]
              have HQ := Lib.hid hq
              clear hq hbl
              go_wp2_with fail
              go_quiet (fail)
              go_wp2_with fail
              go_roundw
              case rel => exact ⟨j + 1, by omega, by go_num, by unfold Hid; rw [hsn.out, hnone.out, HQ.out]; rfl, below_drewN hb2 _⟩
              case measure => simp [intOf]; omega
            · have hq2 : (g.name.toList == f.name.toList) = true := by rw [hbl, hq]
              have hv : Hid (q = false) := hno.out (hyes.out hq)
              clear hq hbl
              go_wp2_with fail
              go_quiet (fail)
              go_wp2_with fail
              go_ret
              exact ⟨ret_bool hv.out.symm, below_then hb1 hb1.size (below_drewN (below_then hbx hbx.size hb2) _)⟩
          · obtain rfl : j = k := by omega
            have hs2 : Hid (∀ i, i < j + 1 → okAt fs i = true) := by
              intro i hi
              by_cases hij : i = j
              · rw [hij, hok2.out, hnone.out]; rfl
              · exact hso.out i (by omega)
            clear hjk
            go_wp2_with fail
            go_roundw
            case rel => exact ⟨j + 1, by omega, by go_num, hs2, below_then hbx hbx.size hb2⟩
            case measure => simp [intOf]; omega
    · obtain rfl : k = fs.length := by omega
      have hv : Hid (q = true) := hall.out hso.out
      go_wp2_with fail
      go_ret
      exact ⟨ret_bool hv.out.symm, below_then hb1 hb1.size hbr⟩
theorem rmright_any (m : Mf) (v : Value) (w : World) (hf : Files w v m.files) (hn : ∀ f ∈ m.files, f.name.size ≤ 9223372036854775807) :
    Calls Try.prog 13 #[.agg #[.int .i64 m.stage, .int .i64 m.pass, v]] w fun e w' => e = .returned (.bool (rightB m)) ∧ Below w.heap.size w w' := by
  cases hh : headB m
  · rw [not_head hh]
    exact rmright_no m v w hf hh
  · exact rmright_yes m v w hf hn hh
end Go.Proofs.Ytdmmfeglnmkmdaa
