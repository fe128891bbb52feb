/- chainmanlaw20.CommitWhole returns true: the walk. -/
import Derived.Test.YtdmmfeglnmkmdaaV2
namespace Go.Proofs.Ytdmmfeglnmkmdaa
open Go.RowKit Plain

theorem flEq_self (f : Fl) : flEq f f = true := by unfold flEq; simp
theorem sameB_self (m : Mf) : sameB m m = true := by
  unfold sameB
  rw [Bool.and_eq_true, List.all_eq_true]
  refine ⟨by simp, fun i hi => ?_⟩
  have := List.mem_range.1 hi
  unfold eqAt
  rw [List.getElem?_eq_getElem this]
  exact flEq_self _
theorem fewM_names {m : Mf} (h : fewM m = true) : ∀ f ∈ m.files, f.name.size ≤ 9223372036854775807 := by
  unfold fewM at h
  simp only [Bool.and_eq_true, decide_eq_true_eq] at h
  obtain ⟨h1, h2⟩ := h
  rw [List.take_of_length_le h2] at h1
  intro f hf
  have := List.all_eq_true.1 h1 f hf
  simp at this
  omega
theorem fewT_all {l : List Tr} (h : fewT l = true) : l.length ≤ 8 ∧ ∀ t ∈ l, fewM t.m = true := by
  unfold fewT at h
  simp only [Bool.and_eq_true, decide_eq_true_eq] at h
  obtain ⟨h1, h2⟩ := h
  rw [List.take_of_length_le h2] at h1
  refine ⟨h2, fun t ht => ?_⟩
  have := List.all_eq_true.1 h1 t ht
  unfold smallT at this
  simp only [Bool.and_eq_true] at this
  exact this.1
/-- What one round comes to: what is told of Save, whether there is a manifest then, and which. -/
theorem round_law {x : Dk} {is : Bool} {was : Mf} (h : Inv x is was) (t : Tr) (hw : t.m.wf) (hns : ∀ n ∈ ((x.armed t.fuse).saved t.m).2.names, ((x.armed t.fuse).saved t.m).2.hasK ⟨n.toArray⟩ = true) :
    ∃ is' was', Inv (((x.armed t.fuse).saved t.m).2.risen t.keep).loadS is' was' ∧ (((x.armed t.fuse).saved t.m).2.risen t.keep).loadM = ((if is' = true then some was' else none), 0) ∧
      ((((x.armed t.fuse).saved t.m).1 = 0 ∧ is' = true ∧ was' = t.m ∧ rightB t.m = true) ∨ (((x.armed t.fuse).saved t.m).1 ≠ 0 ∧ is' = is ∧ was' = was)) := by
  have ha : Inv (x.armed t.fuse) is was := h.same rfl
  by_cases he : ((x.armed t.fuse).saved t.m).1 = 0
  · obtain ⟨h1, h2⟩ := ha.saved_yes hw he
    obtain ⟨h3, h4, _, _⟩ := (h1.risen hns t.keep).loads rfl rfl
    exact ⟨true, t.m, h4, h3, .inl ⟨he, rfl, rfl, h2⟩⟩
  · obtain ⟨h3, h4, _, _⟩ := ((ha.saved_no he).risen hns t.keep).loads rfl rfl
    exact ⟨is, was, h4, h3, .inr ⟨he, rfl, rfl⟩⟩
theorem Files.turn {w w1 : World} {v : Value} {fs : List Fl} {d m : Nat} {x : Dk} (h : Files w v fs) (hD : IsDisk w d m x) (T : Turn d m w w1) : Files w1 v fs := by
  obtain ⟨A, c, rfl, h1, h2, h3⟩ := h
  refine ⟨A, c, rfl, h1, h2, fun i f hf => ?_⟩
  obtain ⟨ad, rfl, hc⟩ := h3 i f hf
  have h4 := hc 3 (.int .u32 f.sum) rfl
  have h5 : ad.add (i * 4 + 3) = ⟨ad.block, ad.off + (i * 4 + 3), none⟩ := by unfold Addr.add; split <;> simp_all
  rw [h5] at h4
  have hnd : ad.block ≠ d := by
    intro e
    rw [e, Lib.cell_of_heap hD.blk] at h4
    generalize ad.off + (i * 4 + 3) = o at h4
    unfold dkCells at h4
    match o, h4 with
    | 0, h4 => cases h4
    | 1, h4 => cases h4
    | 2, h4 => cases h4
    | 3, h4 => cases h4
    | 4, h4 => cases h4
    | 5, h4 => cases h4
    | 6, h4 => cases h4
    | o + 7, h4 => simp at h4
  have hnm : ad.block ≠ m := by
    intro e
    obtain ⟨es, clock, hb, _⟩ := hD.own
    rw [e] at h4
    simp [World.cell?, hb] at h4
  refine ⟨ad, rfl, fun j u hu => ?_⟩
  have h6 := hc j u hu
  have hbl : (ad.add (i * 4 + j)).block = ad.block := by unfold Addr.add; split <;> rfl
  have hlt := World.block_lt_of_cell? w _ h6
  rw [hbl] at hlt
  exact (World.cell?_of_block (by rw [hbl]; exact T.block _ hlt hnd hnm)).trans h6
theorem Files.setAt {w : World} {v : Value} {fs : List Fl} {b : Nat} {t : TypeId} {p q r : Value} (h : Files w v fs) (hb : w.heap[b]? = some (.cells #[p, q, r] t (0, 0))) (x y z : Value) :
    Files (((w.setCell ⟨b, 0, none⟩ x).setCell ⟨b, 1, none⟩ y).setCell ⟨b, 2, none⟩ z) v fs := by
  obtain ⟨A, c, rfl, h1, h2, h3⟩ := h
  refine ⟨A, c, rfl, h1, h2, fun i f hf => ?_⟩
  obtain ⟨ad, rfl, hc⟩ := h3 i f hf
  have hne : ad.block ≠ b := by
    intro e
    have h4 := hc 3 (.int .u32 f.sum) rfl
    have h5 : ad.add (i * 4 + 3) = ⟨ad.block, (ad.off + i * 4) + 3, none⟩ := by unfold Addr.add; split <;> simp_all [Nat.add_assoc]
    rw [h5, e, Lib.cell_of_heap hb] at h4
    simp at h4
  refine ⟨ad, rfl, fun j u hu => ?_⟩
  have hbl : (ad.add (i * 4 + j)).block = ad.block := by unfold Addr.add; split <;> rfl
  rw [World.cell?_setCell_far _ _ _ _ (by rw [hbl]; exact hne.symm), World.cell?_setCell_far _ _ _ _ (by rw [hbl]; exact hne.symm), World.cell?_setCell_far _ _ _ _ (by rw [hbl]; exact hne.symm)]
  exact hc j u hu
set_option maxHeartbeats 6400000 in
set_option maxRecDepth 100000 in
theorem whole_walk (v : Value) (l : List Tr) (w : World) (hl : Tries w v l) (hw : ∀ t ∈ l, t.wf) : Calls Try.prog 3 #[v] w fun e w' => e = .returned (.bool true) ∧ Below w.heap.size w w' := by
  have HW := Lib.hid hw
  clear hw
  cases hfew : fewT l
  · have HF := Lib.hid hfew
    clear hfew
    go_enter Try.func3, Try.ntmps3
    go_wp2_with fail
    refine (few_any v l _ hl).mono ?_
    rw [HF.out]
    rintro e w1 ⟨rfl, hb1⟩
    go_wp2_with fail
    refine (awake_any _).mono ?_
    rintro e w2 ⟨rfl, hb2⟩
    go_wp2
    go_ret
    exact ⟨rfl, keepBelow hb1 hb2⟩
  obtain ⟨h8, hsm⟩ := fewT_all hfew
  have HF := Lib.hid hfew
  have HS := Lib.hid hsm
  clear hfew hsm
  obtain ⟨A, c, rfl, a1, a2, -⟩ := id hl
  unfold maxLen at a2
  go_enter Try.func3, Try.ntmps3
  go_wp2_with fail
  refine (few_any _ l _ hl).mono ?_
  rw [HF.out]
  rintro e w1 ⟨rfl, hb1⟩
  go_wp2_with fail
  refine (new_any 1048576 (by omega) _).mono ?_
  rintro e w2 ⟨rfl, h2, b2⟩
  have hs := hb1.size
  have hd := h2.ltd
  have hm := h2.ltm
  have hb2 := keepBelow hb1 b2
  generalize hdd : w1.heap.size + 1 = d at *
  have hdd2 : w.heap.size ≤ d := by omega
  generalize w1.heap.size = m at *
  clear hdd b2 hb1
  have h3 := h2.alloc (.cells #[.int .i64 0, .int .i64 0, .slice none 0 0] 31)
  have hb3 := hb2.alloc hb2.size (.cells #[.int .i64 0, .int .i64 0, .slice none 0 0] 31)
  have g3 := heap_alloc_new w2 (.cells #[.int .i64 0, .int .i64 0, .slice none 0 0] 31)
  have hF3 := files_nil (w2.alloc (.cells #[.int .i64 0, .int .i64 0, .slice none 0 0] 31)) none 0 (by decide)
  go_wp2_with fail
  generalize w2.alloc (.cells #[.int .i64 0, .int .i64 0, .slice none 0 0] 31) = w3 at *
  have hwb : w.heap.size ≤ w2.heap.size := hb2.size
  generalize w2.heap.size = wb at *
  clear h2 hb2
  go_loopw [6, 7] (fun s i wr => ∃ (k : Nat) (x : Dk) (is : Bool) (was : Mf) (vw : Value), k ≤ l.length ∧ i = .int .i64 k ∧ s = .bool is ∧ IsDisk wr d m x ∧ Inv x is was ∧ wr.heap[wb]? = some (.cells #[.int .i64 was.stage, .int .i64 was.pass, vw] 31 (0, 0)) ∧ Files wr vw was.files ∧ Hid (∀ f ∈ was.files, f.name.size ≤ 9223372036854775807) ∧ Below w.heap.size w wr) (fun _ i _ => l.length - (intOf i).toNat)
  case atStart => exact ⟨0, newDk 1048576, false, ⟨0, 0, []⟩, .slice none 0 0, Nat.zero_le _, rfl, rfl, h3, new_inv _, g3, hF3, by unfold Hid; simp, hb3⟩
  case round =>
    rename_i wr _
    clear h3 hb3 g3 hF3
    obtain ⟨k, x, is, was, vw, hk, rfl, rfl, hD, hI, hG, hFw, hNw, hbr⟩ := hrel
    by_cases hlt : k < l.length
    · obtain ⟨ad, vf, vk, rfl, hF, hI2, c0, c1, c2, c3, c4⟩ := hl.at_ k hlt
      obtain ⟨A1, n1, hv1, -⟩ := id hF
      obtain ⟨A2, n2, hv2, -⟩ := id hI2
      have hk0 : (0 : Int) ≤ (k : Int) := Int.natCast_nonneg _
      have hk1 : (k : Int) < (l.length : Int) := by omega
      have hwf := HW.out l[k] (List.getElem_mem hlt)
      have hnm := Lib.hid (fewM_names (HS.out l[k] (List.getElem_mem hlt)))
      generalize l[k] = t at *
      have hq0 := hwf.f0
      have hq1 := hwf.f1
      have hks := Lib.hid hwf.ks
      have hmw := Lib.hid hwf.m
      have d3 := keepCell c3 hbr
      subst hv1 hv2
      go_wp2_with fail
      refine (arm_any d m x t.fuse _ hD hq1).mono ?_
      rintro e w4 ⟨rfl, hD4, T4⟩
      have hb4 := hbr.trans (T4.below hbr.size (by omega) (by omega))
      have e0 := keepCell c0 hb4
      have e1 := keepCell c1 hb4
      have e2 := keepCell c2 hb4
      have hF4 := hF.below hb4
      clear d3
      go_wp2_with fail
      refine (save_any d m (x.armed t.fuse) t.m _ _ hD4 hF4 hmw.out hnm.out).mono ?_
      rintro e w5 ⟨rfl, hD5, T5⟩
      have T5 := T4.trans T5
      have hb5 := hbr.trans (T5.below hbr.size (by omega) (by omega))
      have f4 := keepCell c4 hb5
      clear e0 e1 e2 hF4 hD4 T4 hb4
      have hns : ∀ n ∈ ((x.armed t.fuse).saved t.m).2.names, ((x.armed t.fuse).saved t.m).2.hasK ⟨n.toArray⟩ = true := fun n hn => (hD5.name_has hn).1
      obtain ⟨is', was', hI', hLd, hcase⟩ := round_law hI t hmw.out hns
      have HL := Lib.hid hLd
      have HC := Lib.hid hcase
      clear hns hLd hcase
      generalize (x.armed t.fuse).saved t.m = r at *
      obtain ⟨er, y⟩ := r
      simp only at hD5 HL HC hI' ⊢
      go_wp2_with fail
      refine (rise_any d m y _ t.keep _ hD5 (fun w' T' => hI2.below (hb5.trans (T'.below hb5.size (by omega) (by omega)))) hks.out).mono ?_
      rintro e w6 ⟨rfl, hD6, T6⟩
      have T6 := T5.trans T6
      have hb6 := hbr.trans (T6.below hbr.size (by omega) (by omega))
      clear f4 hD5 T5 hb5
      go_wp2_with fail
      refine (load_any d m _ _ hD6).mono ?_
      rintro e w7 ⟨hD7, T7, hp⟩
      rw [HL.out] at hp
      have T7 := T6.trans T7
      have hb7 := hbr.trans (T7.below hbr.size (by omega) (by omega))
      clear hD6 T6 hb6
      have hG7 := T7.kept hG (by omega) (by omega)
      have hFw7 := hFw.turn hD T7
      have hmb7 := Nat.lt_of_lt_of_le (heap_lt hG) T7.size
      clear hD hI hG hFw T7 hbr
      cases is'
      · simp only [Bool.false_eq_true, if_false] at hp
        subst hp
        obtain ⟨he, rfl, rfl⟩ : er ≠ 0 ∧ is = false ∧ was' = was := by
          rcases HC.out with h | h
          · cases h.2.1
          · exact ⟨h.1, h.2.1.symm, h.2.2⟩
        obtain rfl : was' = ⟨0, 0, []⟩ := (hI'.2.1 rfl).2
        have hD8 := hD7.alloc (.cells #[.int .i64 0, .int .i64 0, .slice none 0 0] 31)
        have hb8 := hb7.alloc hb7.size (.cells #[.int .i64 0, .int .i64 0, .slice none 0 0] 31)
        have hG8 : (w7.alloc (.cells #[.int .i64 0, .int .i64 0, .slice none 0 0] 31)).heap[wb]? = _ := (Below.heap_alloc w7 _ wb hmb7).trans hG7
        have hF8 := hFw7.below ((Below.refl _ w7).alloc (Nat.le_refl _) (.cells #[.int .i64 0, .int .i64 0, .slice none 0 0] 31))
        have g8 := heap_alloc_new w7 (.cells #[.int .i64 0, .int .i64 0, .slice none 0 0] 31)
        obtain ⟨A3, n3, rfl, -⟩ := id hFw7
        have hne1 : (er == 0) = false := by simpa using he
        have hsm : Hid (sameB ⟨0, 0, []⟩ ⟨0, 0, []⟩ = true) := sameB_self _
        have y0 : w7.cell? ⟨wb, 0, none⟩ = some (.int .i64 0) := Lib.cell_of_heap hG7 0
        have y1 : w7.cell? ⟨wb, 1, none⟩ = some (.int .i64 0) := Lib.cell_of_heap hG7 1
        have y2 : w7.cell? ⟨wb, 2, none⟩ = some (.slice A3 0 n3) := Lib.cell_of_heap hG7 2
        clear hD7 hb7 hG7 hFw7 he HC
        unfold zeroM
        simp only [List.length_nil] at hG8 hF8
        go_wp2_with fail
        generalize w7.alloc (.cells #[.int .i64 0, .int .i64 0, .slice none 0 0] 31) = w8 at *
        refine (same_any ⟨0, 0, []⟩ ⟨0, 0, []⟩ (.slice none 0 0) (.slice A3 0 n3) _ (files_nil _ none 0 (by decide)) hF8).mono ?_
        rw [hsm.out]
        rintro e w9 ⟨rfl, hb9⟩
        have hD9 := hD8.below hb9
        have hG9 := (hb9.block _ (heap_lt hG8)).trans hG8
        have g9 := (hb9.block _ (heap_lt g8)).trans g8
        have hb9' := keepBelow hb8 hb9
        have hmb9 := heap_lt hG9
        generalize w7.heap.size = nb at *
        clear hD8 hb8 hG8 hF8 g8 hb9 y0 y1 y2
        go_wp2_with fail
        go_quiet (fail)
        have hD10 := hD9.drewN nq
        have hG10 : (w9.drewN nq).heap[wb]? = _ := hG9
        have g10 : (w9.drewN nq).heap[nb]? = _ := g9
        have hb10 := below_drewN hb9' nq
        have y0 : (w9.drewN nq).cell? ⟨wb, 0, none⟩ = some (.int .i64 0) := Lib.cell_of_heap hG10 0
        have y1 : (w9.drewN nq).cell? ⟨wb, 1, none⟩ = some (.int .i64 0) := Lib.cell_of_heap hG10 1
        have y2 : (w9.drewN nq).cell? ⟨wb, 2, none⟩ = some (.slice A3 0 n3) := Lib.cell_of_heap hG10 2
        have z0 : (w9.drewN nq).cell? ⟨nb, 0, none⟩ = some (.int .i64 0) := Lib.cell_of_heap g10 0
        have z1 : (w9.drewN nq).cell? ⟨nb, 1, none⟩ = some (.int .i64 0) := Lib.cell_of_heap g10 1
        have z2 : (w9.drewN nq).cell? ⟨nb, 2, none⟩ = some (.slice none 0 0) := Lib.cell_of_heap g10 2
        have fr0 := Lib.frozen_of_heap hG10 0
        have fr1 := Lib.frozen_of_heap hG10 1
        have fr2 := Lib.frozen_of_heap hG10 2
        clear hD9 hG9 g9 hb9'
        generalize w9.drewN nq = w10 at *
        go_wp2_with fail
        all_goals
          go_roundw
          case rel => exact ⟨k + 1, (y.risen t.keep).loadS, false, ⟨0, 0, []⟩, .slice none 0 0, by omega, by go_num, rfl, ((hD10.setNew wb (by omega) (by omega) _ _).setNew wb (by omega) (by omega) _ _).setNew wb (by omega) (by omega) _ _, hI', set3 hG10 _ _ _, files_nil _ none 0 (by decide), by unfold Hid; simp, ((hb10.setCell (by simp; omega) _).setCell (by simp; omega) _).setCell (by simp; omega) _⟩
          case measure => simp [intOf]; omega
      · simp only [if_true] at hp
        obtain ⟨v', rfl, hF7⟩ := hp
        obtain ⟨A3, n3, rfl, -⟩ := id hFw7
        obtain ⟨A4, n4, rfl, -⟩ := id hF7
        have hr' : rightB was' = true := (hI'.2.2 rfl).2.1
        have hn' : ∀ f ∈ was'.files, f.name.size ≤ 9223372036854775807 := fun f hf => by have := (may_of (right_at hr' hf)).len; omega
        have hD8 := hD7.alloc (.cells #[.int .i64 was'.stage, .int .i64 was'.pass, .slice A4 was'.files.length n4] 31)
        have hb8 := hb7.alloc hb7.size (.cells #[.int .i64 was'.stage, .int .i64 was'.pass, .slice A4 was'.files.length n4] 31)
        have hB8 := (Below.refl _ w7).alloc (Nat.le_refl _) (.cells #[.int .i64 was'.stage, .int .i64 was'.pass, .slice A4 was'.files.length n4] 31)
        have hG8 : (w7.alloc (.cells #[.int .i64 was'.stage, .int .i64 was'.pass, .slice A4 was'.files.length n4] 31)).heap[wb]? = _ := (Below.heap_alloc w7 _ wb hmb7).trans hG7
        have hFw8 := hFw7.below hB8
        have hF8 := hF7.below hB8
        have g8 := heap_alloc_new w7 (.cells #[.int .i64 was'.stage, .int .i64 was'.pass, .slice A4 was'.files.length n4] 31)
        have y0 : w7.cell? ⟨wb, 0, none⟩ = some (.int .i64 was.stage) := Lib.cell_of_heap hG7 0
        have y1 : w7.cell? ⟨wb, 1, none⟩ = some (.int .i64 was.pass) := Lib.cell_of_heap hG7 1
        have y2 : w7.cell? ⟨wb, 2, none⟩ = some (.slice A3 was.files.length n3) := Lib.cell_of_heap hG7 2
        have HN' := Lib.hid hn'
        have HI' := Lib.hid hI'
        clear hD7 hb7 hG7 hFw7 hF7 hB8 hn' hr' hI'
        cases is
        · have HC2 : Hid (er = 0 ∧ was' = t.m ∧ rightB t.m = true) := by
            rcases HC.out with h | h
            · exact ⟨h.1, h.2.2⟩
            · cases h.2.1
          obtain ⟨rfl, rfl, hr⟩ := HC2
          have HR := Lib.hid hr
          clear hr HC
          have z0 : (w7.alloc (.cells #[.int .i64 t.m.stage, .int .i64 t.m.pass, .slice A4 t.m.files.length n4] 31)).cell? ⟨w7.heap.size, 0, none⟩ = some (.int .i64 t.m.stage) := Lib.cell_of_heap g8 0
          have z1 : (w7.alloc (.cells #[.int .i64 t.m.stage, .int .i64 t.m.pass, .slice A4 t.m.files.length n4] 31)).cell? ⟨w7.heap.size, 1, none⟩ = some (.int .i64 t.m.pass) := Lib.cell_of_heap g8 1
          have z2 : (w7.alloc (.cells #[.int .i64 t.m.stage, .int .i64 t.m.pass, .slice A4 t.m.files.length n4] 31)).cell? ⟨w7.heap.size, 2, none⟩ = some (.slice A4 t.m.files.length n4) := Lib.cell_of_heap g8 2
          have e0 := keepCell c0 hb8
          have e1 := keepCell c1 hb8
          have e2 := keepCell c2 hb8
          have hmF := hF.below hb8
          go_wp2_with fail
          generalize w7.alloc (.cells #[.int .i64 t.m.stage, .int .i64 t.m.pass, .slice A4 t.m.files.length n4] 31) = w8 at *
          have hbd := (Below.refl w8.heap.size w8).drew
          go_region_held3 (fun w' => (w'.cell? (ad.add (k * 5)) = some (.int .i64 t.m.stage) ∧ w'.cell? ⟨(ad.add (k * 5)).block, (ad.add (k * 5)).off + 1, none⟩ = some (.int .i64 t.m.pass) ∧ w'.cell? ⟨(ad.add (k * 5)).block, (ad.add (k * 5)).off + 2, none⟩ = some (.slice A1 t.m.files.length n1) ∧ w'.cell? ⟨w7.heap.size, 0, none⟩ = some (.int .i64 t.m.stage) ∧ w'.cell? ⟨w7.heap.size, 1, none⟩ = some (.int .i64 t.m.pass) ∧ w'.cell? ⟨w7.heap.size, 2, none⟩ = some (.slice A4 t.m.files.length n4)))
            (first | go_keep | (go_split_ands; refine ⟨keepCell ?_ hb9, keepCell ?_ hb9, keepCell ?_ hb9, keepCell ?_ hb9, keepCell ?_ hb9, keepCell ?_ hb9⟩ <;> assumption) | (go_split_ands; refine ⟨keepCell ?_ hb10, keepCell ?_ hb10, keepCell ?_ hb10, keepCell ?_ hb10, keepCell ?_ hb10, keepCell ?_ hb10⟩ <;> assumption))
            (first | (go_at_call 13; refine (rmright_any t.m _ _ (hmF.below hbd) hnm.out).mono ?_; rw [HR.out]; rintro e w9 ⟨rfl, hb9⟩) | (go_at_call 12; refine (same_any t.m t.m _ _ _ (hF8.below (keepBelow hbd hb9)) (hmF.below (keepBelow hbd hb9))).mono ?_; rw [sameB_self]; rintro e w10 ⟨rfl, hb10⟩))
          have hbA := keepBelow (keepBelow hbd hb9) hb10
          have hD11 := hD8.below hbA
          have hb11 := keepBelow hb8 hbA
          have hG11 : w10.heap[wb]? = _ := (hbA.block _ (heap_lt hG8)).trans hG8
          have g11 : w10.heap[w7.heap.size]? = _ := (hbA.block _ (heap_lt g8)).trans g8
          have hF11 := hF8.below hbA
          have y0 : w10.cell? ⟨wb, 0, none⟩ = _ := Lib.cell_of_heap hG11 0
          have y1 : w10.cell? ⟨wb, 1, none⟩ = _ := Lib.cell_of_heap hG11 1
          have y2 : w10.cell? ⟨wb, 2, none⟩ = _ := Lib.cell_of_heap hG11 2
          have z0 : w10.cell? ⟨w7.heap.size, 0, none⟩ = some (.int .i64 t.m.stage) := Lib.cell_of_heap g11 0
          have z1 : w10.cell? ⟨w7.heap.size, 1, none⟩ = some (.int .i64 t.m.pass) := Lib.cell_of_heap g11 1
          have z2 : w10.cell? ⟨w7.heap.size, 2, none⟩ = some (.slice A4 t.m.files.length n4) := Lib.cell_of_heap g11 2
          have fr0 := Lib.frozen_of_heap hG11 0
          have fr1 := Lib.frozen_of_heap hG11 1
          have fr2 := Lib.frozen_of_heap hG11 2
          generalize w7.heap.size = nb at *
          clear hD8 hb8 hG8 hFw8 hF8 g8 e0 e1 e2 hbd hb9 hb10 hbA hmF
          go_wp2_with fail
          all_goals
            go_roundw
            case rel => exact ⟨k + 1, (y.risen t.keep).loadS, true, t.m, .slice A4 t.m.files.length n4, by omega, by go_num, rfl, ((hD11.setNew wb (by omega) (by omega) _ _).setNew wb (by omega) (by omega) _ _).setNew wb (by omega) (by omega) _ _, HI'.out, set3 hG11 _ _ _, hF11.setAt hG11 _ _ _, HN', ((hb11.setCell (by simp; omega) _).setCell (by simp; omega) _).setCell (by simp; omega) _⟩
            case measure => simp [intOf]; omega
        · have HC2 : Hid ((er = 0 ∧ rightB t.m = true ∧ sameB was' t.m = true) ∨ (er ≠ 0 ∧ sameB was' was = true)) := by
            rcases HC.out with h | h
            · exact .inl ⟨h.1, h.2.2.2, by rw [h.2.2.1]; exact sameB_self _⟩
            · exact .inr ⟨h.1, by rw [h.2.2]; exact sameB_self _⟩
          clear HC
          have z0 : (w7.alloc (.cells #[.int .i64 was'.stage, .int .i64 was'.pass, .slice A4 was'.files.length n4] 31)).cell? ⟨w7.heap.size, 0, none⟩ = some (.int .i64 was'.stage) := Lib.cell_of_heap g8 0
          have z1 : (w7.alloc (.cells #[.int .i64 was'.stage, .int .i64 was'.pass, .slice A4 was'.files.length n4] 31)).cell? ⟨w7.heap.size, 1, none⟩ = some (.int .i64 was'.pass) := Lib.cell_of_heap g8 1
          have z2 : (w7.alloc (.cells #[.int .i64 was'.stage, .int .i64 was'.pass, .slice A4 was'.files.length n4] 31)).cell? ⟨w7.heap.size, 2, none⟩ = some (.slice A4 was'.files.length n4) := Lib.cell_of_heap g8 2
          have e0 := keepCell c0 hb8
          have e1 := keepCell c1 hb8
          have e2 := keepCell c2 hb8
          have hmF := hF.below hb8
          go_wp2_with fail
          generalize w7.alloc (.cells #[.int .i64 was'.stage, .int .i64 was'.pass, .slice A4 was'.files.length n4] 31) = w8 at *
          refine (same_any was' was _ _ _ hF8 hFw8).mono ?_
          generalize sameB was' was = p at *
          rintro e w9 ⟨rfl, hb9⟩
          have hD9 := hD8.below hb9
          have hbx := keepBelow hb8 hb9
          have hG9 : w9.heap[wb]? = _ := (hb9.block _ (heap_lt hG8)).trans hG8
          have g9 : w9.heap[w7.heap.size]? = _ := (hb9.block _ (heap_lt g8)).trans g8
          have hF9 := hF8.below hb9
          have hmF9 := hmF.below hb9
          replace e0 := keepCell c0 hbx
          replace e1 := keepCell c1 hbx
          replace e2 := keepCell c2 hbx
          replace z0 : w9.cell? ⟨w7.heap.size, 0, none⟩ = some (.int .i64 was'.stage) := Lib.cell_of_heap g9 0
          replace z1 : w9.cell? ⟨w7.heap.size, 1, none⟩ = some (.int .i64 was'.pass) := Lib.cell_of_heap g9 1
          replace z2 : w9.cell? ⟨w7.heap.size, 2, none⟩ = some (.slice A4 was'.files.length n4) := Lib.cell_of_heap g9 2
          clear hD8 hb8 hG8 hF8 hFw8 g8 hmF hb9 y0 y1 y2
          have hbd := (Below.refl w9.heap.size w9).drew
          have hfin : ∀ (W : World), Below w9.heap.size w9 W → IsDisk W d m (y.risen t.keep).loadS ∧ Below w.heap.size w W ∧ W.heap[wb]? = some (Obj.cells #[Value.int IntKind.i64 was.stage, Value.int IntKind.i64 was.pass, Value.slice A3 was.files.length n3] 31 (0, 0)) ∧ W.heap[w7.heap.size]? = some (Obj.cells #[Value.int IntKind.i64 was'.stage, Value.int IntKind.i64 was'.pass, Value.slice A4 was'.files.length n4] 31 (0, 0)) ∧ Files W (.slice A4 was'.files.length n4) was'.files :=
            fun W hW => ⟨hD9.below hW, keepBelow hbx hW, (hW.block _ (heap_lt hG9)).trans hG9, (hW.block _ (heap_lt g9)).trans g9, hF9.below hW⟩
          have HFIN := Lib.hid hfin
          clear hfin hD9 hG9 g9
          cases hrr : rightB t.m
          · obtain ⟨he, rfl⟩ : er ≠ 0 ∧ p = true := by
              rcases HC2.out with h | h
              · rw [hrr] at h; cases h.2.1
              · exact h
            have HR := Lib.hid hrr
            clear hrr HC2
            go_wp2_with fail
            refine wp_region_held_drew (S := fun w' => w'.cell? (ad.add (k * 5)) = some (.int .i64 t.m.stage) ∧ w'.cell? ⟨(ad.add (k * 5)).block, (ad.add (k * 5)).off + 1, none⟩ = some (.int .i64 t.m.pass) ∧ w'.cell? ⟨(ad.add (k * 5)).block, (ad.add (k * 5)).off + 2, none⟩ = some (.slice A1 t.m.files.length n1)) (by kernel_rfl) (by exact ⟨e0, e1, e2⟩) (fun hHeld => ?_)
            try simp only [Act.put, List.setIfInBounds_toArray, List.set_cons_zero, List.set_cons_succ]
            refine wpAnyH_take (i := 0) (oi := ⟨some 68, _, _, _, _, _⟩) (v := .bool true) rfl (by kernel_rfl) (by kernel_rfl) (by kernel_rfl) (fun _ _ _ h => h) (Or.inl ⟨by rfl, fun w _ => by go_simp⟩) (by assumption) ?_
            try simp only [Act.put, List.setIfInBounds_toArray, List.set_cons_zero, List.set_cons_succ]
            refine wpAnyH_take (i := 1) (oi := ⟨some 69, _, _, _, _, _⟩) (v := .bool true) rfl (by kernel_rfl) (by kernel_rfl) (by kernel_rfl) (fun _ _ _ h => h) (Or.inl ⟨by rfl, fun w _ => by go_simp⟩) (by assumption) ?_
            try simp only [Act.put, List.setIfInBounds_toArray, List.set_cons_zero, List.set_cons_succ]
            refine wpAnyH_take (i := 2) (oi := ⟨some 70, _, _, _, _, _⟩) (v := .slice (some ad) l.length c) rfl (by kernel_rfl) (by kernel_rfl) (by kernel_rfl) (fun _ _ _ h => h) (Or.inl ⟨by rfl, fun w _ => by go_simp⟩) (by assumption) ?_
            try simp only [Act.put, List.setIfInBounds_toArray, List.set_cons_zero, List.set_cons_succ]
            refine wpAnyH_take (i := 3) (oi := ⟨some 71, _, _, _, _, _⟩) (v := .int .i64 k) rfl (by kernel_rfl) (by kernel_rfl) (by kernel_rfl) (fun _ _ _ h => h) (Or.inl ⟨by rfl, fun w _ => by go_simp⟩) (by assumption) ?_
            try simp only [Act.put, List.setIfInBounds_toArray, List.set_cons_zero, List.set_cons_succ]
            refine wpAnyH_take (i := 4) (oi := ⟨some 72, _, _, _, _, _⟩) (v := .pointer (some (ad.add (k * 5)))) rfl (by kernel_rfl) (by kernel_rfl) (by kernel_rfl) (fun _ _ _ h => h) (Or.inl ⟨by rfl, fun w _ => by go_simp⟩) (by assumption) ?_
            try simp only [Act.put, List.setIfInBounds_toArray, List.set_cons_zero, List.set_cons_succ]
            refine wpAnyH_take (i := 5) (oi := ⟨some 73, _, _, _, _, _⟩) (v := .pointer (some (ad.add (k * 5)))) rfl (by kernel_rfl) (by kernel_rfl) (by kernel_rfl) (fun _ _ _ h => h) (Or.inl ⟨by rfl, fun w _ => by go_simp⟩) (by assumption) ?_
            try simp only [Act.put, List.setIfInBounds_toArray, List.set_cons_zero, List.set_cons_succ]
            refine wpAnyH_ready (rs := [6]) (by kernel_rfl) (by simp) ?_
            refine AllReadyH.cons rfl (fun K hK => ?_) AllReadyH.nil
            go_simp
            refine hK.out _ _ ⟨e0, e1, e2⟩ (fun hHeld => ?_)
            clear hK K
            try simp only [Act.put, List.setIfInBounds_toArray, List.set_cons_zero, List.set_cons_succ]
            refine wpAnyH_ready (rs := [7]) (by kernel_rfl) (by simp) ?_
            refine AllReadyH.cons rfl (fun K hK => ?_) AllReadyH.nil
            go_simp
            refine (rmright_any t.m _ _ (hmF9.below hbd) hnm.out).mono ?_
            rw [HR.out]
            rintro e wA ⟨rfl, hb9⟩
            refine hK.out _ _ ⟨keepCell e0 (keepBelow hbd hb9), keepCell e1 (keepBelow hbd hb9), keepCell e2 (keepBelow hbd hb9)⟩ (fun hHeld => ?_)
            clear hK K
            try simp only [Act.put, List.setIfInBounds_toArray, List.set_cons_zero, List.set_cons_succ]
            refine wpAnyH_take (i := 8) (oi := ⟨some 76, _, _, _, _, _⟩) (v := .bool false) rfl (by kernel_rfl) (by kernel_rfl) (by kernel_rfl) (fun _ _ _ h => h) (Or.inl ⟨by rfl, fun w _ => by go_simp⟩) (by assumption) ?_
            try simp only [Act.put, List.setIfInBounds_toArray, List.set_cons_zero, List.set_cons_succ]
            refine wpAnyH_take (i := 9) (oi := ⟨some 77, _, _, _, _, _⟩) (v := .bool false) rfl (by kernel_rfl) (by kernel_rfl) (by kernel_rfl) (fun _ _ _ h => h) (Or.inl ⟨by rfl, fun w _ => by go_simp⟩) (by assumption) ?_
            try simp only [Act.put, List.setIfInBounds_toArray, List.set_cons_zero, List.set_cons_succ]
            refine wpAnyH_take (i := 10) (oi := ⟨some 78, _, _, _, _, _⟩) (v := undef) rfl (by kernel_rfl) (by kernel_rfl) (by kernel_rfl) (fun _ _ _ h => h) (Or.inr ⟨by rfl, rfl⟩) (by assumption) ?_
            try simp only [Act.put, List.setIfInBounds_toArray, List.set_cons_zero, List.set_cons_succ]
            refine wpAnyH_take (i := 11) (oi := ⟨some 79, _, _, _, _, _⟩) (v := undef) rfl (by kernel_rfl) (by kernel_rfl) (by kernel_rfl) (fun _ _ _ h => h) (Or.inr ⟨by rfl, rfl⟩) (by assumption) ?_
            try simp only [Act.put, List.setIfInBounds_toArray, List.set_cons_zero, List.set_cons_succ]
            refine wpAnyH_take (i := 12) (oi := ⟨some 80, _, _, _, _, _⟩) (v := undef) rfl (by kernel_rfl) (by kernel_rfl) (by kernel_rfl) (fun _ _ _ h => h) (Or.inr ⟨by rfl, rfl⟩) (by assumption) ?_
            try simp only [Act.put, List.setIfInBounds_toArray, List.set_cons_zero, List.set_cons_succ]
            refine wpAnyH_take (i := 13) (oi := ⟨some 81, _, _, _, _, _⟩) (v := undef) rfl (by kernel_rfl) (by kernel_rfl) (by kernel_rfl) (fun _ _ _ h => h) (Or.inr ⟨by rfl, rfl⟩) (by assumption) ?_
            try simp only [Act.put, List.setIfInBounds_toArray, List.set_cons_zero, List.set_cons_succ]
            refine wpAnyH_take (i := 14) (oi := ⟨some 82, _, _, _, _, _⟩) (v := undef) rfl (by kernel_rfl) (by kernel_rfl) (by kernel_rfl) (fun _ _ _ h => h) (Or.inr ⟨by rfl, rfl⟩) (by assumption) ?_
            try simp only [Act.put, List.setIfInBounds_toArray, List.set_cons_zero, List.set_cons_succ]
            refine wpAnyH_take (i := 15) (oi := ⟨some 83, _, _, _, _, _⟩) (v := undef) rfl (by kernel_rfl) (by kernel_rfl) (by kernel_rfl) (fun _ _ _ h => h) (Or.inr ⟨by rfl, rfl⟩) (by assumption) ?_
            try simp only [Act.put, List.setIfInBounds_toArray, List.set_cons_zero, List.set_cons_succ]
            refine wpAnyH_take (i := 16) (oi := ⟨some 84, _, _, _, _, _⟩) (v := undef) rfl (by kernel_rfl) (by kernel_rfl) (by kernel_rfl) (fun _ _ _ h => h) (Or.inr ⟨by rfl, rfl⟩) (by assumption) ?_
            try simp only [Act.put, List.setIfInBounds_toArray, List.set_cons_zero, List.set_cons_succ]
            refine wpAnyH_take (i := 17) (oi := ⟨some 85, _, _, _, _, _⟩) (v := .bool false) rfl (by kernel_rfl) (by kernel_rfl) (by kernel_rfl) (fun _ _ _ h => h) (Or.inl ⟨by rfl, fun w _ => by go_simp⟩) (by assumption) ?_
            try simp only [Act.put, List.setIfInBounds_toArray, List.set_cons_zero, List.set_cons_succ]
            refine wpAnyH_take (i := 18) (oi := ⟨some 13, _, _, _, _, _⟩) (v := .bool false) rfl (by kernel_rfl) (by kernel_rfl) (by kernel_rfl) (fun _ _ _ h => h) (Or.inl ⟨by rfl, fun w _ => by go_simp⟩) (by assumption) ?_
            try simp only [Act.put, List.setIfInBounds_toArray, List.set_cons_zero, List.set_cons_succ]
            refine wpAnyH_done (by kernel_rfl) ?_ _
            have hbA := keepBelow hbd hb9
            obtain ⟨hD11, hb11, hG11, g11, hF11⟩ := HFIN.out wA hbA
            clear HFIN z0 z1 z2 e0 e1 e2 hbd hb9 hbA hmF9 hF9 hbx HR hHeld
            have y0 : wA.cell? ⟨wb, 0, none⟩ = _ := Lib.cell_of_heap hG11 0
            have y1 : wA.cell? ⟨wb, 1, none⟩ = _ := Lib.cell_of_heap hG11 1
            have y2 : wA.cell? ⟨wb, 2, none⟩ = _ := Lib.cell_of_heap hG11 2
            have z0 : wA.cell? ⟨w7.heap.size, 0, none⟩ = some (.int .i64 was'.stage) := Lib.cell_of_heap g11 0
            have z1 : wA.cell? ⟨w7.heap.size, 1, none⟩ = some (.int .i64 was'.pass) := Lib.cell_of_heap g11 1
            have z2 : wA.cell? ⟨w7.heap.size, 2, none⟩ = some (.slice A4 was'.files.length n4) := Lib.cell_of_heap g11 2
            have fr0 := Lib.frozen_of_heap hG11 0
            have fr1 := Lib.frozen_of_heap hG11 1
            have fr2 := Lib.frozen_of_heap hG11 2
            generalize w7.heap.size = nb at *
            clear g11
            all_goals go_wp2_with fail
            all_goals
              go_roundw
              case rel => exact ⟨k + 1, (y.risen t.keep).loadS, true, was', .slice A4 was'.files.length n4, by omega, by go_num, rfl, ((hD11.setNew wb (by omega) (by omega) _ _).setNew wb (by omega) (by omega) _ _).setNew wb (by omega) (by omega) _ _, HI'.out, set3 hG11 _ _ _, hF11.setAt hG11 _ _ _, HN', ((hb11.setCell (by simp; omega) _).setCell (by simp; omega) _).setCell (by simp; omega) _⟩
              case measure => simp [intOf]; omega
          · have HR := Lib.hid hrr
            clear hrr
            generalize hqq : sameB was' t.m = q at *
            have HQ := Lib.hid hqq
            clear hqq
            go_wp2_with fail
            go_region_held3 (fun w' => (w'.cell? (ad.add (k * 5)) = some (.int .i64 t.m.stage) ∧ w'.cell? ⟨(ad.add (k * 5)).block, (ad.add (k * 5)).off + 1, none⟩ = some (.int .i64 t.m.pass) ∧ w'.cell? ⟨(ad.add (k * 5)).block, (ad.add (k * 5)).off + 2, none⟩ = some (.slice A1 t.m.files.length n1) ∧ w'.cell? ⟨w7.heap.size, 0, none⟩ = some (.int .i64 was'.stage) ∧ w'.cell? ⟨w7.heap.size, 1, none⟩ = some (.int .i64 was'.pass) ∧ w'.cell? ⟨w7.heap.size, 2, none⟩ = some (.slice A4 was'.files.length n4)))
              (first | go_keep | (go_split_ands; refine ⟨keepCell ?_ hb9, keepCell ?_ hb9, keepCell ?_ hb9, keepCell ?_ hb9, keepCell ?_ hb9, keepCell ?_ hb9⟩ <;> assumption) | (go_split_ands; refine ⟨keepCell ?_ hb10, keepCell ?_ hb10, keepCell ?_ hb10, keepCell ?_ hb10, keepCell ?_ hb10, keepCell ?_ hb10⟩ <;> assumption))
              (first | (go_at_call 13; refine (rmright_any t.m _ _ (hmF9.below hbd) hnm.out).mono ?_; rw [HR.out]; rintro e wA ⟨rfl, hb9⟩) | (go_at_call 12; refine (same_any was' t.m _ _ _ (hF9.below (keepBelow hbd hb9)) (hmF9.below (keepBelow hbd hb9))).mono ?_; rw [HQ.out]; rintro e wB ⟨rfl, hb10⟩))
            have hbA := keepBelow (keepBelow hbd hb9) hb10
            obtain ⟨hD11, hb11, hG11, g11, hF11⟩ := HFIN.out wB hbA
            clear HFIN z0 z1 z2 e0 e1 e2 hbd hb9 hb10 hbA hmF9 hF9 hbx HR HQ
            have y0 : wB.cell? ⟨wb, 0, none⟩ = _ := Lib.cell_of_heap hG11 0
            have y1 : wB.cell? ⟨wb, 1, none⟩ = _ := Lib.cell_of_heap hG11 1
            have y2 : wB.cell? ⟨wb, 2, none⟩ = _ := Lib.cell_of_heap hG11 2
            have z0 : wB.cell? ⟨w7.heap.size, 0, none⟩ = some (.int .i64 was'.stage) := Lib.cell_of_heap g11 0
            have z1 : wB.cell? ⟨w7.heap.size, 1, none⟩ = some (.int .i64 was'.pass) := Lib.cell_of_heap g11 1
            have z2 : wB.cell? ⟨w7.heap.size, 2, none⟩ = some (.slice A4 was'.files.length n4) := Lib.cell_of_heap g11 2
            have fr0 := Lib.frozen_of_heap hG11 0
            have fr1 := Lib.frozen_of_heap hG11 1
            have fr2 := Lib.frozen_of_heap hG11 2
            generalize w7.heap.size = nb at *
            clear g11
            have HC3 : Hid ((er = 0 ∧ q = true) ∨ (er ≠ 0 ∧ p = true)) := by
              rcases HC2.out with h | h
              · exact .inl ⟨h.1, h.2.2⟩
              · exact .inr h
            clear HC2
            rcases HC3.out with ⟨rfl, rfl⟩ | ⟨he, rfl⟩
            case' inl => cases p
            case' inr => cases q
            all_goals clear HC3
            all_goals go_wp2_with fail
            all_goals
              go_roundw
              case rel => exact ⟨k + 1, (y.risen t.keep).loadS, true, was', .slice A4 was'.files.length n4, by omega, by go_num, rfl, ((hD11.setNew wb (by omega) (by omega) _ _).setNew wb (by omega) (by omega) _ _).setNew wb (by omega) (by omega) _ _, HI'.out, set3 hG11 _ _ _, hF11.setAt hG11 _ _ _, HN', ((hb11.setCell (by simp; omega) _).setCell (by simp; omega) _).setCell (by simp; omega) _⟩
              case measure => simp [intOf]; omega
    · obtain rfl : k = l.length := by omega
      go_wp2_with fail
      refine (awake_any _).mono ?_
      rintro e w4 ⟨rfl, hb4⟩
      go_wp2
      go_ret
      exact ⟨rfl, keepBelow hbr hb4⟩
end Go.Proofs.Ytdmmfeglnmkmdaa
