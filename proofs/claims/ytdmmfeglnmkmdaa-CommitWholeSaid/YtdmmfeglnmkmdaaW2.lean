/- commit.Save: what it answers, and what it leaves. -/
import Derived.Test.YtdmmfeglnmkmdaaW1
namespace Go.Proofs.Ytdmmfeglnmkmdaa
open Go.RowKit Plain

/-- What Save answers and leaves. -/
def Dk.saved (x : Dk) (m : Mf) : Int × Dk := if rightB m = true then x.saveR ⟨(closeL (manB m)).toArray⟩ 0 5 else (1, x)
def funA (b2 b5 : Nat) : Array Value := #[.func (.func 30) #[] #[.pointer (some ⟨b2, 0, none⟩)], .func (.func 32) #[] #[.pointer (some ⟨b2, 0, none⟩)], .func (.func 34) #[] #[.pointer (some ⟨b2, 0, none⟩), .pointer (some ⟨b5, 0, none⟩)],
  .func (.func 36) #[] #[.pointer (some ⟨b2, 0, none⟩)], .func (.func 38) #[] #[.pointer (some ⟨b2, 0, none⟩)]]
theorem saveR_step (x : Dk) (s : ByteArray) (k n : Nat) (h : (x.stepR s k).1 = 0) : x.saveR s k (n + 1) = (x.stepR s k).2.saveR s (k + 1) n := by
  show (if (x.stepR s k).1 = 0 then _ else _) = _
  rw [if_pos h]
theorem saveR_stop (x : Dk) (s : ByteArray) (k n : Nat) (h : ¬ (x.stepR s k).1 = 0) : x.saveR s k (n + 1) = x.stepR s k := by
  show (if (x.stepR s k).1 = 0 then _ else _) = _
  rw [if_neg h]
set_option maxHeartbeats 3200000 in
set_option maxRecDepth 100000 in
theorem save_yes (d m : Nat) (x : Dk) (mf : Mf) (v : Value) (w : World) (h : IsDisk w d m x) (hf : Files w v mf.files) (hw : mf.wf) (hr : rightB mf = true) :
    Calls Try.prog 9 #[.pointer (some ⟨d, 0, none⟩), .agg #[.int .i64 mf.stage, .int .i64 mf.pass, v]] w fun e w' => e = .returned (.int .i64 (x.saved mf).1) ∧ IsDisk w' d m (x.saved mf).2 ∧ Turn d m w w' := by
  have hmf : ∀ (fn : Fn) (first cap : Array Value) (w : World), (Instr.makeFunc fn first cap).run Try.prog w = .ok (.func fn first cap) w := fun _ _ _ _ => rfl
  have hS : Hid (x.saved mf = x.saveR ⟨(closeL (manB mf)).toArray⟩ 0 5) := by unfold Hid Dk.saved; rw [if_pos hr]
  obtain ⟨A, c, rfl, h1, h2, h3⟩ := id hf
  unfold maxLen at h2
  clear h3
  have hfb := hf.below (((Below.refl _ w).alloc (Nat.le_refl _) (.cells #[.pointer (some ⟨d, 0, none⟩)] 25)).alloc (by simp) (.cells #[.int .i64 mf.stage, .int .i64 mf.pass, .slice A mf.files.length c] 31))
  have T0 := ((Turn.refl d m w).alloc (.cells #[.pointer (some ⟨d, 0, none⟩)] 25)).alloc (.cells #[.int .i64 mf.stage, .int .i64 mf.pass, .slice A mf.files.length c] 31)
  have hd0 := (h.alloc (.cells #[.pointer (some ⟨d, 0, none⟩)] 25)).alloc (.cells #[.int .i64 mf.stage, .int .i64 mf.pass, .slice A mf.files.length c] 31)
  have hbx : ((w.alloc (.cells #[.pointer (some ⟨d, 0, none⟩)] 25)).alloc (.cells #[.int .i64 mf.stage, .int .i64 mf.pass, .slice A mf.files.length c] 31)).heap[w.heap.size]? = some (.cells #[.pointer (some ⟨d, 0, none⟩)] 25 (0, 0)) :=
    (Below.heap_alloc _ _ w.heap.size (by simp)).trans (heap_alloc_new w _)
  have HR := Lib.hid hr
  have hd := h.ltd
  have hm := h.ltm
  have hne := h.ne
  clear hr h
  go_enter Try.func9, Try.ntmps9
  go_wp2_with fail
  generalize (w.alloc (.cells #[.pointer (some ⟨d, 0, none⟩)] 25)).alloc (.cells #[.int .i64 mf.stage, .int .i64 mf.pass, .slice A mf.files.length c] 31) = W at *
  refine (mput_yes mf _ _ hfb hw HR.out).mono ?_
  rintro e w1 ⟨rfl, hb1⟩
  have hd1 := hd0.below hb1
  have T1 := T0.trans (Turn.of_below hb1)
  have hbx1 := (hb1.block _ (heap_lt hbx)).trans hbx
  generalize (⟨(closeL (manB mf)).toArray⟩ : ByteArray) = s at *
  clear hd0 T0 hbx hfb hb1
  have hlt1 := heap_lt hbx1
  have hd2 := (hd1.alloc (.cells #[.string s] 9)).alloc (.cells (funA w.heap.size w1.heap.size) 69)
  have T2 := (T1.alloc (.cells #[.string s] 9)).alloc (.cells (funA w.heap.size w1.heap.size) 69)
  have hbx2 : ((w1.alloc (.cells #[.string s] 9)).alloc (.cells (funA w.heap.size w1.heap.size) 69)).heap[w.heap.size]? = _ := (Below.heap_alloc _ _ w.heap.size (by simp; omega)).trans ((Below.heap_alloc w1 _ w.heap.size hlt1).trans hbx1)
  have hst2 : ((w1.alloc (.cells #[.string s] 9)).alloc (.cells (funA w.heap.size w1.heap.size) 69)).heap[w1.heap.size]? = some (.cells #[.string s] 9 (0, 0)) := (Below.heap_alloc _ _ w1.heap.size (by simp)).trans (heap_alloc_new w1 _)
  have hfn2 : ((w1.alloc (.cells #[.string s] 9)).alloc (.cells (funA w.heap.size w1.heap.size) 69)).heap[w1.heap.size + 1]? = some (.cells (funA w.heap.size w1.heap.size) 69 (0, 0)) := by
    have := heap_alloc_new (w1.alloc (.cells #[.string s] 9)) (.cells (funA w.heap.size w1.heap.size) 69)
    simpa using this
  have hT1 := T1.size
  unfold funA at hd2 T2 hbx2 hst2 hfn2
  clear hd1 T1 hbx1
  go_wp2_with fail
  generalize (w1.alloc (.cells #[.string s] 9)).alloc (.cells #[.func (.func 30) #[] #[.pointer (some ⟨w.heap.size, 0, none⟩)], .func (.func 32) #[] #[.pointer (some ⟨w.heap.size, 0, none⟩)], .func (.func 34) #[] #[.pointer (some ⟨w.heap.size, 0, none⟩), .pointer (some ⟨w1.heap.size, 0, none⟩)], .func (.func 36) #[] #[.pointer (some ⟨w.heap.size, 0, none⟩)], .func (.func 38) #[] #[.pointer (some ⟨w.heap.size, 0, none⟩)]] 69) = W2 at *
  go_loopw [26] (fun i wr => ∃ (k : Nat) (y : Dk), k ≤ 5 ∧ i = .int .i64 k ∧ Hid (x.saved mf = y.saveR s k (5 - k)) ∧ IsDisk wr d m y ∧ Turn d m w wr ∧ Turn d m W2 wr) (fun i _ => 5 - (intOf i).toNat)
  case atStart => exact ⟨0, x, by omega, rfl, hS, hd2, T2, Turn.refl _ _ _⟩
  case round =>
    rename_i wr _
    clear hd2 T2
    obtain ⟨k, y, hk, rfl, hrel, hy, T, TW⟩ := hrel
    have qd : wr.cell? ⟨w.heap.size, 0, none⟩ = some (.pointer (some ⟨d, 0, none⟩)) := Lib.cell_of_heap (TW.kept hbx2 (by omega) (by omega)) 0
    have qs : wr.cell? ⟨w1.heap.size, 0, none⟩ = some (.string s) := Lib.cell_of_heap (TW.kept hst2 (by omega) (by omega)) 0
    have hfn := TW.kept hfn2 (by omega) (by omega)
    have f0 : wr.cell? ⟨w1.heap.size + 1, 0, none⟩ = _ := Lib.cell_of_heap hfn 0
    have f1 : wr.cell? ⟨w1.heap.size + 1, 1, none⟩ = _ := Lib.cell_of_heap hfn 1
    have f2 : wr.cell? ⟨w1.heap.size + 1, 2, none⟩ = _ := Lib.cell_of_heap hfn 2
    have f3 : wr.cell? ⟨w1.heap.size + 1, 3, none⟩ = _ := Lib.cell_of_heap hfn 3
    have f4 : wr.cell? ⟨w1.heap.size + 1, 4, none⟩ = _ := Lib.cell_of_heap hfn 4
    clear hbx2 hst2 hfn2 hfn
    simp only [List.getElem?_toArray, List.getElem?_cons_zero, List.getElem?_cons_succ] at f0 f1 f2 f3 f4
    have hc : k = 0 ∨ k = 1 ∨ k = 2 ∨ k = 3 ∨ k = 4 ∨ k = 5 := by omega
    rcases hc with rfl | rfl | rfl | rfl | rfl | rfl
    · clear f1 f2 f3 f4
      go_wp2_with fail
      refine (clo0_any w.heap.size d m y s _ hy qd).mono ?_
      have hst := saveR_step y s 0 4
      have hsp := saveR_stop y s 0 4
      generalize y.stepR s 0 = r at *
      obtain ⟨er, z⟩ := r
      simp only at hst hsp ⊢
      rintro e w3 ⟨rfl, h3, T3⟩
      have T4 := T.trans T3
      have T5 := TW.trans T3
      by_cases he : er = 0
      · have hn : Hid (x.saved mf = z.saveR s 1 (5 - 1)) := by unfold Hid; rw [hrel.out]; exact hst he
        subst he
        clear hst hsp f0 hrel
        go_wp2_with fail
        go_roundw
        case rel => exact ⟨1, z, by omega, rfl, hn, h3, T4, T5⟩
        case measure => simp [intOf]
      · have hn : Hid (x.saved mf = (er, z)) := by unfold Hid; rw [hrel.out]; exact hsp he
        have hne1 : (er != 0) = true := by simpa using he
        clear hst hsp f0 hrel he
        go_wp2_with fail
        go_ret
        exact ⟨by rw [hn.out]; rfl, by rw [hn.out]; exact h3, T4⟩
    · clear f0 f2 f3 f4
      go_wp2_with fail
      refine (clo1_any w.heap.size d m y s _ hy qd).mono ?_
      have hst := saveR_step y s 1 3
      have hsp := saveR_stop y s 1 3
      generalize y.stepR s 1 = r at *
      obtain ⟨er, z⟩ := r
      simp only at hst hsp ⊢
      rintro e w3 ⟨rfl, h3, T3⟩
      have T4 := T.trans T3
      have T5 := TW.trans T3
      by_cases he : er = 0
      · have hn : Hid (x.saved mf = z.saveR s 2 (5 - 2)) := by unfold Hid; rw [hrel.out]; exact hst he
        subst he
        clear hst hsp f1 hrel
        go_wp2_with fail
        go_roundw
        case rel => exact ⟨2, z, by omega, rfl, hn, h3, T4, T5⟩
        case measure => simp [intOf]
      · have hn : Hid (x.saved mf = (er, z)) := by unfold Hid; rw [hrel.out]; exact hsp he
        have hne1 : (er != 0) = true := by simpa using he
        clear hst hsp f1 hrel he
        go_wp2_with fail
        go_ret
        exact ⟨by rw [hn.out]; rfl, by rw [hn.out]; exact h3, T4⟩
    · clear f0 f1 f3 f4
      go_wp2_with fail
      refine (clo2_any w.heap.size w1.heap.size d m y s _ hy qd qs).mono ?_
      have hst := saveR_step y s 2 2
      have hsp := saveR_stop y s 2 2
      generalize y.stepR s 2 = r at *
      obtain ⟨er, z⟩ := r
      simp only at hst hsp ⊢
      rintro e w3 ⟨rfl, h3, T3⟩
      have T4 := T.trans T3
      have T5 := TW.trans T3
      by_cases he : er = 0
      · have hn : Hid (x.saved mf = z.saveR s 3 (5 - 3)) := by unfold Hid; rw [hrel.out]; exact hst he
        subst he
        clear hst hsp f2 hrel
        go_wp2_with fail
        go_roundw
        case rel => exact ⟨3, z, by omega, rfl, hn, h3, T4, T5⟩
        case measure => simp [intOf]
      · have hn : Hid (x.saved mf = (er, z)) := by unfold Hid; rw [hrel.out]; exact hsp he
        have hne1 : (er != 0) = true := by simpa using he
        clear hst hsp f2 hrel he
        go_wp2_with fail
        go_ret
        exact ⟨by rw [hn.out]; rfl, by rw [hn.out]; exact h3, T4⟩
    · clear f0 f1 f2 f4
      go_wp2_with fail
      refine (clo3_any w.heap.size d m y s _ hy qd).mono ?_
      have hst := saveR_step y s 3 1
      have hsp := saveR_stop y s 3 1
      generalize y.stepR s 3 = r at *
      obtain ⟨er, z⟩ := r
      simp only at hst hsp ⊢
      rintro e w3 ⟨rfl, h3, T3⟩
      have T4 := T.trans T3
      have T5 := TW.trans T3
      by_cases he : er = 0
      · have hn : Hid (x.saved mf = z.saveR s 4 (5 - 4)) := by unfold Hid; rw [hrel.out]; exact hst he
        subst he
        clear hst hsp f3 hrel
        go_wp2_with fail
        go_roundw
        case rel => exact ⟨4, z, by omega, rfl, hn, h3, T4, T5⟩
        case measure => simp [intOf]
      · have hn : Hid (x.saved mf = (er, z)) := by unfold Hid; rw [hrel.out]; exact hsp he
        have hne1 : (er != 0) = true := by simpa using he
        clear hst hsp f3 hrel he
        go_wp2_with fail
        go_ret
        exact ⟨by rw [hn.out]; rfl, by rw [hn.out]; exact h3, T4⟩
    · clear f0 f1 f2 f3
      go_wp2_with fail
      refine (clo4_any w.heap.size d m y s _ hy qd).mono ?_
      have hst := saveR_step y s 4 0
      have hsp := saveR_stop y s 4 0
      generalize y.stepR s 4 = r at *
      obtain ⟨er, z⟩ := r
      simp only at hst hsp ⊢
      rintro e w3 ⟨rfl, h3, T3⟩
      have T4 := T.trans T3
      have T5 := TW.trans T3
      by_cases he : er = 0
      · have hn : Hid (x.saved mf = z.saveR s 5 (5 - 5)) := by unfold Hid; rw [hrel.out]; exact hst he
        subst he
        clear hst hsp f4 hrel
        go_wp2_with fail
        go_roundw
        case rel => exact ⟨5, z, by omega, rfl, hn, h3, T4, T5⟩
        case measure => simp [intOf]
      · have hn : Hid (x.saved mf = (er, z)) := by unfold Hid; rw [hrel.out]; exact hsp he
        have hne1 : (er != 0) = true := by simpa using he
        clear hst hsp f4 hrel he
        go_wp2_with fail
        go_ret
        exact ⟨by rw [hn.out]; rfl, by rw [hn.out]; exact h3, T4⟩
    · have hn : Hid (x.saved mf = (0, y)) := hrel.out
      clear f0 f1 f2 f3 f4 hrel
      go_wp2_with fail
      go_ret
      exact ⟨by rw [hn.out]; rfl, by rw [hn.out]; exact hy, T⟩
set_option maxHeartbeats 1600000 in
set_option maxRecDepth 100000 in
theorem save_no (d m : Nat) (x : Dk) (mf : Mf) (v : Value) (w : World) (h : IsDisk w d m x) (hf : Files w v mf.files) (hn : ∀ f ∈ mf.files, f.name.size ≤ 9223372036854775807) (hr : rightB mf = false) :
    Calls Try.prog 9 #[.pointer (some ⟨d, 0, none⟩), .agg #[.int .i64 mf.stage, .int .i64 mf.pass, v]] w fun e w' => e = .returned (.int .i64 (x.saved mf).1) ∧ IsDisk w' d m (x.saved mf).2 ∧ Turn d m w w' := by
  have hS : Hid (x.saved mf = (1, x)) := by unfold Hid Dk.saved; rw [if_neg (by simp [hr])]
  obtain ⟨A, c, rfl, h1, h2, h3⟩ := id hf
  unfold maxLen at h2
  clear h3
  have hfb := hf.below (((Below.refl _ w).alloc (Nat.le_refl _) (.cells #[.pointer (some ⟨d, 0, none⟩)] 25)).alloc (by simp) (.cells #[.int .i64 mf.stage, .int .i64 mf.pass, .slice A mf.files.length c] 31))
  have T0 := ((Turn.refl d m w).alloc (.cells #[.pointer (some ⟨d, 0, none⟩)] 25)).alloc (.cells #[.int .i64 mf.stage, .int .i64 mf.pass, .slice A mf.files.length c] 31)
  have hd0 := (h.alloc (.cells #[.pointer (some ⟨d, 0, none⟩)] 25)).alloc (.cells #[.int .i64 mf.stage, .int .i64 mf.pass, .slice A mf.files.length c] 31)
  have HR := Lib.hid hr
  have HN := Lib.hid hn
  clear hr h hn
  go_enter Try.func9, Try.ntmps9
  go_wp2_with fail
  refine (mput_no mf _ _ hfb HN.out HR.out).mono ?_
  rintro e w1 ⟨rfl, hb1⟩
  have hd1 := hd0.below hb1
  have T1 := T0.trans (Turn.of_below hb1)
  go_wp2_with fail
  go_ret
  exact ⟨by rw [hS.out]; rfl, by rw [hS.out]; exact hd1.alloc _, T1.alloc _⟩
theorem save_any (d m : Nat) (x : Dk) (mf : Mf) (v : Value) (w : World) (h : IsDisk w d m x) (hf : Files w v mf.files) (hw : mf.wf) (hn : ∀ f ∈ mf.files, f.name.size ≤ 9223372036854775807) :
    Calls Try.prog 9 #[.pointer (some ⟨d, 0, none⟩), .agg #[.int .i64 mf.stage, .int .i64 mf.pass, v]] w fun e w' => e = .returned (.int .i64 (x.saved mf).1) ∧ IsDisk w' d m (x.saved mf).2 ∧ Turn d m w w' := by
  cases hr : rightB mf
  · exact save_no d m x mf v w h hf hn hr
  · exact save_yes d m x mf v w h hf hw hr
end Go.Proofs.Ytdmmfeglnmkmdaa
