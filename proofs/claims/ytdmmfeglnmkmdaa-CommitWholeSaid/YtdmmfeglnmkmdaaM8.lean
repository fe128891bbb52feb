/- manifest.Get computes the plain manifest of bytes. -/
import Derived.Test.YtdmmfeglnmkmdaaM7
namespace Go.Proofs.Ytdmmfeglnmkmdaa
open Go.RowKit Plain

def flatF (fs : List Fl) : List Value := fs.flatMap flC
theorem flatF_length (fs : List Fl) : (flatF fs).length = fs.length * 4 := by
  unfold flatF
  induction fs with
  | nil => rfl
  | cons z zs ih => rw [List.flatMap_cons, List.length_append, ih]; simp [flC]; omega
theorem flatF_get : ∀ (zs : List Fl) (i j : Nat) (z : Fl) (x : Value), zs[i]? = some z → (flC z)[j]? = some x → (flatF zs)[i * 4 + j]? = some x := by
  intro zs
  induction zs with
  | nil => intro i j z x h; simp at h
  | cons y zs ih =>
    intro i j z x h hx
    have hj : j < 4 := by have := (List.getElem?_eq_some_iff.1 hx).1; simpa [flC] using this
    unfold flatF
    rw [List.flatMap_cons]
    have h6 : (flC y).length = 4 := rfl
    cases i with
    | zero =>
      simp at h
      subst h
      rw [Nat.zero_mul, Nat.zero_add, List.getElem?_append_left (by omega)]
      exact hx
    | succ i =>
      rw [List.getElem?_append_right (by omega), h6, show (i + 1) * 4 + j - 4 = i * 4 + j by omega]
      exact ih i j z x (by simpa using h) hx
theorem flatF_snoc (zs : List Fl) (z : Fl) : flatF (zs ++ [z]) = flatF zs ++ flC z := by simp [flatF]
/-- A row of files that the call has grown, read as a slice of files. -/
theorem files_of_own {w : World} {base e : Nat} {v : Value} {zs : List Fl} (h : w.ownsRow base e 4 v zs.length (flatF zs)) : Files w v zs := by
  rcases id h.2 with ⟨rfl, h0⟩ | ⟨g, cap, cur, rfl, hg, hh, hnc, hcm, _⟩
  · have : zs = [] := List.eq_nil_of_length_eq_zero h0
    subst this
    exact ⟨none, 0, rfl, by simp, by unfold maxLen; omega, fun i a hi => by simp at hi⟩
  · refine ⟨some ⟨g, 0, none⟩, cap, rfl, hnc, hcm, fun i z hz => ⟨_, rfl, fun j x hx => ?_⟩⟩
    exact h.cells (g := g) rfl _ _ (flatF_get zs i j z x hz hx)
theorem Try.info78 : (Try.prog.info? 78).map (fun i => (i.zero, i.size, i.bytes)) = some (some (.agg #[.string ⟨#[]⟩, .int .i64 0, .int .i64 0, .int .u32 0]), 4, 40) := by kernel_rfl
theorem numV1_lt (x : Cur) : numV x 1 < 256 := by
  unfold numV getN
  split
  · decide
  · split
    · have h := beV_lt ((takeC x 1).1.take 1)
      have h2 : 256 ^ ((takeC x 1).1.take 1).length ≤ 256 ^ 1 := Nat.pow_le_pow_right (by decide) (by rw [List.length_take]; omega)
      exact Nat.lt_of_lt_of_le h h2
    · decide
theorem fileS_le (x : Cur) : (fileS x).rest.length ≤ x.rest.length := by
  have l1 := numS_le x 1
  have l2 := textS_le (numS x 1) (numV x 1)
  have l3 := numS_le (textS (numS x 1) (numV x 1)) 1
  have l4 := numS_le (numS (textS (numS x 1) (numV x 1)) 1) 8
  have l5 := numS_le (numS (numS (textS (numS x 1) (numV x 1)) 1) 8) 4
  unfold fileS
  omega
theorem fileV_name (x : Cur) : (fileV x).name.size ≤ x.rest.length := by
  have l1 := numS_le x 1
  have l2 := (takeC_le (numS x 1) (numV x 1)).2.1
  show ((takeC (numS x 1) (numV x 1)).1.toArray).size ≤ _
  rw [List.size_toArray]
  omega
theorem Turn.kept {d m : Nat} {w w1 : World} (h : Turn d m w w1) {i : Nat} {o : Obj} (hi : w.heap[i]? = some o) (h1 : i ≠ d) (h2 : i ≠ m) : w1.heap[i]? = some o := (h.block i (heap_lt hi) h1 h2).trans hi
set_option maxHeartbeats 3200000 in
set_option maxRecDepth 100000 in
theorem get_body (s : ByteArray) (t : List UInt8) (w : World) (hs : s.size ≤ 1073741824) (hn : openL s.data.toList = some t) (hp : magic.isPrefixOf t = true) : Calls Try.prog 41 #[.string s] w (GetPost s.data.toList w) := by
  have hg : Hid (getM s.data.toList = if okC (bodyC (t.drop 4)) = true then some (bodyC (t.drop 4)).1 else none) := by unfold Hid getM; rw [hn]; simp [hp]
  have hbody : Hid (bodyC (t.drop 4) = (⟨numV ⟨t.drop 4, false⟩ 2, numV (numS ⟨t.drop 4, false⟩ 2) 2, (filesC (numV (numS (numS ⟨t.drop 4, false⟩ 2) 2) 1) (numS (numS (numS ⟨t.drop 4, false⟩ 2) 2) 1) []).1⟩, (filesC (numV (numS (numS ⟨t.drop 4, false⟩ 2) 2) 1) (numS (numS (numS ⟨t.drop 4, false⟩ 2) 2) 1) []).2)) := rfl
  have ho := Lib.hid (openV_some hn)
  have HP := Lib.hid hp
  have htl : t.length ≤ 1073741824 := by
    unfold openL at hn
    split at hn
    · cases hn
    · split at hn
      · cases hn
        rw [List.length_take, ba_length]
        omega
      · cases hn
  have ht4 : 4 ≤ t.length := by
    have := (List.isPrefixOf_iff_prefix.1 hp).length_le
    exact this
  clear hn hp
  have hnew := heap_alloc_new w (.cells #[.int .i64 0, .int .i64 0, .slice none 0 0] 31)
  have hb0 := (Below.refl _ w).alloc (Nat.le_refl _) (.cells #[.int .i64 0, .int .i64 0, .slice none 0 0] 31)
  go_enter Try.func41, Try.ntmps41
  go_wp2_with fail
  generalize w.alloc (.cells #[.int .i64 0, .int .i64 0, .slice none 0 0] 31) = w0 at *
  refine (open_any s _ hs).mono ?_
  rw [ho.out]
  rintro e w1 ⟨rfl, hb1⟩
  have g1 := (hb1.block w.heap.size (heap_lt hnew)).trans hnew
  have hb := keepBelow hb0 hb1
  clear hb0 hb1 hnew ho
  have hts : (⟨t.toArray⟩ : ByteArray).size = t.length := List.size_toArray
  have htd : (⟨t.toArray⟩ : ByteArray).extract 4 t.length = ⟨(t.drop 4).toArray⟩ := ext_drop t 4
  have hld : (t.drop 4).length ≤ 1073741824 := by rw [List.length_drop]; omega
  go_wp2_with fail
  refine (Try.strings_HasPrefix _ _ _).mono ?_
  rw [show Lib.hasPrefix (⟨t.toArray⟩ : ByteArray).data.toList (⟨#[77, 65, 78, 49]⟩ : ByteArray).data.toList = true from HP.out]
  rintro e w2 ⟨rfl, rfl⟩
  go_wp2_with fail
  have hC0 : IsCur (w2.alloc (.cells #[.string ⟨(t.drop 4).toArray⟩, .bool false] 117)) w2.heap.size ⟨t.drop 4, false⟩ := heap_alloc_new w2 _
  have hzc : w.heap.size < w2.heap.size := heap_lt g1
  have hb2 := hb.alloc hb.size (.cells #[.string ⟨(t.drop 4).toArray⟩, .bool false] 117)
  have g2 : (w2.alloc (.cells #[.string ⟨(t.drop 4).toArray⟩, .bool false] 117)).heap[w.heap.size]? = _ := (Below.heap_alloc w2 _ w.heap.size hzc).trans g1
  clear hb g1
  generalize w2.alloc (.cells #[.string ⟨(t.drop 4).toArray⟩, .bool false] 117) = W at *
  generalize w2.heap.size = c at *
  have hx0 : (⟨t.drop 4, false⟩ : Cur).rest.length ≤ 1073741824 := hld
  have hcw : c < W.heap.size := hC0.lt
  generalize (⟨t.drop 4, false⟩ : Cur) = x0 at *
  clear hld htd hts ht4 htl HP
  refine (number_any c x0 2 _ hC0 hx0 (by omega) (by omega)).mono ?_
  rintro e w3 ⟨rfl, h3, T3⟩
  have hb3 := hb2.trans (T3.below (by omega) (by omega) (by omega))
  have g3 := T3.kept g2 (by omega) (by omega)
  have hx1 := Nat.le_trans (numS_le x0 2) hx0
  generalize numV x0 2 = sn at *
  generalize numS x0 2 = x1 at *
  clear T3 hC0 g2
  go_wp2_with fail
  refine (number_any c x1 2 _ h3 hx1 (by omega) (by omega)).mono ?_
  rintro e w4 ⟨rfl, h4, T4⟩
  have hb4 := hb3.trans (T4.below hb3.size (by omega) (by omega))
  have g4 := T4.kept g3 (by omega) (by omega)
  have hx2 := Nat.le_trans (numS_le x1 2) hx1
  generalize numV x1 2 = pn at *
  generalize numS x1 2 = x2 at *
  clear T4 h3 g3
  have h5 := h4.below ((Below.refl _ w4).alloc (Nat.le_refl _) (.cells #[.int .i64 sn, .int .i64 pn, .slice none 0 0] 31))
  have m5 := heap_alloc_new w4 (.cells #[.int .i64 sn, .int .i64 pn, .slice none 0 0] 31)
  have hb5 := hb4.alloc hb4.size (.cells #[.int .i64 sn, .int .i64 pn, .slice none 0 0] 31)
  have g5 : (w4.alloc (.cells #[.int .i64 sn, .int .i64 pn, .slice none 0 0] 31)).heap[w.heap.size]? = _ := (Below.heap_alloc w4 _ w.heap.size (heap_lt g4)).trans g4
  have hmc : c < w4.heap.size := h4.lt
  go_wp2_with fail
  generalize w4.alloc (.cells #[.int .i64 sn, .int .i64 pn, .slice none 0 0] 31) = W5 at *
  refine (number_any c x2 1 _ h5 hx2 (by omega) (by omega)).mono ?_
  rintro e w6 ⟨rfl, h6, T6⟩
  have hb6 := hb5.trans (T6.below hb5.size (by omega) (by omega))
  have g6 := T6.kept g5 (by omega) (by omega)
  have m6 := T6.kept m5 (by omega) (by omega)
  have hx3 := Nat.le_trans (numS_le x2 1) hx2
  have hn := numV1_lt x2
  generalize numV x2 1 = n at *
  generalize numS x2 1 = x3 at *
  generalize w4.heap.size = mb at *
  clear T6 h5 g5 m5 h4 g4 hb2 hb3 hb4 hb5
  obtain ⟨R, hR⟩ : ∃ R, filesC n x3 [] = R := ⟨_, rfl⟩
  rw [hR] at hbody
  have HR := Lib.hid hR
  clear hR
  obtain ⟨i0, hi0, hz0, hz1, hz2⟩ := info_parts Try.info78
  have hmb : mb < w6.heap.size := heap_lt m6
  go_wp2_with fail
  go_loopw [8] (fun i wr => ∃ (j : Nat) (x : Cur) (fs : List Fl) (v : Value), fs.length + j ≤ 256 ∧ i = .int .i64 j ∧ Hid (filesC j x fs = R) ∧ IsCur wr c x ∧ wr.heap[mb]? = some (.cells #[.int .i64 sn, .int .i64 pn, v] 31 (0, 0)) ∧ wr.ownsRow w6.heap.size 78 4 v fs.length (flatF fs) ∧
    Below w.heap.size w wr ∧ wr.heap[w.heap.size]? = some (.cells #[.int .i64 0, .int .i64 0, .slice none 0 0] 31 (0, 0)) ∧ w6.heap.size ≤ wr.heap.size ∧ x.rest.length ≤ 1073741824 ∧ Hid (∀ f ∈ fs, f.name.size ≤ 1073741824)) (fun i _ => (intOf i).toNat)
  case atStart => exact ⟨n, x3, [], .slice none 0 0, by simp; omega, rfl, HR, h6, m6, World.ownsRow_nil _ _ _ _, hb6, g6, Nat.le_refl _, hx3, by unfold Hid; simp⟩
  case round =>
    rename_i wr _
    obtain ⟨j, x, fs, v, hfj, rfl, hrel, hC, hM, hown, hbr, hG, hsz, hxl, hnm⟩ := hrel
    have cb : wr.cell? ⟨c, 1, none⟩ = some (.bool x.bad) := Lib.cell_of_heap hC 1
    clear h6 m6 hb6 g6
    cases hbad : x.bad
    · rw [hbad] at cb
      cases j with
      | zero =>
        have hR2 : R = (fs, x) := hrel.out.symm
        have hok : Hid (okC (bodyC (t.drop 4)) = (x.rest.isEmpty && rightB ⟨sn, pn, fs⟩)) := by
          unfold Hid
          rw [hbody.out, hR2]
          simp [okC, hbad]
        have hmm : Hid ((bodyC (t.drop 4)).1 = ⟨sn, pn, fs⟩) := by
          unfold Hid
          rw [hbody.out, hR2]
        have z0 := Lib.frozen_of_heap hG 0
        have z1 := Lib.frozen_of_heap hG 1
        have z2 := Lib.frozen_of_heap hG 2
        have q0 : wr.cell? ⟨w.heap.size, 0, none⟩ = some (.int .i64 0) := Lib.cell_of_heap hG 0
        have q1 : wr.cell? ⟨w.heap.size, 1, none⟩ = some (.int .i64 0) := Lib.cell_of_heap hG 1
        have q2 : wr.cell? ⟨w.heap.size, 2, none⟩ = some (.slice none 0 0) := Lib.cell_of_heap hG 2
        have c0 : wr.cell? ⟨c, 0, none⟩ = some (.string ⟨x.rest.toArray⟩) := Lib.cell_of_heap hC 0
        have m0 : wr.cell? ⟨mb, 0, none⟩ = some (.int .i64 sn) := Lib.cell_of_heap hM 0
        have m1 : wr.cell? ⟨mb, 1, none⟩ = some (.int .i64 pn) := Lib.cell_of_heap hM 1
        have m2 : wr.cell? ⟨mb, 2, none⟩ = some v := Lib.cell_of_heap hM 2
        have hF := files_of_own hown
        by_cases he : x.rest = []
        · have he1 : (⟨x.rest.toArray⟩ : ByteArray) = ⟨#[]⟩ := by rw [he]
          rw [he1] at c0
          rw [he] at hok
          clear he he1 hbad hR2
          go_wp2_with fail
          refine (mright_any ⟨sn, pn, fs⟩ v _ hF (fun f hf => by have := hnm.out f hf; omega)).mono ?_
          rintro e y1 ⟨rfl, hby⟩
          have hby1 := keepBelow hbr hby
          have hG1 := (hby.block _ (heap_lt hG)).trans hG
          have hM1 := (hby.block _ (heap_lt hM)).trans hM
          have hown1 := own_below hown hby
          clear hM hown hC hF z0 z1 z2 q0 q1 q2 c0 m0 m1 m2 cb hby hbr hG
          have z0 := Lib.frozen_of_heap hG1 0
          have z1 := Lib.frozen_of_heap hG1 1
          have z2 := Lib.frozen_of_heap hG1 2
          have q0 : y1.cell? ⟨w.heap.size, 0, none⟩ = some (.int .i64 0) := Lib.cell_of_heap hG1 0
          have q1 : y1.cell? ⟨w.heap.size, 1, none⟩ = some (.int .i64 0) := Lib.cell_of_heap hG1 1
          have q2 : y1.cell? ⟨w.heap.size, 2, none⟩ = some (.slice none 0 0) := Lib.cell_of_heap hG1 2
          have m0 : y1.cell? ⟨mb, 0, none⟩ = some (.int .i64 sn) := Lib.cell_of_heap hM1 0
          have m1 : y1.cell? ⟨mb, 1, none⟩ = some (.int .i64 pn) := Lib.cell_of_heap hM1 1
          have m2 : y1.cell? ⟨mb, 2, none⟩ = some v := Lib.cell_of_heap hM1 2
          have hgM : Hid (getM s.data.toList = if rightB ⟨sn, pn, fs⟩ = true then some ⟨sn, pn, fs⟩ else none) := by
            unfold Hid
            rw [hg.out, hok.out, hmm.out]
            simp
          clear hok hmm hg
          cases hr : rightB ⟨sn, pn, fs⟩
          · have hno : Hid (getM s.data.toList = none) := by unfold Hid; rw [hgM.out, hr]; rfl
            clear hr hgM
            go_wp2_with fail
            refine bodyPost_ret (results_cell_slot Try.results41 _ _ w.heap.size 31 _ (0, 0) _ (by simp) (set3 hG1 _ _ _) Try.underlying31 rfl (by kernel_rfl)) rfl ?_
            exact getPost_no hno.out (below_set3 hby1 _ _ _)
          · have hyes : Hid (getM s.data.toList = some ⟨sn, pn, fs⟩) := by unfold Hid; rw [hgM.out, hr]; rfl
            obtain ⟨A, cap0, rfl⟩ : ∃ A cap0, v = .slice A fs.length cap0 := by
              rcases hown1.2 with ⟨rfl, h0⟩ | ⟨g, cap, cur, rfl, _⟩
              · exact ⟨none, 0, by rw [h0]⟩
              · exact ⟨_, _, rfl⟩
            clear hr hgM
            go_wp2_with fail
            refine bodyPost_ret (results_cell_slot Try.results41 _ _ w.heap.size 31 _ (0, 0) _ (by simp) (set3 hG1 _ _ _) Try.underlying31 rfl (by kernel_rfl)) rfl ?_
            refine getPost_yes hyes.out (below_set3 hby1 _ _ _) _ (files_of_own (ownsRow_setCell_below (ownsRow_setCell_below (ownsRow_setCell_below hown1 ?_ _) ?_ _) ?_ _)) <;> (show w.heap.size < w6.heap.size; omega)
        · have hno : Hid (getM s.data.toList = none) := by
            unfold Hid
            rw [hg.out, hok.out]
            have : x.rest.isEmpty = false := by simpa using he
            rw [this]
            simp
          have he1 : (⟨x.rest.toArray⟩ : ByteArray).toList ≠ [] := by
            rw [ByteArray.toList_eq]
            simpa using he
          have he2 : (⟨x.rest.toArray⟩ : ByteArray).toList.isEmpty = false := by simpa using he1
          generalize (⟨x.rest.toArray⟩ : ByteArray) = rs at *
          clear he hbad hR2 hok
          go_wp2_with fail
          refine bodyPost_ret (results_cell_slot Try.results41 _ _ w.heap.size 31 _ (0, 0) _ (by simp) (set3 hG _ _ _) Try.underlying31 rfl (by kernel_rfl)) rfl ?_
          exact getPost_no hno.out (below_set3 hbr _ _ _)
      | succ j =>
        have cm : wr.cell? ⟨mb, 2, none⟩ = some v := Lib.cell_of_heap hM 2
        have zm := Lib.frozen_of_heap hM 2
        obtain ⟨A, cap0, rfl⟩ : ∃ A cap0, v = .slice A fs.length cap0 := by
          rcases hown.2 with ⟨rfl, h0⟩ | ⟨g, cap, cur, rfl, _⟩
          · exact ⟨none, 0, by rw [h0]⟩
          · exact ⟨_, _, rfl⟩
        obtain ⟨f, hf⟩ : ∃ f, fileV x = f := ⟨_, rfl⟩
        have hfn := fileV_name x
        rw [hf] at hfn
        have HF := Lib.hid hf
        have hxl2 := Nat.le_trans (fileS_le x) hxl
        have hrel2 : Hid (filesC j (fileS x) (fs ++ [f]) = R) := by
          have h := hrel.out
          unfold filesC at h
          rw [hbad, if_neg (by simp), hf] at h
          exact h
        clear hf
        have hCd : IsCur wr.drew c x := hC
        go_wp2_with fail
        go_region_law (first | (go_simp; go_at_call 76; refine (file_any c x _ hCd hxl).mono ?_; rw [HF.out]; unfold flV; rintro e y1 ⟨rfl, hC1, Ty⟩; have hM1 := Ty.kept (show wr.drew.heap[mb]? = _ from hM) (by omega) (by omega); have hown1 := hown.drew.kept (row := some c) ⟨Ty.os, Ty.tape, Ty.output, Ty.size, fun i hi hne => Ty.block i hi (fun h => hne (by rw [h])) (fun h => hne (by rw [h]))⟩ (.inr (fun h => by have := (hown.lt c h).1; omega)); have cm1 : y1.cell? ⟨mb, 2, none⟩ = some (.slice A fs.length cap0) := Lib.cell_of_heap hM1 2; have cm1a : (y1.alloc (.cells #[.string f.name, .int .i64 f.size, .int .i64 f.count, .int .u32 f.sum] 78)).cell? ⟨mb, 2, none⟩ = some (.slice A fs.length cap0) := keepCell cm1 ((Below.refl _ y1).alloc (Nat.le_refl _) _); have zm1 := Lib.frozen_of_heap hM1 2; have hsz1 := Nat.le_trans hsz Ty.size) | (refine step_append_lies _ (by rfl) _ _ _ (by rfl) w6.heap.size 78 i0 _ 4 40 Try.underlying29 hi0 hz0 hz1 hz2 rfl (by omega) (.slice A fs.length cap0) fs.length (flatF fs) (by rfl) (hown1.alloc _) ⟨y1.heap.size, 0, none⟩ 1 1 (flC f) (by rfl) (by rfl) (World.news_of_block (cs := #[.string f.name, .int .i64 f.size, .int .i64 f.count, .int .u32 f.sum]) (t := 78) (fr := (0, 0)) (heap_alloc_new y1 _)) (by simp [flC, Value.oneCell']) (by omega) (by unfold maxLen; omega) (by omega) (by simp; omega) (y1.heap.size + 1) (by simp) ?_; intro gg cap1 y2 hown2 hgrow hat hlt; have hM2 := (hgrow.block mb (by have := heap_lt hM1; simp; omega) (fun h => by have := (hown1.lt mb h.symm).1; omega)).trans ((Below.heap_alloc y1 _ mb (heap_lt hM1)).trans hM1); have cm2 : y2.cell? ⟨mb, 2, none⟩ = some (.slice A fs.length cap0) := Lib.cell_of_heap hM2 2; have zm2 := Lib.frozen_of_heap hM2 2))
        all_goals
          have hlen : (fs ++ [f]).length = fs.length + 1 := by simp
          have hb1 : Below w.heap.size w y1 := hbr.drew.trans (Ty.below (show w.heap.size ≤ wr.heap.size by omega) (by omega) (by omega))
          have hb2 := ((hb1.alloc hb1.size (.cells #[.string f.name, .int .i64 f.size, .int .i64 f.count, .int .u32 f.sum] 78)).grown hgrow (by simp; omega) (fun k hk => by have := (hown1.lt k hk).1; omega)).setCell (p := ⟨mb, 2, none⟩) (by simp; omega) (.slice (some ⟨gg, 0, none⟩) (fs.length + 1) cap1)
          have hcy : c < y1.heap.size := hC1.lt
          have hrow : ∀ k, k < w6.heap.size → k < y1.heap.size → y2.heap[k]? = y1.heap[k]? := fun k hk hk1 => (hgrow.block k (by simp; omega) (fun h => by have := (hown1.lt k h.symm).1; omega)).trans (Below.heap_alloc y1 _ k hk1)
          have hG1 := Ty.kept (show wr.drew.heap[w.heap.size]? = _ from hG) (by omega) (by omega)
          have hC2 : IsCur (y2.setCell ⟨mb, 2, none⟩ (.slice (some ⟨gg, 0, none⟩) (fs.length + 1) cap1)) c (fileS x) := IsCur.setNew (show IsCur y2 c (fileS x) from (hrow c (by omega) hcy).trans hC1) mb (by omega) 2 _
          have hM3 : (y2.setCell ⟨mb, 2, none⟩ (.slice (some ⟨gg, 0, none⟩) (fs.length + 1) cap1)).heap[mb]? = some (.cells #[.int .i64 sn, .int .i64 pn, .slice (some ⟨gg, 0, none⟩) (fs.length + 1) cap1] 31 (0, 0)) := by
            simp [World.setCell, Array.getElem?_modify, hM2]
          have hO3 := ownsRow_setCell_below hown2 (a := ⟨mb, 2, none⟩) (by show mb < _; omega) (.slice (some ⟨gg, 0, none⟩) (fs.length + 1) cap1)
          rw [← flatF_snoc, ← hlen] at hO3
          have hG2 : (y2.setCell ⟨mb, 2, none⟩ (.slice (some ⟨gg, 0, none⟩) (fs.length + 1) cap1)).heap[w.heap.size]? = _ := (Below.heap_setCell y2 ⟨mb, 2, none⟩ _ w.heap.size (by simp; omega)).trans ((hrow _ (by omega) (heap_lt hG1)).trans hG1)
          have hnm2 : Hid (∀ g ∈ fs ++ [f], g.name.size ≤ 1073741824) := by
            intro g hg
            rcases List.mem_append.1 hg with hg | hg
            · exact hnm.out g hg
            · simp at hg
              subst hg
              omega
          have hsz2 : w6.heap.size ≤ (y2.setCell ⟨mb, 2, none⟩ (.slice (some ⟨gg, 0, none⟩) (fs.length + 1) cap1)).heap.size := by
            have h := hgrow.size
            simp [World.setCell] at h ⊢
            omega
          rw [hlen] at hO3
          clear hown2 hgrow hat hM2 cm2 zm2 cm1 cm1a zm1 hown1 hM1 Ty hC1 cm zm hM hown hC hCd hG1 hb1 hlen
          generalize y2.setCell ⟨mb, 2, none⟩ (.slice (some ⟨gg, 0, none⟩) (fs.length + 1) cap1) = y3 at *
          go_wp2_with fail
          go_roundw
          case rel => exact ⟨j, fileS x, fs ++ [f], .slice (some ⟨gg, 0, none⟩) (fs.length + 1) cap1, by simp; omega, by go_num, hrel2, hC2, hM3, by simpa using hO3, hb2, hG2, hsz2, hxl2, hnm2⟩
          case measure => simp [intOf]
    · rw [hbad] at cb
      have hno : Hid (getM s.data.toList = none) := by
        have h := hrel.out
        have hR2 : R = (fs, x) := by
          cases j with
          | zero => exact h.symm
          | succ j =>
            unfold filesC at h
            rw [if_pos hbad] at h
            exact h.symm
        unfold Hid
        rw [hg.out, hbody.out, hR2]
        simp [okC, hbad]
      have z0 := Lib.frozen_of_heap hG 0
      have z1 := Lib.frozen_of_heap hG 1
      have z2 := Lib.frozen_of_heap hG 2
      have q0 : wr.cell? ⟨w.heap.size, 0, none⟩ = some (.int .i64 0) := Lib.cell_of_heap hG 0
      have q1 : wr.cell? ⟨w.heap.size, 1, none⟩ = some (.int .i64 0) := Lib.cell_of_heap hG 1
      have q2 : wr.cell? ⟨w.heap.size, 2, none⟩ = some (.slice none 0 0) := Lib.cell_of_heap hG 2
      clear hM hown hC hbad
      cases j with
      | zero =>
        go_wp2_with fail
        refine bodyPost_ret (results_cell_slot Try.results41 _ _ w.heap.size 31 _ (0, 0) _ (by simp) (set3 hG _ _ _) Try.underlying31 rfl (by kernel_rfl)) rfl ?_
        exact getPost_no hno.out (below_set3 hbr _ _ _)
      | succ j =>
        go_wp2_with fail
        refine bodyPost_ret (results_cell_slot Try.results41 _ _ w.heap.size 31 _ (0, 0) _ (by simp) (set3 hG _ _ _) Try.underlying31 rfl (by kernel_rfl)) rfl ?_
        exact getPost_no hno.out (below_set3 hbr _ _ _)
theorem get_any (s : ByteArray) (w : World) (hs : s.size ≤ 1073741824) : Calls Try.prog 41 #[.string s] w (GetPost s.data.toList w) := by
  cases hn : openL s.data.toList with
  | none => exact get_none s w hs hn
  | some t =>
    cases hp : magic.isPrefixOf t
    · exact get_other s t w hs hn hp
    · exact get_body s t w hs hn hp
end Go.Proofs.Ytdmmfeglnmkmdaa
