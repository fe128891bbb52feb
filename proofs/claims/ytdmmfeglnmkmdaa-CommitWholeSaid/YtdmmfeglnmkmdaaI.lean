/- The disk's calls: Rename, Read. -/
import Derived.Test.YtdmmfeglnmkmdaaH
namespace Go.Proofs.Ytdmmfeglnmkmdaa
open Go.RowKit Go.Maps

theorem key_ne {a b : ByteArray} (h : a ≠ b) : keyL a ≠ keyL b := by
  intro e
  apply h
  unfold keyL at e
  cases a
  cases b
  simp at e
  rw [e]
/-- What Rename leaves ahead of its store. -/
theorem rename_facts {x : Dk} (ht : Tidy x.D) (hf : Maps.size x.D ≤ 200) {a b : ByteArray} (hne : a ≠ b) (h : x.hasK a = true) :
    total ((x.without b).without a).D + x.sz a = total (x.without b).D ∧ ((x.without b).without a).sz b = 0 ∧ Maps.size ((x.without b).without a).D ≠ 200 := by
  have t1 : Tidy (x.D.del (keyL b)) := ht.del _
  have e1 : ((x.D.del (keyL b)).atKey (keyL a) (fd [] 0)) = x.D.atKey (keyL a) (fd [] 0) := atKey_del_other (key_ne hne) _
  have e2 := total_del t1 (keyL a)
  have e3 : Maps.has (x.D.del (keyL b)) (keyL a) = true := by rw [has_del_other (key_ne hne)]; exact h
  have e4 := size_del (k := keyL a) t1
  have e5 := size_del (k := keyL b) ht
  rw [e3] at e4
  rw [e1] at e2
  refine ⟨e2, ?_, ?_⟩
  · unfold Dk.sz Dk.at
    show lenOf (((x.D.del (keyL b)).del (keyL a)).atKey (keyL b) (fd [] 0)) = 0
    rw [atKey_del_other (key_ne hne.symm), atKey_del_same]
    rfl
  · show Maps.size ((x.D.del (keyL b)).del (keyL a)) ≠ 200
    simp at e4
    omega

def Dk.renamed (x : Dk) (a b : ByteArray) : Dk := if x.findE a = 0 ∧ a ≠ b then ((x.called.without b).without a).put b (x.bytes a) (x.kept a) else x.called
set_option maxHeartbeats 1000000 in
set_option maxRecDepth 100000 in
theorem rename_any (d m : Nat) (x : Dk) (na nb : ByteArray) (w : World) (h : IsDisk w d m x) (hs : na.size ≤ maxLen) (hb : nameB na.data.toList = true) (hs2 : nb.size ≤ maxLen) (hb2 : nameB nb.data.toList = true) (hne : na ≠ nb) :
    Calls Try.prog 39 #[.pointer (some ⟨d, 0, none⟩), .string na, .string nb] w fun e w' => e = .returned (.int .i64 (x.findE na)) ∧ IsDisk w' d m (x.renamed na nb) ∧ Turn d m w w' := by
  have hkey := keyOf_string nb hs2
  have hm2 : nb.size ≤ 9223372036854775807 := by unfold maxLen at hs2; omega
  go_enter Try.func39, Try.ntmps39
  go_wp2_with fail
  refine (right_any nb _ hm2).mono ?_
  rintro e w0 ⟨rfl, hb0⟩
  rw [hb2]
  have h0 := h.below hb0
  have T0 : Turn d m w w0 := Turn.of_below hb0
  go_wp2_with fail
  refine (find_any d m x na _ h0 hs hb).mono ?_
  rintro e w1 ⟨s, k, rfl, h1, T1, hf, hg⟩
  have T := T0.trans T1
  clear h h0 T0 T1 hb0
  by_cases hE : x.findE na = 0
  · obtain ⟨hat, k0, k1⟩ := hf hE
    obtain ⟨hby, hke, hsz⟩ := bytes_of hat
    have hR : x.renamed na nb = ((x.called.without nb).without na).put nb s.data.toList k := by simp [Dk.renamed, hE, hne, hby, hke]
    clear hf hg hat
    rw [hE]
    have h2 := h1.alloc (.cells #[.string s, .int .i64 k] 74)
    have T2 := T.alloc (.cells #[.string s, .int .i64 k] 74)
    have hat := (MapKept.heap_alloc w1 (.cells #[.string s, .int .i64 k] 74)).1
    have hneq : (na.toList == nb.toList) = false := by
      rw [beq_eq_false_iff_ne]
      intro e
      apply hne
      rw [ByteArray.toList_eq, ByteArray.toList_eq] at e
      cases na
      cases nb
      simp at e
      rw [e]
    go_wp2_with fail
    refine (drop_any d m x.called nb _ h2 hs2).mono ?_
    rintro e w2 ⟨rfl, h3, T3⟩
    have hat3 := (T3.block w1.heap.size (by simp) (by have := h1.ltd; omega) (by have := h1.ltm; omega)).trans hat
    have T4 := T2.trans T3
    go_wp2_with fail
    refine (drop_any d m (x.called.without nb) na _ h3 hs).mono ?_
    rintro e w3 ⟨rfl, h4, T5⟩
    have hlt2 : w1.heap.size < w2.heap.size := (Array.getElem?_eq_some_iff.1 hat3).1
    have hat4 := (T5.block w1.heap.size hlt2 (by have := h1.ltd; omega) (by have := h1.ltm; omega)).trans hat3
    have T6 := T4.trans T5
    go_wp2_with fail
    have hhas : x.called.hasK na = true := find_some (x := x) hE
    obtain ⟨r1, r2, r3⟩ := rename_facts (x := x.called) h1.tidy h1.ok.few hne hhas
    have r4 : x.called.sz na = s.size := hsz
    rw [r4] at r1
    have hy0 : total ((x.called.without nb).without na).D + s.size ≤ ((x.called.without nb).without na).room := by rw [r1]; exact h3.ok.fits
    generalize (x.called.without nb).without na = y at *
    obtain ⟨q0, q1, _, _⟩ := file_at hat4
    have c3 : w3.cell? ⟨d, 3, none⟩ = some (.map (some m)) := h4.c 3
    have h5 := h4.drew
    have T7 := T6.drew
    have hat5 : w3.drew.heap[w1.heap.size]? = _ := hat4
    go_still_tail 6, (by kernel_rfl)
    change wpList _ _ _ _ _ w3.drew
    clear q0 q1 c3
    generalize w3.drew = W at *
    go_wp2_with (at_mapUpdate; refine wpList_mapUpdate_own _ rfl _ _ _ 64 rfl 9 74 (string_keyed Try.underlying9) Try.underlying64 _ m (Maps.size y.D) y.D rfl h5.own (by have := h5.ok.few; unfold maxLen; omega) _ _ (keyL nb) rfl rfl hkey (fd s.data.toList k) [] (fileElem_mk s k k0 k1) ?_; intro w4 hown4 hg4)
    have hd4 := (hg4.block d h5.ltd (fun e => h5.ne (by cases e; rfl))).trans h5.blk
    have hat6 := (hg4.block w1.heap.size (Array.getElem?_eq_some_iff.1 hat5).1 (fun e => by have := h1.ltm; cases e; omega)).trans hat5
    obtain ⟨q0, q1, _, _⟩ := file_at hat6
    have c2 : w4.cell? ⟨d, 2, none⟩ = some (.int .i64 (total y.D)) := Lib.cell_of_heap hd4 2
    have z2 := Lib.frozen_of_heap hd4 2
    have T8 := (T7.grown hg4).drew
    have hown5 : w4.drew.ownsMap Try.prog 9 fileElem m (Maps.size y.D + 1) (y.D.put (keyL nb) (fd s.data.toList k)) := hown4
    have hd5 : w4.drew.heap[d]? = _ := hd4
    have rm := h5.ok.room
    have hsum : IntKind.i64.wrap ((total y.D : Int) + s.size) = (total y.D : Int) + s.size := IntWalk.i64_in _ (by omega)
    go_still_tail 10, (by kernel_rfl)
    change wpList _ _ _ _ _ w4.drew
    have zd : w4.drew.frozen? ⟨d, 2, none⟩ = false := z2
    have cd : w4.drew.cell? ⟨d, 2, none⟩ = some (.int .i64 (total y.D)) := c2
    generalize w4.drew = V at *
    go_wp2
    go_ret
    have e1 := total_put_eq (x := y) h5.tidy nb s.data.toList k
    have e2 : s.data.toList.length = s.size := by rw [Array.length_toList]; rfl
    rw [r2, e2] at e1
    refine ⟨by rw [hE]; rfl, ?_, T8.setD _ _⟩
    rw [hR]
    refine ⟨h5.ne, ?_, tight (hown5.setCell (a := ⟨d, 2, none⟩) h5.ne _), h5.ok.put h5.tidy nb _ k (.inr r3) (by rw [e2, r2]; omega)⟩
    have e5 : ((total (y.put nb s.data.toList k).D : Nat) : Int) = (total y.D : Int) + s.size := by omega
    simp only [Dk.put] at e5
    simp [World.setCell, Array.getElem?_modify, hd5, dkCells, Dk.put, e5]
  · have hR : x.renamed na nb = x.called := by simp [Dk.renamed, hE]
    clear hf hg
    go_wp2
    go_ret
    exact ⟨rfl, by rw [hR]; exact h1.alloc _, T.alloc _⟩
end Go.Proofs.Ytdmmfeglnmkmdaa
