/- commit.Load: what it tells, and leaves. -/
import Derived.Test.YtdmmfeglnmkmdaaW2
namespace Go.Proofs.Ytdmmfeglnmkmdaa
open Go.RowKit Plain

theorem results_cell_slot2 {P : Program} {fn : Func} {p q r : Tmp} {ty : TypeId} (h : fn.results = #[.cell p ty, .tmp q, .tmp r]) (tmps : Array Value) (w : World) (g : Nat) (t : TypeId) (cs : Array Value) (fr : Nat × Nat) (d : TypeDesc)
    (hp : tmps.getD p undef = .pointer (some ⟨g, 0, none⟩)) (hg : w.heap[g]? = some (.cells cs t fr))
    (hu : P.underlying ty = some d) (hd : (match d with | .struct _ | .array _ _ => true | _ => false) = true) (hi : (P.info? ty).map (·.size) = some cs.size) :
    (results fn tmps).run P w = .ok (.tuple #[.agg cs, tmps.getD q undef, tmps.getD r undef]) w := by
  have hp' : tmps[p]?.getD undef = .pointer (some ⟨g, 0, none⟩) := by simpa using hp
  simp [results, h, hp', asAddr, run_loadVar_row w g t ty cs fr d hg hu hd hi]

/-- What Load tells, and leaves. -/
def Dk.loadM (x : Dk) : Option Mf × Int := if x.findE nN = 0 then (if x.called.findE nN = 0 then (match getM (x.bytes nN) with | some m => (some m, 0) | none => (none, 6)) else (none, x.called.findE nN)) else if x.findE nN = 2 then (none, 0) else (none, 5)
def Dk.loadS (x : Dk) : Dk := if x.findE nN = 0 then x.called.called else x.called
def LoadPost (x : Dk) (d m : Nat) (w : World) (e : Ending) (w' : World) : Prop := IsDisk w' d m x.loadS ∧ Turn d m w w' ∧ match x.loadM.1 with
  | some mf => ∃ v, e = .returned (.tuple #[.agg #[.int .i64 mf.stage, .int .i64 mf.pass, v], .bool true, .int .i64 x.loadM.2]) ∧ Files w' v mf.files
  | none => e = .returned (.tuple #[zeroM, .bool false, .int .i64 x.loadM.2])
theorem loadPost_no {x : Dk} {d m : Nat} {w w' : World} {er : Int} (hM : x.loadM = (none, er)) (y : Dk) (hS : x.loadS = y) (h : IsDisk w' d m y) (T : Turn d m w w') (v : Int) (hv : v = er) : LoadPost x d m w (.returned (.tuple #[zeroM, .bool false, .int .i64 v])) w' := by
  subst hv
  refine ⟨by rw [hS]; exact h, T, ?_⟩
  rw [hM]
theorem Files.set3 {w : World} {v : Value} {fs : List Fl} {b : Nat} {t : TypeId} (h : Files w v fs) (hb : w.heap[b]? = some (.cells #[.int .i64 0, .int .i64 0, .slice none 0 0] t (0, 0))) (x y z : Value) :
    Files (((w.setCell ⟨b, 0, none⟩ x).setCell ⟨b, 1, none⟩ y).setCell ⟨b, 2, none⟩ z) v fs := by
  obtain ⟨A, c, rfl, h1, h2, h3⟩ := h
  refine ⟨A, c, rfl, h1, h2, fun i f hf => ?_⟩
  obtain ⟨ad, rfl, hc⟩ := h3 i f hf
  have hne : ad.block ≠ b := by
    intro e
    have h4 := hc 3 (.int .u32 f.sum) rfl
    have h5 : ad.add (i * 4 + 3) = ⟨ad.block, ad.off + (i * 4 + 3), none⟩ := by unfold Addr.add; split <;> simp_all
    rw [h5, e, Lib.cell_of_heap hb] at h4
    generalize ad.off + (i * 4 + 3) = o at h4
    match o, h4 with
    | 0, h4 => cases h4
    | 1, h4 => cases h4
    | 2, h4 => cases h4
    | o + 3, h4 => simp at h4
  refine ⟨ad, rfl, fun j u hu => ?_⟩
  have hbl : (ad.add (i * 4 + j)).block = ad.block := by unfold Addr.add; split <;> rfl
  rw [World.cell?_setCell_far _ _ _ _ (by rw [hbl]; exact hne.symm), World.cell?_setCell_far _ _ _ _ (by rw [hbl]; exact hne.symm), World.cell?_setCell_far _ _ _ _ (by rw [hbl]; exact hne.symm)]
  exact hc j u hu
theorem IsDisk.bytes_len {w : World} {d m : Nat} {x : Dk} (h : IsDisk w d m x) {nm : ByteArray} (hs : nm.size ≤ maxLen) : (x.bytes nm).length = x.sz nm := by
  obtain ⟨s, k, _, hat, _, _⟩ := h.at_file hs
  obtain ⟨h1, _, h3⟩ := bytes_of hat
  rw [h1, h3, ba_length]
theorem loadPost_yes {x : Dk} {d m : Nat} {w w' : World} {mf : Mf} (hM : x.loadM = (some mf, 0)) (y : Dk) (hS : x.loadS = y) (h : IsDisk w' d m y) (T : Turn d m w w') (v : Value) (hf : Files w' v mf.files) : LoadPost x d m w (.returned (.tuple #[.agg #[.int .i64 mf.stage, .int .i64 mf.pass, v], .bool true, .int .i64 0])) w' := by
  refine ⟨by rw [hS]; exact h, T, ?_⟩
  rw [hM]
  exact ⟨v, rfl, hf⟩
set_option maxHeartbeats 3200000 in
set_option maxRecDepth 100000 in
theorem load_any (d m : Nat) (x : Dk) (w : World) (h : IsDisk w d m x) : Calls Try.prog 11 #[.pointer (some ⟨d, 0, none⟩)] w (LoadPost x d m w) := by
  have hd := h.ltd
  have hm := h.ltm
  have h0 := h.alloc (.cells #[.int .i64 0, .int .i64 0, .slice none 0 0] 31)
  have T0 := (Turn.refl d m w).alloc (.cells #[.int .i64 0, .int .i64 0, .slice none 0 0] 31)
  have g0 := heap_alloc_new w (.cells #[.int .i64 0, .int .i64 0, .slice none 0 0] 31)
  have hfit := h.ok.fits
  have hroom := h.ok.room
  have hszt : x.sz nN ≤ total x.D := by
    have := total_del (D := x.D) h.tidy (keyL nN)
    have e : lenOf (x.D.atKey (keyL nN) (fd [] 0)) = x.sz nN := rfl
    omega
  have hblen := Lib.hid (h.bytes_len nN_size)
  clear h
  go_enter Try.func11, Try.ntmps11
  go_wp2_with fail
  generalize w.alloc (.cells #[.int .i64 0, .int .i64 0, .slice none 0 0] 31) = w0 at *
  refine (size_any d m x nN _ h0 nN_size nN_name).mono ?_
  rintro e w1 ⟨rfl, h1, T1⟩
  have g1 := T1.kept g0 (by omega) (by omega)
  have T1 := T0.trans T1
  have z0 := Lib.frozen_of_heap g1 0
  have z1 := Lib.frozen_of_heap g1 1
  have z2 := Lib.frozen_of_heap g1 2
  have q0 : w1.cell? ⟨w.heap.size, 0, none⟩ = some (.int .i64 0) := Lib.cell_of_heap g1 0
  have q1 : w1.cell? ⟨w.heap.size, 1, none⟩ = some (.int .i64 0) := Lib.cell_of_heap g1 1
  have q2 : w1.cell? ⟨w.heap.size, 2, none⟩ = some (.slice none 0 0) := Lib.cell_of_heap g1 2
  rcases x.findE_cases nN with hE | hE | hE
  · have hL : Hid (x.loadM = if x.called.findE nN = 0 then (match getM (x.bytes nN) with | some m => (some m, 0) | none => (none, 6)) else (none, x.called.findE nN)) := by
      unfold Hid Dk.loadM; rw [if_pos hE]
    have hS : Hid (x.loadS = x.called.called) := by unfold Hid Dk.loadS; rw [if_pos hE]
    have hsn : x.sizeN nN = x.sz nN := by unfold Dk.sizeN; rw [if_pos hE]
    have HE := Lib.hid hE
    rw [hE, hsn]
    clear hE hsn h0 g0 T0 z0 z1 z2 q0 q1 q2
    go_wp2_with fail
    refine (read_whole d m x.called nN (x.sz nN) _ h1 nN_size nN_name (fun _ => rfl) (by omega)).mono ?_
    rintro e w2 ⟨s, rfl, h2, T2, hs1, hs2⟩
    have g2 := T2.kept g1 (by omega) (by omega)
    have T2 := T1.trans T2
    have z0 := Lib.frozen_of_heap g2 0
    have z1 := Lib.frozen_of_heap g2 1
    have z2 := Lib.frozen_of_heap g2 2
    have q0 : w2.cell? ⟨w.heap.size, 0, none⟩ = some (.int .i64 0) := Lib.cell_of_heap g2 0
    have q1 : w2.cell? ⟨w.heap.size, 1, none⟩ = some (.int .i64 0) := Lib.cell_of_heap g2 1
    have q2 : w2.cell? ⟨w.heap.size, 2, none⟩ = some (.slice none 0 0) := Lib.cell_of_heap g2 2
    by_cases hE2 : x.called.findE nN = 0
    · have hL2 : Hid (x.loadM = (match getM (x.bytes nN) with | some m => (some m, 0) | none => (none, 6))) := by unfold Hid; rw [hL.out, if_pos hE2]
      have hsb : s.data.toList = x.bytes nN := hs1 hE2
      have hss : s.size ≤ 1073741824 := by
        have e1 := hblen.out
        have e2 := ba_length s
        rw [hsb] at e2
        omega
      rw [hE2]
      clear hs1 hs2 hE2 hL
      go_wp2_with fail
      refine (get_any s _ hss).mono ?_
      rw [hsb]
      rintro e w3 ⟨hb3, hp⟩
      have g3 := (hb3.block _ (heap_lt g2)).trans g2
      have h3 := h2.below hb3
      have T3 := T2.trans (Turn.of_below hb3)
      have hlt3 := heap_lt g3
      clear z0 z1 z2 q0 q1 q2 h2 g2 T2 hb3 h1 g1 T1
      have zz0 := Lib.frozen_of_heap g3 0
      have zz1 := Lib.frozen_of_heap g3 1
      have zz2 := Lib.frozen_of_heap g3 2
      have qq0 : w3.cell? ⟨w.heap.size, 0, none⟩ = some (.int .i64 0) := Lib.cell_of_heap g3 0
      have qq1 : w3.cell? ⟨w.heap.size, 1, none⟩ = some (.int .i64 0) := Lib.cell_of_heap g3 1
      have qq2 : w3.cell? ⟨w.heap.size, 2, none⟩ = some (.slice none 0 0) := Lib.cell_of_heap g3 2
      cases hg : getM (x.bytes nN) with
      | none =>
        rw [hg] at hp
        simp only at hp
        subst hp
        unfold zeroM
        have hM : Hid (x.loadM = (none, 6)) := by unfold Hid; rw [hL2.out, hg]
        clear hg hL2
        go_wp2_with fail
        refine bodyPost_ret (results_cell_slot2 Try.results11 _ _ w.heap.size 31 _ (0, 0) _ (by simp) ((Below.heap_alloc _ _ w.heap.size (by simp [World.setCell]; omega)).trans (set3 g3 _ _ _)) Try.underlying31 rfl (by kernel_rfl)) rfl ?_
        exact loadPost_no hM.out _ hS.out ((((h3.setNew _ (by omega) (by omega) _ _).setNew _ (by omega) (by omega) _ _).setNew _ (by omega) (by omega) _ _).alloc _) ((((T3.setNew _ (Nat.le_refl _) _ _).setNew _ (Nat.le_refl _) _ _).setNew _ (Nat.le_refl _) _ _).alloc _) _ rfl
      | some mf =>
        rw [hg] at hp
        simp only at hp
        obtain ⟨v, rfl, hf⟩ := hp
        have hM : Hid (x.loadM = (some mf, 0)) := by unfold Hid; rw [hL2.out, hg]
        obtain ⟨A, cap0, rfl⟩ : ∃ A cap0, v = .slice A mf.files.length cap0 := by
          obtain ⟨A, c, rfl, _⟩ := id hf
          exact ⟨_, _, rfl⟩
        clear hg hL2
        go_wp2_with fail
        refine bodyPost_ret (results_cell_slot2 Try.results11 _ _ w.heap.size 31 _ (0, 0) _ (by simp) ((Below.heap_alloc _ _ w.heap.size (by simp [World.setCell]; omega)).trans (set3 g3 _ _ _)) Try.underlying31 rfl (by kernel_rfl)) rfl ?_
        exact loadPost_yes hM.out _ hS.out ((((h3.setNew _ (by omega) (by omega) _ _).setNew _ (by omega) (by omega) _ _).setNew _ (by omega) (by omega) _ _).alloc _) ((((T3.setNew _ (Nat.le_refl _) _ _).setNew _ (Nat.le_refl _) _ _).setNew _ (Nat.le_refl _) _ _).alloc _) _ ((hf.set3 g3 _ _ _).below ((Below.refl _ _).alloc (Nat.le_refl _) _))
    · have hM : Hid (x.loadM = (none, x.called.findE nN)) := by unfold Hid; rw [hL.out, if_neg hE2]
      have hne1 : (x.called.findE nN != 0) = true := by simpa using hE2
      generalize x.called.findE nN = er at *
      clear hE2 hs1 hs2 hL
      go_wp2_with fail
      refine bodyPost_ret (results_cell_slot2 Try.results11 _ _ w.heap.size 31 _ (0, 0) _ (by simp) (set3 g2 _ _ _) Try.underlying31 rfl (by kernel_rfl)) rfl ?_
      exact loadPost_no hM.out _ hS.out (((h2.setNew _ (by omega) (by omega) _ _).setNew _ (by omega) (by omega) _ _).setNew _ (by omega) (by omega) _ _) (((T2.setNew _ (Nat.le_refl _) _ _).setNew _ (Nat.le_refl _) _ _).setNew _ (Nat.le_refl _) _ _) _ rfl
  · have hL : Hid (x.loadM = (none, 0)) := by unfold Hid Dk.loadM; rw [if_neg (by omega), if_pos hE]
    have hS : Hid (x.loadS = x.called) := by unfold Hid Dk.loadS; rw [if_neg (by omega)]
    rw [hE]
    clear hE
    go_wp2_with fail
    refine bodyPost_ret (results_cell_slot2 Try.results11 _ _ w.heap.size 31 _ (0, 0) _ (by simp) (set3 g1 _ _ _) Try.underlying31 rfl (by kernel_rfl)) rfl ?_
    exact loadPost_no hL.out _ hS.out (((h1.setNew _ (by omega) (by omega) _ _).setNew _ (by omega) (by omega) _ _).setNew _ (by omega) (by omega) _ _) (((T1.setNew _ (Nat.le_refl _) _ _).setNew _ (Nat.le_refl _) _ _).setNew _ (Nat.le_refl _) _ _) _ rfl
  · have hL : Hid (x.loadM = (none, 5)) := by unfold Hid Dk.loadM; rw [if_neg (by omega), if_neg (by omega)]
    have hS : Hid (x.loadS = x.called) := by unfold Hid Dk.loadS; rw [if_neg (by omega)]
    rw [hE]
    clear hE
    go_wp2_with fail
    refine bodyPost_ret (results_cell_slot2 Try.results11 _ _ w.heap.size 31 _ (0, 0) _ (by simp) (set3 g1 _ _ _) Try.underlying31 rfl (by kernel_rfl)) rfl ?_
    exact loadPost_no hL.out _ hS.out (((h1.setNew _ (by omega) (by omega) _ _).setNew _ (by omega) (by omega) _ _).setNew _ (by omega) (by omega) _ _) (((T1.setNew _ (Nat.le_refl _) _ _).setNew _ (Nat.le_refl _) _ _).setNew _ (Nat.le_refl _) _ _) _ rfl
end Go.Proofs.Ytdmmfeglnmkmdaa
