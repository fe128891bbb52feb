/- Manifests and tries that are few. -/
import Derived.Test.YtdmmfeglnmkmdaaQ3
namespace Go.Proofs.Ytdmmfeglnmkmdaa
open Go.RowKit Plain

def fewM (m : Mf) : Bool := (m.files.take 20).all (fun f => decide (f.name.size ≤ 40)) && decide (m.files.length ≤ 20)
set_option maxHeartbeats 1600000 in
set_option maxRecDepth 100000 in
theorem fewM_any (m : Mf) (v : Value) (w : World) (hf : Files w v m.files) :
    Calls Try.prog 27 #[.agg #[.int .i64 m.stage, .int .i64 m.pass, v]] w fun e w' => e = .returned (.bool (fewM m)) ∧ Below w.heap.size w w' := by
  obtain ⟨A, c, rfl, h1, h2, h3⟩ := id hf
  unfold maxLen at h2
  clear h3
  have hb1 := (Below.refl _ w).alloc (Nat.le_refl _) (.cells #[.int .i64 m.stage, .int .i64 m.pass, .slice A m.files.length c] 31)
  have hfb := hf.below hb1
  have hnew := heap_alloc_new w (.cells #[.int .i64 m.stage, .int .i64 m.pass, .slice A m.files.length c] 31)
  have hyes : Hid ((m.files.take 20).all (fun f => decide (f.name.size ≤ 40)) = true → fewM m = decide (m.files.length ≤ 20)) := by
    intro h
    unfold fewM
    rw [h]
    rfl
  have hno : Hid (∀ k (h : k < m.files.length), k < 20 → 40 < m.files[k].name.size → fewM m = false) := by
    intro k h hk hs
    unfold fewM
    rw [Bool.and_eq_false_iff]
    left
    rw [List.all_eq_false]
    exact ⟨m.files[k], List.mem_take_iff_getElem.2 ⟨k, by omega, rfl⟩, by simp; omega⟩
  generalize fewM m = q at *
  obtain ⟨stage, pass, fs⟩ := m
  simp only at *
  go_enter Try.func27, Try.ntmps27
  go_wp2_with fail
  generalize w.alloc (.cells #[.int .i64 stage, .int .i64 pass, .slice A fs.length c] 31) = W at *
  have y2 : W.cell? ⟨w.heap.size, 2, none⟩ = some (.slice A fs.length c) := Lib.cell_of_heap hnew 2
  go_loop [3] (fun i => ∃ k : Nat, k ≤ fs.length ∧ k ≤ 20 ∧ i = .int .i64 k ∧ Hid ((fs.take k).all (fun f => decide (f.name.size ≤ 40)) = true)) (fun i => fs.length - (intOf i).toNat)
  case atStart => exact ⟨0, Nat.zero_le _, by omega, rfl, rfl⟩
  case round =>
    obtain ⟨k, hk, hk20, rfl, hall⟩ := hrel
    by_cases hlt : k < fs.length ∧ k < 20
    · obtain ⟨hlt, h20⟩ := hlt
      obtain ⟨ad, rfl, c0, c1, c2, c3⟩ := hfb.at_ k hlt
      have hk0 : (0 : Int) ≤ (k : Int) := Int.natCast_nonneg _
      have hk1 : (k : Int) < (fs.length : Int) := by omega
      have hsn : Hid ((fs.take (k + 1)).all (fun f => decide (f.name.size ≤ 40)) = ((fs.take k).all (fun f => decide (f.name.size ≤ 40)) && decide (fs[k].name.size ≤ 40))) := by
        unfold Hid
        rw [List.take_succ_eq_append_getElem hlt, List.all_append]
        simp
      have hn1 : Hid (40 < fs[k].name.size → q = false) := hno.out k hlt h20
      generalize fs[k] = f at *
      by_cases h40 : f.name.size ≤ 40
      · have hd : Hid (decide (f.name.size ≤ 40) = true) := by unfold Hid; simp [h40]
        go_wp2_with fail
        go_round
        case rel => exact ⟨k + 1, by omega, by omega, by go_num, by unfold Hid; rw [hsn.out, hall.out, hd.out]; rfl⟩
        case measure => simp [intOf]; omega
      · have hv : Hid (q = false) := hn1.out (by omega)
        have h41 : 40 < f.name.size := by omega
        clear h40
        go_wp2_with fail
        go_ret
        exact ⟨ret_bool hv.out.symm, hb1⟩
    · have ht : Hid (q = decide (fs.length ≤ 20)) := by
        apply hyes.out
        have : fs.take 20 = fs.take k := by
          by_cases h : k < fs.length
          · rw [show k = 20 by omega]
          · rw [List.take_of_length_le (by omega), List.take_of_length_le (by omega)]
        rw [this]
        exact hall.out
      by_cases h : k < fs.length
      · obtain rfl : k = 20 := by omega
        clear hlt
        go_wp2_with fail
        go_ret
        exact ⟨ret_bool (by rw [ht.out]; simp; omega), hb1⟩
      · obtain rfl : k = fs.length := by omega
        clear hlt
        go_wp2_with fail
        go_ret
        exact ⟨ret_bool (by rw [ht.out]; simp; omega), hb1⟩

/-- A try: a manifest that is saved, a fall, and what stays. -/
structure Tr where
  m : Mf
  fuse : Int
  keep : List Int
structure Tr.wf (t : Tr) : Prop where
  m : t.m.wf
  f0 : -9223372036854775808 ≤ t.fuse
  f1 : t.fuse ≤ 9223372036854775807
  ks : ∀ n ∈ t.keep, -9223372036854775808 ≤ n ∧ n ≤ 9223372036854775807
def trC (t : Tr) (vf vk : Value) : List Value := [.int .i64 t.m.stage, .int .i64 t.m.pass, vf, .int .i64 t.fuse, vk]
def Tries (w : World) (v : Value) (l : List Tr) : Prop :=
  ∃ A c, v = .slice A l.length c ∧ l.length ≤ c ∧ c ≤ maxLen ∧ ∀ (i : Nat) (t : Tr), l[i]? = some t → ∃ ad vf vk, A = some ad ∧ Files w vf t.m.files ∧ Ints w vk t.keep ∧ ∀ (j : Nat) (x : Value), (trC t vf vk)[j]? = some x → w.cell? (ad.add (i * 5 + j)) = some x
theorem Tries.below {w w1 : World} {v : Value} {l : List Tr} (h : Tries w v l) (hb : Below w.heap.size w w1) : Tries w1 v l := by
  obtain ⟨A, c, rfl, h1, h2, h3⟩ := h
  refine ⟨A, c, rfl, h1, h2, fun i t hf => ?_⟩
  obtain ⟨ad, vf, vk, rfl, a, b, hc⟩ := h3 i t hf
  exact ⟨ad, vf, vk, rfl, a.below hb, b.below hb, fun j x hx => keepCell (hc j x hx) hb⟩
theorem Tries.at_ {w : World} {A : Option Addr} {n c : Nat} {l : List Tr} (h : Tries w (.slice A n c) l) (k : Nat) (hk : k < l.length) :
    ∃ ad vf vk, A = some ad ∧ Files w vf l[k].m.files ∧ Ints w vk l[k].keep ∧ w.cell? (ad.add (k * 5)) = some (.int .i64 l[k].m.stage) ∧ w.cell? ⟨(ad.add (k * 5)).block, (ad.add (k * 5)).off + 1, none⟩ = some (.int .i64 l[k].m.pass) ∧
      w.cell? ⟨(ad.add (k * 5)).block, (ad.add (k * 5)).off + 2, none⟩ = some vf ∧ w.cell? ⟨(ad.add (k * 5)).block, (ad.add (k * 5)).off + 3, none⟩ = some (.int .i64 l[k].fuse) ∧ w.cell? ⟨(ad.add (k * 5)).block, (ad.add (k * 5)).off + 4, none⟩ = some vk := by
  obtain ⟨A', c', hv, h1, h2, h3⟩ := h
  injection hv with e1 e2 e3
  subst e1 e3
  obtain ⟨ad, vf, vk, rfl, a, b, hc⟩ := h3 k l[k] (List.getElem?_eq_getElem hk)
  refine ⟨ad, vf, vk, rfl, a, b, hc 0 _ rfl, ?_, ?_, ?_, ?_⟩
  · rw [← add_add4 ad (k * 5) 1 (by decide)]; exact hc 1 _ rfl
  · rw [← add_add4 ad (k * 5) 2 (by decide)]; exact hc 2 _ rfl
  · rw [← add_add4 ad (k * 5) 3 (by decide)]; exact hc 3 _ rfl
  · rw [← add_add4 ad (k * 5) 4 (by decide)]; exact hc 4 _ rfl
def smallT (t : Tr) : Bool := fewM t.m && decide (t.keep.length ≤ 10)
def fewT (l : List Tr) : Bool := (l.take 8).all smallT && decide (l.length ≤ 8)
set_option maxHeartbeats 1600000 in
set_option maxRecDepth 100000 in
theorem few_any (v : Value) (l : List Tr) (w : World) (hl : Tries w v l) :
    Calls Try.prog 5 #[v] w fun e w' => e = .returned (.bool (fewT l)) ∧ Below w.heap.size w w' := by
  obtain ⟨A, c, rfl, h1, h2, h3⟩ := id hl
  unfold maxLen at h2
  clear h3
  have hyes : Hid ((l.take 8).all smallT = true → fewT l = decide (l.length ≤ 8)) := by
    intro h
    unfold fewT
    rw [h]
    rfl
  have hno : Hid (∀ k (h : k < l.length), k < 8 → smallT l[k] = false → fewT l = false) := by
    intro k h hk hs
    unfold fewT
    rw [Bool.and_eq_false_iff]
    left
    rw [List.all_eq_false]
    exact ⟨l[k], List.mem_take_iff_getElem.2 ⟨k, by omega, rfl⟩, by simp [hs]⟩
  generalize fewT l = q at *
  go_enter Try.func5, Try.ntmps5
  go_wp2_with fail
  go_loopw [3] (fun i wr => ∃ k : Nat, k ≤ l.length ∧ k ≤ 8 ∧ i = .int .i64 k ∧ Hid ((l.take k).all smallT = true) ∧ Below w.heap.size w wr) (fun i _ => l.length - (intOf i).toNat)
  case atStart => exact ⟨0, Nat.zero_le _, by omega, rfl, rfl, Below.refl _ _⟩
  case round =>
    rename_i wr _
    obtain ⟨k, hk, hk20, rfl, hall, hbr⟩ := hrel
    by_cases hlt : k < l.length ∧ k < 8
    · obtain ⟨hlt, h20⟩ := hlt
      obtain ⟨ad, vf, vk, rfl, hF, hI, c0, c1, c2, c3, c4⟩ := (hl.below hbr).at_ k hlt
      obtain ⟨A1, n1, hv1, _⟩ := id hF
      obtain ⟨A2, n2, hv2, _⟩ := id hI
      have hk0 : (0 : Int) ≤ (k : Int) := Int.natCast_nonneg _
      have hk1 : (k : Int) < (l.length : Int) := by omega
      have hsn : Hid ((l.take (k + 1)).all smallT = ((l.take k).all smallT && smallT l[k])) := by
        unfold Hid
        rw [List.take_succ_eq_append_getElem hlt, List.all_append]
        simp
      have hn1 : Hid (smallT l[k] = false → q = false) := hno.out k hlt h20
      generalize l[k] = t at *
      subst hv1 hv2
      go_wp2_with fail
      refine (fewM_any t.m _ _ hF).mono ?_
      rintro e w1 ⟨rfl, hb1⟩
      have hbr1 := keepBelow hbr hb1
      have d4 := keepCell c4 hb1
      have hst : Hid (smallT t = (fewM t.m && decide (t.keep.length ≤ 10))) := rfl
      generalize fewM t.m = fm at *
      clear c0 c1 c2 c3 c4
      cases fm
      · have hv : Hid (q = false) := hn1.out (by rw [hst.out]; rfl)
        go_wp2_with fail
        go_ret
        exact ⟨ret_bool hv.out.symm, hbr1⟩
      · by_cases h10 : t.keep.length ≤ 10
        · have hd : Hid (smallT t = true) := by unfold Hid; rw [hst.out]; simp [h10]
          go_wp2_with fail
          go_roundw
          case rel => exact ⟨k + 1, by omega, by omega, by go_num, by unfold Hid; rw [hsn.out, hall.out, hd.out]; rfl, hbr1⟩
          case measure => simp [intOf]; omega
        · have hv : Hid (q = false) := hn1.out (by rw [hst.out]; simp; omega)
          have h41 : 10 < t.keep.length := by omega
          clear h10
          go_wp2_with fail
          go_ret
          exact ⟨ret_bool hv.out.symm, hbr1⟩
    · have ht : Hid (q = decide (l.length ≤ 8)) := by
        apply hyes.out
        have : l.take 8 = l.take k := by
          by_cases h : k < l.length
          · rw [show k = 8 by omega]
          · rw [List.take_of_length_le (by omega), List.take_of_length_le (by omega)]
        rw [this]
        exact hall.out
      by_cases h : k < l.length
      · obtain rfl : k = 8 := by omega
        clear hlt
        go_wp2_with fail
        go_ret
        exact ⟨ret_bool (by rw [ht.out]; simp; omega), hbr⟩
      · obtain rfl : k = l.length := by omega
        clear hlt
        go_wp2_with fail
        go_ret
        exact ⟨ret_bool (by rw [ht.out]; simp; omega), hbr⟩
end Go.Proofs.Ytdmmfeglnmkmdaa
