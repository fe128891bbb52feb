/- manifest.Put computes the plain bytes. -/
import Derived.Test.YtdmmfeglnmkmdaaM3
namespace Go.Proofs.Ytdmmfeglnmkmdaa
open Go.RowKit Plain

def flO (f : Fl) : Obj := .cells #[.string f.name, .int .i64 f.size, .int .i64 f.count, .int .u32 f.sum] 78
theorem flO_cells {w : World} {g : Nat} {f : Fl} (h : w.heap[g]? = some (flO f)) :
    w.cell? ⟨g, 0, none⟩ = some (.string f.name) ∧ w.cell? ⟨g, 1, none⟩ = some (.int .i64 f.size) ∧ w.cell? ⟨g, 2, none⟩ = some (.int .i64 f.count) ∧ w.cell? ⟨g, 3, none⟩ = some (.int .u32 f.sum) :=
  ⟨Lib.cell_of_heap h 0, Lib.cell_of_heap h 1, Lib.cell_of_heap h 2, Lib.cell_of_heap h 3⟩
theorem manB_pre (m : Mf) : manB m = (((magic ++ beL 2 m.stage.toNat) ++ beL 2 m.pass.toNat) ++ beL 1 m.files.length) ++ m.files.flatMap flB := by
  simp [manB]
theorem files_len (fs : List Fl) (h : ∀ f ∈ fs, f.name.size ≤ 24) : (fs.flatMap flB).length ≤ fs.length * 38 := by
  induction fs with
  | nil => simp
  | cons f fs ih =>
    have h1 := h f List.mem_cons_self
    have h2 := ih (fun g hg => h g (List.mem_cons_of_mem _ hg))
    rw [List.flatMap_cons, List.length_append, flB_length, List.length_cons]
    omega
theorem Bl.alloc {N b : Nat} {bs : List Value} {w : World} (h : Bl N b bs w) (o : Obj) : Bl N b bs (w.alloc o) := h.below ((Below.refl _ w).alloc (Nat.le_refl _) o)
theorem manB_pre2 (sn pn : Nat) (fs : List Fl) : manB ⟨sn, pn, fs⟩ = (((magic ++ beL 2 sn) ++ beL 2 pn) ++ beL 1 fs.length) ++ fs.flatMap flB := by
  simp [manB]
set_option maxHeartbeats 3200000 in
set_option maxRecDepth 100000 in
theorem mput_nat (sn pn : Nat) (fs : List Fl) (v : Value) (w : World) (hf : Files w v fs) (hw : Mf.wf ⟨sn, pn, fs⟩) (hr : rightB ⟨sn, pn, fs⟩ = true) :
    Calls Try.prog 29 #[.agg #[.int .i64 sn, .int .i64 pn, v]] w fun e w' => e = .returned (.tuple #[.string ⟨(closeL (manB ⟨sn, pn, fs⟩)).toArray⟩, .bool true]) ∧ Below w.heap.size w w' := by
  have hmay : Hid (∀ f ∈ fs, May f ∧ f.wf) := fun f hf => ⟨may_of (right_at hr hf), hw f hf⟩
  obtain ⟨s0, s1, p0, p1, few⟩ := head_of (right_head hr)
  simp only at s0 s1 p0 p1 few
  have hR := Lib.hid hr
  have hman := Lib.hid (manB_pre2 sn pn fs)
  obtain ⟨A, c, rfl, h1, h2, h3⟩ := id hf
  unfold maxLen at h2
  clear h3 hr hw
  have hfb := hf.below ((Below.refl _ w).alloc (Nat.le_refl _) (.cells #[.int .i64 sn, .int .i64 pn, .slice A fs.length c] 31))
  have hnew := heap_alloc_new w (.cells #[.int .i64 sn, .int .i64 pn, .slice A fs.length c] 31)
  have hN : Hid (∀ f ∈ fs, f.name.size ≤ 9223372036854775807) := fun f hf => by have := (hmay f hf).1.len; omega
  go_enter Try.func29, Try.ntmps29
  go_wp2_with fail
  refine (mright_any ⟨sn, pn, fs⟩ _ _ hfb hN.out).mono ?_
  rw [hR.out]
  rintro e w1 ⟨rfl, hb1⟩
  have hbx1 := keepBelow ((Below.refl _ w).alloc (Nat.le_refl _) _) hb1
  have hbox := (hb1.block w.heap.size (by simp)).trans hnew
  have hz1 : w.heap.size < w1.heap.size := by have := hb1.size; simp at this; omega
  clear hfb hnew hb1 hN hR
  have hB0 : Bl (w1.heap.size + 1) w1.heap.size (Lib.byteCells []) (w1.alloc (.cells #[.pointer none, .slice none 0 0] 99)) :=
    ⟨by omega, by simp, .pointer none, .slice none 0 0, heap_alloc_new w1 _, .inl rfl, World.ownsRow_nil _ _ _ _⟩
  have hbox2 : (w1.alloc (.cells #[.pointer none, .slice none 0 0] 99)).heap[w.heap.size]? = some (.cells #[.int .i64 sn, .int .i64 pn, .slice A fs.length c] 31 (0, 0)) := (Below.heap_alloc w1 _ w.heap.size hz1).trans hbox
  have hbx2 : Below w.heap.size w (w1.alloc (.cells #[.pointer none, .slice none 0 0] 99)) := hbx1.alloc hbx1.size _
  clear hbox hbx1
  go_wp2_with fail
  generalize w1.alloc (.cells #[.pointer none, .slice none 0 0] 99) = W at *
  refine (writeString_any _ _ _ ⟨#[77, 65, 78, 49]⟩ _ hB0 (by simp [Lib.byteCells]; decide)).mono ?_
  rintro e w2 ⟨rfl, B1, K1⟩
  have e1 : Lib.byteCells [] ++ Lib.strCells ⟨#[77, 65, 78, 49]⟩ = Lib.byteCells magic := rfl
  rw [e1] at B1
  clear e1 hB0
  have c0 : w2.cell? ⟨w.heap.size, 0, none⟩ = some (.int .i64 sn) := Lib.cell_of_heap ((K1.block _ (by omega) (by omega)).trans hbox2) 0
  go_wp2_with fail
  refine (lay_any _ _ _ sn 2 _ B1 (by decide) (by omega) (by omega) (by omega) (by omega)).mono ?_
  rintro e w3 ⟨rfl, B2, K2⟩
  have K2 := K1.trans K2
  clear K1 B1 c0
  have c1 : w3.cell? ⟨w.heap.size, 1, none⟩ = some (.int .i64 pn) := Lib.cell_of_heap ((K2.block _ (by omega) (by omega)).trans hbox2) 1
  go_wp2_with fail
  refine (lay_any _ _ _ pn 2 _ B2 (by simp [beL_length, magic]) (by omega) (by omega) (by omega) (by omega)).mono ?_
  rintro e w4 ⟨rfl, B3, K3⟩
  have K3 := K2.trans K3
  clear K2 B2 c1
  have c2 : w4.cell? ⟨w.heap.size, 2, none⟩ = some (.slice A fs.length c) := Lib.cell_of_heap ((K3.block _ (by omega) (by omega)).trans hbox2) 2
  go_wp2_with fail
  refine (lay_any _ _ _ fs.length 1 _ B3 (by simp [beL_length, magic]) (by omega) (by omega) (by omega) (by omega)).mono ?_
  rintro e w5 ⟨rfl, B4, K4⟩
  have K4 := K3.trans K4
  clear K3 B3 c2
  have c3 : w5.cell? ⟨w.heap.size, 2, none⟩ = some (.slice A fs.length c) := Lib.cell_of_heap ((K4.block _ (by omega) (by omega)).trans hbox2) 2
  have hpl : (((magic ++ beL 2 sn) ++ beL 2 pn) ++ beL 1 fs.length).length ≤ 9 := by simp [beL_length, magic]
  generalize (((magic ++ beL 2 sn) ++ beL 2 pn) ++ beL 1 fs.length) = pre at *
  go_wp2_with fail
  clear c3
  go_loopw [30] (fun i wr => ∃ k : Nat, k ≤ fs.length ∧ i = .int .i64 k ∧ Bl (w1.heap.size + 1) w1.heap.size (Lib.byteCells (pre ++ (fs.take k).flatMap flB)) wr ∧ But (w1.heap.size + 1) w1.heap.size W wr) (fun i _ => fs.length - (intOf i).toNat)
  case atStart => exact ⟨0, Nat.zero_le _, rfl, by simpa using B4, K4⟩
  case round =>
    rename_i wr _
    clear B4 K4 hbox2
    obtain ⟨k, hk, rfl, B, K⟩ := hrel
    have hlen : Hid ((pre ++ (fs.take k).flatMap flB).length ≤ 1000) := by
      unfold Hid
      have := files_len (fs.take k) (fun f hf => (hmay.out f (List.mem_of_mem_take hf)).1.len)
      rw [List.length_append, List.length_take] at *
      omega
    have hbr : Below w.heap.size w wr := hbx2.trans ((K.below (by omega)).mono (by omega))
    by_cases hlt : k < fs.length
    · obtain ⟨ad, rfl, d0, d1, d2, d3⟩ := (hf.below hbr).at_ k hlt
      have hk0 : (0 : Int) ≤ (k : Int) := Int.natCast_nonneg _
      have hk1 : (k : Int) < (fs.length : Int) := by omega
      obtain ⟨⟨_, hl, t0, t1, u0, u1⟩, w0', w1'⟩ := hmay.out fs[k] (List.getElem_mem hlt)
      have hsn : Hid (pre ++ (fs.take (k + 1)).flatMap flB = (((((pre ++ (fs.take k).flatMap flB) ++ beL 1 fs[k].name.size) ++ fs[k].name.data.toList) ++ beL 1 fs[k].size.toNat) ++ beL 8 fs[k].count.toNat) ++ beL 4 fs[k].sum.toNat) := by
        unfold Hid
        rw [List.take_succ_eq_append_getElem hlt, List.flatMap_append]
        simp [flB]
      generalize fs[k] = f at *
      generalize pre ++ (fs.take k).flatMap flB = l at *
      obtain ⟨nm, size, count, sum⟩ := f
      simp only at *
      obtain ⟨zn, rfl⟩ := Int.eq_ofNat_of_zero_le (show 0 ≤ size by omega)
      obtain ⟨cn, rfl⟩ := Int.eq_ofNat_of_zero_le (show 0 ≤ count by omega)
      obtain ⟨un, rfl⟩ := Int.eq_ofNat_of_zero_le (show 0 ≤ sum by omega)
      have B' := B.alloc (.cells #[.string nm, .int .i64 zn, .int .i64 cn, .int .u32 un] 78)
      have K' := K.alloc B.2.1 (.cells #[.string nm, .int .i64 zn, .int .i64 cn, .int .u32 un] 78)
      have hg := heap_alloc_new wr (.cells #[.string nm, .int .i64 zn, .int .i64 cn, .int .u32 un] 78)
      have hgb : wr.heap.size ≠ w1.heap.size := by have := B.2.1; omega
      go_wp2_with fail
      generalize wr.alloc (.cells #[.string nm, .int .i64 zn, .int .i64 cn, .int .u32 un] 78) = x0 at *
      refine (lay_any _ _ _ nm.size 1 _ B' (by have := hlen.out; omega) (by omega) (by omega) (by omega) (by omega)).mono ?_
      rintro e x1 ⟨rfl, B1, L1⟩
      have g1 := (L1.other _ _ _ _ hg (by decide) hgb).trans hg
      have q0 : x1.cell? ⟨wr.heap.size, 0, none⟩ = some (.string nm) := Lib.cell_of_heap g1 0
      have L1 := K'.trans L1
      clear B' K' hg B K d0 d1 d2 d3
      go_wp2_with fail
      refine (writeString_any _ _ _ nm _ B1 (by rw [Lib.byteCells_length, List.length_append, beL_length]; have := hlen.out; omega)).mono ?_
      rw [show Lib.byteCells (l ++ beL 1 nm.size) ++ Lib.strCells nm = Lib.byteCells ((l ++ beL 1 nm.size) ++ nm.data.toList) from (Lib.byteCells_append _ _).symm]
      rintro e x2 ⟨rfl, B2, L2⟩
      have g2 := (L2.other _ _ _ _ g1 (by decide) hgb).trans g1
      have q1 : x2.cell? ⟨wr.heap.size, 1, none⟩ = some (.int .i64 zn) := Lib.cell_of_heap g2 1
      have L2 := L1.trans L2
      clear B1 L1 g1 q0
      have hll : ((l ++ beL 1 nm.size) ++ nm.data.toList).length ≤ 1025 := by
        rw [List.length_append, List.length_append, beL_length, ba_length]
        have := hlen.out
        omega
      have HLL := Lib.hid hll
      clear hll
      go_wp2_with fail
      refine (lay_any _ _ _ zn 1 _ B2 (by have := HLL.out; omega) (by omega) (by omega) (by omega) (by omega)).mono ?_
      rintro e x3 ⟨rfl, B3, L3⟩
      have g3 := (L3.other _ _ _ _ g2 (by decide) hgb).trans g2
      have q2 : x3.cell? ⟨wr.heap.size, 2, none⟩ = some (.int .i64 cn) := Lib.cell_of_heap g3 2
      have L3 := L2.trans L3
      clear B2 L2 g2 q1
      go_wp2_with fail
      refine (lay_any _ _ _ cn 8 _ B3 (by rw [List.length_append, beL_length]; have := HLL.out; omega) (by omega) (by omega) (by omega) (by omega)).mono ?_
      rintro e x4 ⟨rfl, B4, L4⟩
      have g4 := (L4.other _ _ _ _ g3 (by decide) hgb).trans g3
      have q3 : x4.cell? ⟨wr.heap.size, 3, none⟩ = some (.int .u32 un) := Lib.cell_of_heap g4 3
      have L4 := L3.trans L4
      clear B3 L3 g3 q2
      have hwr : IntKind.i64.wrap (un : Int) = (un : Int) := IntWalk.i64_in _ (by omega)
      go_wp2_with fail
      refine (lay_any _ _ _ un 4 _ B4 (by rw [List.length_append, List.length_append, beL_length, beL_length]; have := HLL.out; omega) (by omega) (by omega) (by omega) (by omega)).mono ?_
      rintro e x5 ⟨rfl, B5, L5⟩
      have L5 := L4.trans L5
      clear B4 L4 g4 q3 hwr
      go_wp2_with fail
      go_roundw
      case rel => exact ⟨k + 1, by omega, by go_num, by rw [hsn.out]; exact B5, L5⟩
      case measure => simp [intOf]; omega
    · obtain rfl : k = fs.length := by omega
      have e0 : pre ++ (fs.take fs.length).flatMap flB = manB ⟨sn, pn, fs⟩ := by rw [List.take_length, hman.out]
      rw [e0] at B hlen
      clear hman e0
      obtain ⟨l, hl⟩ : ∃ l, manB ⟨sn, pn, fs⟩ = l := ⟨_, rfl⟩
      rw [hl] at B hlen
      have HM := Lib.hid hl
      clear hl
      have hB := B.2.1
      have hsz : (⟨l.toArray⟩ : ByteArray).size ≤ 1073741824 := by
        show l.toArray.size ≤ _
        rw [List.size_toArray]
        have := hlen.out
        omega
      have HS := Lib.hid hsz
      clear hsz
      go_wp2_with fail
      refine (builderString_any _ _ l _ B).mono ?_
      rintro e y1 ⟨rfl, b1⟩
      have hy := hbr.trans (b1.mono (by omega))
      go_wp2_with fail
      refine (close_any ⟨l.toArray⟩ _ HS.out).mono ?_
      rintro e y2 ⟨rfl, b2⟩
      go_wp2
      go_ret2
      exact ⟨by rw [HM.out]; rfl, keepBelow hy b2⟩
set_option maxHeartbeats 3200000 in
set_option maxRecDepth 100000 in
theorem mput_no (m : Mf) (v : Value) (w : World) (hf : Files w v m.files) (hn : ∀ f ∈ m.files, f.name.size ≤ 9223372036854775807) (hr : rightB m = false) :
    Calls Try.prog 29 #[.agg #[.int .i64 m.stage, .int .i64 m.pass, v]] w fun e w' => e = .returned (.tuple #[.string ⟨#[]⟩, .bool false]) ∧ Below w.heap.size w w' := by
  obtain ⟨A, c, rfl, h1, h2, h3⟩ := id hf
  unfold maxLen at h2
  have HR := Lib.hid hr
  have HN := Lib.hid hn
  clear h3 hr hn
  have hfb := hf.below ((Below.refl _ w).alloc (Nat.le_refl _) (.cells #[.int .i64 m.stage, .int .i64 m.pass, .slice A m.files.length c] 31))
  go_enter Try.func29, Try.ntmps29
  go_wp2_with fail
  refine (mright_any m _ _ hfb HN.out).mono ?_
  rw [HR.out]
  rintro e w1 ⟨rfl, hb1⟩
  go_wp2
  go_ret2
  exact ⟨rfl, keepBelow ((Below.refl _ w).alloc (Nat.le_refl _) _) hb1⟩
theorem mput_yes (m : Mf) (v : Value) (w : World) (hf : Files w v m.files) (hw : m.wf) (hr : rightB m = true) :
    Calls Try.prog 29 #[.agg #[.int .i64 m.stage, .int .i64 m.pass, v]] w fun e w' => e = .returned (.tuple #[.string ⟨(closeL (manB m)).toArray⟩, .bool true]) ∧ Below w.heap.size w w' := by
  obtain ⟨s0, s1, p0, p1, few⟩ := head_of (right_head hr)
  obtain ⟨stage, pass, fs⟩ := m
  simp only at *
  obtain ⟨sn, rfl⟩ := Int.eq_ofNat_of_zero_le (show 0 ≤ stage by omega)
  obtain ⟨pn, rfl⟩ := Int.eq_ofNat_of_zero_le (show 0 ≤ pass by omega)
  exact mput_nat sn pn fs v w hf hw hr
end Go.Proofs.Ytdmmfeglnmkmdaa
