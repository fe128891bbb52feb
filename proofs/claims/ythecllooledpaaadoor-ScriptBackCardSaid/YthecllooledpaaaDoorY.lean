/- strings.Split at one byte; script.numbers. -/
import Derived.Test.YthecllooledpaaaDoorX
namespace Go.Proofs.YthecllooledpaaaDoor
open Go.RowKit Plain

theorem bytes_ext {a b : ByteArray} (h : a.data.toList = b.data.toList) : a = b := by
  apply ByteArray.ext
  exact Array.toList_inj.1 h
def strC (p : List UInt8) : Value := .string ⟨p.toArray⟩
theorem split_pieces (l : List UInt8) (c : UInt8) (ps : List (List UInt8)) (h : pieces c l = ps) :
    Lib.splitB ⟨#[c]⟩ 0 (Lib.countB ⟨l.toArray⟩ ⟨#[c]⟩) ⟨l.toArray⟩ = ps.map (fun p => (⟨p.toArray⟩ : ByteArray)) ∧ Lib.countB ⟨l.toArray⟩ ⟨#[c]⟩ + 1 = ps.length := by
  have hc : Lib.countB ⟨l.toArray⟩ ⟨#[c]⟩ = l.count c := by
    show Lib.count l [c] = _
    exact Lib.count_one c l
  have hd := Lib.splitB_data ⟨#[c]⟩ 0 (Lib.countB ⟨l.toArray⟩ ⟨#[c]⟩) ⟨l.toArray⟩
  have hp : (Lib.splitB ⟨#[c]⟩ 0 (Lib.countB ⟨l.toArray⟩ ⟨#[c]⟩) ⟨l.toArray⟩).map (·.data.toList) = ps := by
    rw [hd, hc]
    exact h
  refine ⟨?_, ?_⟩
  · generalize Lib.splitB ⟨#[c]⟩ 0 (Lib.countB ⟨l.toArray⟩ ⟨#[c]⟩) ⟨l.toArray⟩ = xs at *
    subst hp
    rw [List.map_map]
    conv => lhs; rw [← List.map_id xs]
    apply List.map_congr_left
    intro x _
    exact bytes_ext rfl
  · have := Lib.splitB_all ⟨#[c]⟩ (Nat.le_refl 1) 0 _ ⟨l.toArray⟩ (rfl : Lib.countB ⟨l.toArray⟩ ⟨#[c]⟩ = _)
    rw [← this, ← hp, List.length_map]
theorem split_c (l : List UInt8) (c : UInt8) (ps : List (List UInt8)) (h : pieces c l = ps) (hl : l.length < 4294967281) (w : World) (hf : Fit w) :
    Calls Tryd.prog 16 #[.string ⟨l.toArray⟩, .string ⟨#[c]⟩] w fun e w' => e = .returned (.slice (some ⟨w.heap.size, 0, none⟩) ps.length ps.length) ∧ w' = w.alloc (.cells (ps.map strC).toArray 9) := by
  obtain ⟨h1, h2⟩ := split_pieces l c ps h
  refine (split_any ⟨l.toArray⟩ ⟨#[c]⟩ w hf (by exact hl) (Nat.le_refl 1)).mono ?_
  rintro e w' ⟨he, hw⟩
  rw [h1, h2] at *
  refine ⟨he, ?_⟩
  rw [hw, List.map_map]
  rfl

set_option maxHeartbeats 4000000 in
set_option maxRecDepth 100000 in
theorem numbers_dash (w : World) : Calls Tryd.prog 31 #[.string ⟨#[45]⟩] w fun e w' => e = .returned (.slice none 0 0) ∧ w = w' := by
  go_enter Tryd.func31, Tryd.ntmps31
  go_wp2
  go_ret
  exact ⟨rfl, rfl⟩

theorem Tryd.info3 : (Tryd.prog.info? 3).map (fun i => (i.zero, i.size, i.bytes)) = some (some (.int .i64 0), 1, 8) := by kernel_rfl
def intV (ks : List Int) : List Value := ks.map (Value.int .i64)
/-- Whole numbers in a row that the call has made. -/
def MadeInts (ks : List Int) (w : World) (e : Ending) (w' : World) : Prop := ∃ v, e = .returned v ∧ w'.ownsRow w.heap.size 3 1 v ks.length (intV ks) ∧ Below w.heap.size w w'

theorem itoa_dash (n : Int) : Lib.itoa n ≠ [45] := by
  unfold Lib.itoa
  split
  · intro h
    injection h with _ h
    have := congrArg List.length h
    rw [Lib.decDigits] at this
    split at this <;> simp at this
  · intro h
    have := (dec_digits n.toNat 45 (by rw [h]; simp)).1
    simp at this

set_option maxHeartbeats 4000000 in
set_option maxRecDepth 100000 in
theorem numbers_any (ks : List Int) (hne : ks ≠ []) (h12 : ks.length ≤ 12) (hfar : ∀ n ∈ ks, far n = false) (w : World) (hf : Fit w) :
    Calls Tryd.prog 31 #[.string ⟨(Lib.join (ks.map Lib.itoa) [44]).toArray⟩] w (MadeInts ks w) := by
  obtain ⟨i0, hinf, hz0, hz1, hz2⟩ := info_parts Tryd.info3
  have hlen : (Lib.join (ks.map Lib.itoa) [44]).length ≤ 300 := itoas_length ks (fun n hn => by
    have h1 := hfar n hn
    unfold far at h1; simp at h1; omega) h12
  have hps : pieces 44 (Lib.join (ks.map Lib.itoa) [44]) = ks.map Lib.itoa := by
    cases ks with
    | nil => exact absurd rfl hne
    | cons n r =>
      rw [List.map_cons]
      apply pieces_join
      intro y hy
      rw [← List.map_cons] at hy
      obtain ⟨m, _, rfl⟩ := List.mem_map.1 hy
      exact itoa_no m 44 (by unfold digitB; decide) (by decide)
  have hnd : (Lib.join (ks.map Lib.itoa) [44] == [45]) = false := by
    rw [beq_eq_false_iff_ne]
    intro e
    rw [e, pieces_miss 44 [45] (by decide)] at hps
    cases ks with
    | nil => exact hne rfl
    | cons n r =>
      rw [List.map_cons] at hps
      injection hps with h _
      exact itoa_dash n h.symm
  generalize Lib.join (ks.map Lib.itoa) [44] = s at *
  have HP := Lib.hid hps
  have HFA := Lib.hid hfar
  clear hps hfar
  go_enter Tryd.func31, Tryd.ntmps31
  go_wp2_with fail
  refine (split_c s 44 _ HP.out (by omega) _ hf).mono ?_
  rintro e w1 ⟨rfl, rfl⟩
  have hcell : ∀ k (h : k < ks.length), (w.alloc (.cells ((ks.map Lib.itoa).map strC).toArray 9)).cell? ⟨w.heap.size, k, none⟩ = some (strC (Lib.itoa ks[k])) := fun k h => by
    rw [Lib.cell_of_heap (heap_alloc_new w _)]
    simp [h]
  have hb := (Below.refl _ w).alloc (Nat.le_refl _) (.cells ((ks.map Lib.itoa).map strC).toArray 9)
  rw [List.length_map]
  generalize w.alloc (.cells ((ks.map Lib.itoa).map strC).toArray 9) = W at *
  go_wp2_with fail
  go_loopw [3, 11] (fun v i wr => ∃ k : Nat, k ≤ ks.length ∧ i = .int .i64 k ∧ wr.ownsRow W.heap.size 3 1 v k (intV (ks.take k)) ∧ Below W.heap.size W wr) (fun _ i _ => ks.length - (intOf i).toNat)
  case atStart => exact ⟨0, Nat.zero_le _, rfl, ⟨by simp [intV], .inl ⟨rfl, rfl⟩⟩, Below.refl _ _⟩
  case round =>
    obtain ⟨k, hk, rfl, hown, hbr⟩ := hrel
    by_cases hlt : k < ks.length
    · have hce := keepCell (hcell k hlt) hbr
      unfold strC at hce
      have hfk := HFA.out ks[k] (List.getElem_mem hlt)
      have hsn : Hid (intV (ks.take (k + 1)) = intV (ks.take k) ++ [.int .i64 ks[k]]) := by
        unfold Hid intV
        rw [map_take_snoc _ _ _ hlt]
      generalize ks[k] = x at *
      have HX := Lib.hid hfk
      have hk0 : (0 : Int) ≤ (k : Int) := Int.natCast_nonneg _
      have hk1 : (k : Int) < (ks.length : Int) := by omega
      clear hcell hfk
      go_wp2_with fail
      refine (number_itoa x HX.out _ (hf.below (keepBelow hb hbr))).mono ?_
      rintro e w2 ⟨rfl, hb2⟩
      have hown2 := own_below hown hb2
      have hbr2 := keepBelow hbr hb2
      go_wp2_with (at_builtin; refine wpList_append_own _ rfl _ _ 36 rfl W.heap.size 3 i0 (.int .i64 0) 1 8 Tryd.underlying36 hinf hz0 hz1 hz2 rfl (by decide) _ _ _ rfl (hown2.alloc _) ⟨w2.heap.size, 0, none⟩ 1 1 [.int .i64 x] rfl rfl ?c1 ?c2 ?c3 ?c4 ?c5 ?_)
      case c1 => exact (cell_one_new _ _ _)
      case c2 => intro u hu; simp at hu; subst hu; rfl
      case c3 => unfold maxLen; omega
      case c4 => omega
      case c5 => have := hbr2.size; simp; omega
      intro v' w3 hown' hgrow _
      rw [← hsn.out] at hown'
      go_wp2
      go_roundw
      case rel => exact ⟨k + 1, by omega, by go_num, hown', (hbr2.alloc hbr2.size _).grown hgrow (by have := hbr2.size; simp; omega) (fun g hg => (hown2.lt g hg).1)⟩
      case measure => simp [intOf]; omega
    · have : k = ks.length := by omega
      subst this
      rw [List.take_length] at hown
      go_wp2
      go_ret
      exact ⟨_, rfl, own_lower hown hb.size, keepBelow hb hbr⟩
end Go.Proofs.YthecllooledpaaaDoor
