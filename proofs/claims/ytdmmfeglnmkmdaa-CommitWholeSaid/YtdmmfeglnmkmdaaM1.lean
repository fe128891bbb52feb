/- A slice of files; manifest.named, and the library's IndexFunc and ContainsFunc over it. -/
import Derived.Test.YtdmmfeglnmkmdaaC2
import Derived.Test.YtdmmfeglnmkmdaaP2
namespace Go.Proofs.Ytdmmfeglnmkmdaa
open Go.RowKit Plain


def flC (f : Fl) : List Value := [.string f.name, .int .i64 f.size, .int .i64 f.count, .int .u32 f.sum]
def flV (f : Fl) : Value := .agg #[.string f.name, .int .i64 f.size, .int .i64 f.count, .int .u32 f.sum]
/-- A slice of files. -/
def Files (w : World) (v : Value) (fs : List Fl) : Prop :=
  ∃ A c, v = .slice A fs.length c ∧ fs.length ≤ c ∧ c ≤ maxLen ∧ ∀ (i : Nat) (f : Fl), fs[i]? = some f → ∃ ad, A = some ad ∧ ∀ (j : Nat) (x : Value), (flC f)[j]? = some x → w.cell? (ad.add (i * 4 + j)) = some x
theorem Files.below {w w1 : World} {v : Value} {fs : List Fl} (h : Files w v fs) (hb : Below w.heap.size w w1) : Files w1 v fs := by
  obtain ⟨A, c, rfl, h1, h2, h3⟩ := h
  refine ⟨A, c, rfl, h1, h2, fun i f hf => ?_⟩
  obtain ⟨ad, rfl, hc⟩ := h3 i f hf
  exact ⟨ad, rfl, fun j x hx => keepCell (hc j x hx) hb⟩
theorem Files.take {w : World} {A : Option Addr} {c : Nat} {fs : List Fl} (h : Files w (.slice A fs.length c) fs) (i : Nat) (hi : i ≤ fs.length) : Files w (.slice A i c) (fs.take i) := by
  obtain ⟨A', c', hv, h1, h2, h3⟩ := h
  injection hv with e1 e2 e3
  subst e1 e3
  clear e2
  refine ⟨A, c, by rw [List.length_take, Nat.min_eq_left hi], by rw [List.length_take]; omega, h2, fun j f hf => ?_⟩
  refine h3 j f ?_
  rw [List.getElem?_take] at hf
  split at hf
  · exact hf
  · cases hf
theorem add_add4 (ad : Addr) (i j : Nat) (h : j ≠ 0) : ad.add (i + j) = ⟨(ad.add i).block, (ad.add i).off + j, none⟩ := by
  unfold Addr.add
  by_cases hi : i = 0
  · subst hi
    simp [h]
  · simp [hi]
    omega
theorem Files.at_ {w : World} {A : Option Addr} {n c : Nat} {fs : List Fl} (h : Files w (.slice A n c) fs) (k : Nat) (hk : k < fs.length) :
    ∃ ad, A = some ad ∧ w.cell? (ad.add (k * 4)) = some (.string fs[k].name) ∧ w.cell? ⟨(ad.add (k * 4)).block, (ad.add (k * 4)).off + 1, none⟩ = some (.int .i64 fs[k].size) ∧
      w.cell? ⟨(ad.add (k * 4)).block, (ad.add (k * 4)).off + 2, none⟩ = some (.int .i64 fs[k].count) ∧ w.cell? ⟨(ad.add (k * 4)).block, (ad.add (k * 4)).off + 3, none⟩ = some (.int .u32 fs[k].sum) := by
  obtain ⟨A', c', hv, h1, h2, h3⟩ := h
  injection hv with e1 e2 e3
  subst e1 e3
  obtain ⟨ad, rfl, hc⟩ := h3 k fs[k] (List.getElem?_eq_getElem hk)
  refine ⟨ad, rfl, hc 0 _ rfl, ?_, ?_, ?_⟩
  · rw [← add_add4 ad (k * 4) 1 (by decide)]; exact hc 1 _ rfl
  · rw [← add_add4 ad (k * 4) 2 (by decide)]; exact hc 2 _ rfl
  · rw [← add_add4 ad (k * 4) 3 (by decide)]; exact hc 3 _ rfl

set_option maxHeartbeats 400000 in
theorem named_any (nm : ByteArray) (w : World) : Calls Try.prog 88 #[.string nm] w fun e w' => e = .returned (.func (.func 106) #[] #[.pointer (some ⟨w.heap.size, 0, none⟩)]) ∧ w' = w.alloc (.cells #[.string nm] 9) := by
  have hmf : ∀ (fn : Fn) (first cap : Array Value) (w : World), (Instr.makeFunc fn first cap).run Try.prog w = .ok (.func fn first cap) w := fun _ _ _ _ => rfl
  go_enter Try.func88, Try.ntmps88
  go_wp2
  go_ret
  exact ⟨rfl, rfl⟩
set_option maxHeartbeats 400000 in
theorem named1_any (b : Nat) (nm : ByteArray) (f : Fl) (w : World) (hc : w.cell? ⟨b, 0, none⟩ = some (.string nm)) :
    Calls Try.prog 106 #[.agg #[.string f.name, .int .i64 f.size, .int .i64 f.count, .int .u32 f.sum], .pointer (some ⟨b, 0, none⟩)] w fun e w' => e = .returned (.bool (f.name.data.toList == nm.data.toList)) ∧ Below w.heap.size w w' := by
  have hne : (w.alloc (.cells #[.string f.name, .int .i64 f.size, .int .i64 f.count, .int .u32 f.sum] 78)).cell? ⟨b, 0, none⟩ = some (.string nm) := keepCell hc ((Below.refl _ w).alloc (Nat.le_refl _) _)
  go_enter Try.func106, Try.ntmps106
  go_wp2
  go_ret
  exact ⟨ret_bool (by rw [ByteArray.toList_eq, ByteArray.toList_eq]), (Below.refl _ w).alloc (Nat.le_refl _) _⟩
def IdxPost (q : Bool) (w : World) (e : Ending) (w' : World) : Prop := ∃ r : Int, e = .returned (.int .i64 r) ∧ decide (0 ≤ r) = q ∧ Below w.heap.size w w'
set_option maxHeartbeats 800000 in
theorem index_any (b : Nat) (nm : ByteArray) (v : Value) (fs : List Fl) (w : World) (hc : w.cell? ⟨b, 0, none⟩ = some (.string nm)) (hf : Files w v fs) :
    Calls Try.prog 105 #[v, .func (.func 106) #[] #[.pointer (some ⟨b, 0, none⟩)]] w (IdxPost (fs.any fun g => g.name.data.toList == nm.data.toList) w) := by
  obtain ⟨A, c, rfl, h1, h2, h3⟩ := id hf
  unfold maxLen at h2
  clear h3
  go_enter Try.func105, Try.ntmps105
  go_wp2
  go_loopw [8] (fun i wr => ∃ k : Nat, k ≤ fs.length ∧ i = .int .i64 k ∧ Hid ((fs.take k).any (fun g => g.name.data.toList == nm.data.toList) = false) ∧ Below w.heap.size w wr) (fun i _ => fs.length - (intOf i).toNat)
  case atStart => exact ⟨0, Nat.zero_le _, rfl, rfl, Below.refl _ _⟩
  case round =>
    rename_i wr _
    obtain ⟨k, hk, rfl, hno, hbr⟩ := hrel
    by_cases hlt : k < fs.length
    · obtain ⟨ad, rfl, c0, c1, c2, c3⟩ := (hf.below hbr).at_ k hlt
      have hcr := keepCell hc hbr
      have hk0 : (0 : Int) ≤ (k : Int) := Int.natCast_nonneg _
      have hk1 : (k : Int) < (fs.length : Int) := by omega
      have hsn : Hid ((fs.take (k + 1)).any (fun g => g.name.data.toList == nm.data.toList) = ((fs.take k).any (fun g => g.name.data.toList == nm.data.toList) || (fs[k].name.data.toList == nm.data.toList))) := by
        unfold Hid
        rw [List.take_succ_eq_append_getElem hlt, List.any_append]
        simp
      have hyes : Hid ((fs[k].name.data.toList == nm.data.toList) = true → fs.any (fun g => g.name.data.toList == nm.data.toList) = true) := fun h => List.any_eq_true.2 ⟨fs[k], List.getElem_mem hlt, h⟩
      generalize fs[k] = f at *
      go_wp2_with fail
      refine (named1_any b nm f _ hcr).mono ?_
      rintro e w1 ⟨rfl, hb1⟩
      have hbr1 := keepBelow hbr hb1
      clear c0 c1 c2 c3
      cases hq : (f.name.data.toList == nm.data.toList)
      · have HQ := Lib.hid hq
        clear hq
        go_wp2_with fail
        go_roundw
        case rel => exact ⟨k + 1, by omega, by go_num, by unfold Hid; rw [hsn.out, hno.out, HQ.out]; rfl, hbr1⟩
        case measure => simp [intOf]; omega
      · have HQ := Lib.hid hq
        clear hq
        go_wp2_with fail
        go_ret
        exact ⟨_, rfl, by rw [hyes.out HQ.out]; simp, hbr1⟩
    · obtain rfl : k = fs.length := by omega
      have hn2 : Hid (fs.any (fun g => g.name.data.toList == nm.data.toList) = false) := by
        have := hno.out
        rwa [List.take_length] at this
      go_wp2_with fail
      go_ret
      exact ⟨_, rfl, by rw [hn2.out]; rfl, hbr⟩
set_option maxHeartbeats 400000 in
theorem contains_any (b : Nat) (nm : ByteArray) (v : Value) (fs : List Fl) (w : World) (hc : w.cell? ⟨b, 0, none⟩ = some (.string nm)) (hf : Files w v fs) :
    Calls Try.prog 87 #[v, .func (.func 106) #[] #[.pointer (some ⟨b, 0, none⟩)]] w fun e w' => e = .returned (.bool (fs.any fun g => g.name.data.toList == nm.data.toList)) ∧ Below w.heap.size w w' := by
  generalize hq : (fs.any fun g => g.name.data.toList == nm.data.toList) = q
  have HQ := Lib.hid hq
  clear hq
  go_enter Try.func87, Try.ntmps87
  go_wp2_with fail
  refine (index_any b nm v fs _ hc hf).mono ?_
  rw [HQ.out]
  rintro e w1 ⟨r, rfl, hr, hb⟩
  have HR := Lib.hid hr
  clear hr
  go_wp2
  go_ret
  exact ⟨ret_bool HR.out, hb⟩
end Go.Proofs.Ytdmmfeglnmkmdaa
