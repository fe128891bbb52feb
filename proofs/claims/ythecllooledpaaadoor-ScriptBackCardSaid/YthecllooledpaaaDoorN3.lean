/- script.Line, the kind rise: numbers with commas between. -/
import Derived.Test.YthecllooledpaaaDoorN2
namespace Go.Proofs.YthecllooledpaaaDoor
open Go.RowKit

theorem Tryd.info9 : (Tryd.prog.info? 9).map (fun i => (i.zero, i.size, i.bytes)) = some (some (.string ⟨#[]⟩), 1, 16) := by kernel_rfl
def itoaS (n : Int) : ByteArray := ⟨(Lib.itoa n).toArray⟩
def strV (xs : List ByteArray) : List Value := xs.map .string
theorem itoas_length (ks : List Int) (h : ∀ n ∈ ks, -9223372036854775808 ≤ n ∧ n ≤ 9223372036854775807) (hl : ks.length ≤ 12) : (Lib.join (ks.map Lib.itoa) [44]).length ≤ 300 := by
  have H : ∀ (l : List Int), (∀ n ∈ l, -9223372036854775808 ≤ n ∧ n ≤ 9223372036854775807) → (Lib.joinTail [44] (l.map Lib.itoa)).length ≤ 22 * l.length := by
    intro l
    induction l with
    | nil => intro _; simp [Lib.joinTail]
    | cons n l ih =>
      intro hn
      have h1 := ih (fun m hm => hn m (List.mem_cons_of_mem _ hm))
      have h2 := Lib.itoa_length_le n (hn n List.mem_cons_self).1 (hn n List.mem_cons_self).2
      unfold Lib.joinTail at h1 ⊢
      simp [List.flatten_cons] at h1 ⊢
      omega
  cases ks with
  | nil => simp [Lib.join, List.intercalate]
  | cons n l =>
    rw [List.map_cons, Lib.join_cons]
    have h1 := H l (fun m hm => h m (List.mem_cons_of_mem _ hm))
    have h2 := Lib.itoa_length_le n (h n List.mem_cons_self).1 (h n List.mem_cons_self).2
    simp at hl ⊢
    omega

theorem map_take_snoc {α β : Type} (f : α → β) (l : List α) (k : Nat) (h : k < l.length) : (l.take (k + 1)).map f = (l.take k).map f ++ [f l[k]] := by
  rw [List.take_succ_eq_append_getElem h, List.map_append]; rfl
theorem own_below {w w1 : World} {base : Nat} {e : TypeId} {size n : Nat} {v : Value} {xs : List Value} (h : w.ownsRow base e size v n xs) (hb : Below w.heap.size w w1) : w1.ownsRow base e size v n xs :=
  h.kept (row := none) ⟨hb.os, hb.tape, hb.output, hb.size, fun i hi _ => hb.block i hi⟩ (by cases v.ownBlock <;> simp)

theorem add_plain (g j : Nat) : (⟨g, 0, none⟩ : Addr).add j = ⟨g, j, none⟩ := by unfold Addr.add; split <;> simp_all

/-- strings.Join over a slice that the call has grown. -/
theorem join_own (base : Nat) (v : Value) (xs : List ByteArray) (sep : ByteArray) (w : World) (h : w.ownsRow base 9 1 v xs.length (strV xs)) (hN : xs.length ≤ 140737488355328)
    (hlen : (Lib.join (xs.map (·.data.toList)) sep.data.toList).length ≤ 140737488355328) :
    Calls Tryd.prog 24 #[v, .string sep] w fun e w' => e = .returned (.string ⟨(Lib.join (xs.map (·.data.toList)) sep.data.toList).toArray⟩) ∧ Below w.heap.size w w' := by
  by_cases h0 : xs.length = 0
  · obtain rfl : xs = [] := List.eq_nil_of_length_eq_zero h0
    obtain ⟨a, c, rfl⟩ : ∃ a c, v = .slice a 0 c := by
      rcases h.2 with ⟨hv, _⟩ | ⟨g, cap, cur, hv, _⟩
      · exact ⟨_, _, hv⟩
      · exact ⟨_, _, hv⟩
    refine (Tryd.strings_Join_none a c sep w).mono ?_
    rintro e w' ⟨rfl, rfl⟩
    exact ⟨rfl, Below.refl _ _⟩
  · rcases id h.2 with ⟨_, hv⟩ | ⟨g, cap, cur, hv, hg, hh, hnc, _⟩
    · exact absurd hv h0
    · subst hv
      refine Tryd.strings_Join g 0 cap xs sep w (fun j x hx => ?_) ?_ hN hnc hlen
      · have := h.cells (g := g) rfl j (.string x) (by simp [strV, hx])
        rw [add_plain] at this
        rw [Nat.zero_add]
        exact this
      · rcases Nat.lt_or_ge g w.heap.size with h' | h'
        · exact h'
        · simp [Array.getElem?_eq_none h'] at hh

set_option maxHeartbeats 4000000 in
set_option maxRecDepth 100000 in
theorem line_3 (nm s : ByteArray) (n b : Int) (u : Value) (ks : List Int) (w : World) (hf : Fit w) (hu : Ints w u ks) (hnm : nm.size ≤ 40) (hks : ∀ n ∈ ks, -9223372036854775808 ≤ n ∧ n ≤ 9223372036854775807) (hl12 : ks.length ≤ 12) (hr : rightV 3 nm s n b ks = true) :
    Calls Tryd.prog 12 #[.agg #[.int .i64 3, .string nm, .string s, .int .i64 n, .int .u32 b, u]] w fun e w' => e = .returned (.tuple #[.string ⟨(lineL 3 nm.data.toList s.data.toList n b ks).toArray⟩, .bool true]) ∧ Below w.heap.size w w' := by
  obtain ⟨i0, hi, hz0, hz1, hz2⟩ := info_parts Tryd.info9
  have hbox := hu.below ((Below.refl _ w).alloc (Nat.le_refl _) (boxA 3 nm s n b u))
  obtain ⟨A, c, rfl, hl, hm, hc⟩ := id hu
  unfold boxA at hbox
  have HR := Lib.hid hr
  clear hc hm hl hr
  go_enter Tryd.func12, Tryd.ntmps12
  go_wp2_with fail
  refine (right_v _ _ _ _ _ _ _ _ hbox (by omega)).mono ?_
  rintro e w1 ⟨rfl, hb1⟩
  rw [HR.out]
  have e0 := (bcell hb1).1 w.heap.size 0 (by simp)
  have e5 := (bcell hb1).1 w.heap.size 5 (by simp)
  simp at e0 e5
  have hbw : Below w.heap.size w w1 := below_then ((Below.refl _ w).alloc (Nat.le_refl _) _) (by simp) hb1
  have hz1' : w.heap.size < w1.heap.size := by have := hb1.size; simp at this; omega
  have hu1 := hu.below hbw
  clear hu hbox
  go_wp2_with fail
  go_loopw [5, 36] (fun v i wr => ∃ k : Nat, k ≤ ks.length ∧ i = .int .i64 k ∧ wr.ownsRow w1.heap.size 9 1 v k (strV ((ks.take k).map itoaS)) ∧ Below w1.heap.size w1 wr) (fun _ i _ => ks.length - (intOf i).toNat)
  case atStart => exact ⟨0, Nat.zero_le _, rfl, ⟨by simp [strV], .inl ⟨rfl, rfl⟩⟩, Below.refl _ _⟩
  case round =>
    obtain ⟨k, hk, rfl, hown, hbr⟩ := hrel
    have hur := hu1.below hbr
    by_cases hlt : k < ks.length
    · obtain ⟨A', c', hv, hl', hm', hc'⟩ := hur
      injection hv with h1 h2 h3
      subst h1 h3
      clear h2
      obtain ⟨ad, rfl, hcell⟩ := hc' k hlt
      have hin : ks.getD k 0 ∈ ks := by rw [List.getD, List.getElem?_eq_getElem hlt]; exact List.getElem_mem hlt
      have hbd := hks _ hin
      have hsn : Hid (strV ((ks.take (k + 1)).map itoaS) = strV ((ks.take k).map itoaS) ++ [.string (itoaS (ks.getD k 0))]) := by
        unfold Hid strV
        rw [map_take_snoc _ _ _ hlt, List.map_append]
        simp [List.getD, List.getElem?_eq_getElem hlt]
      generalize ks.getD k 0 = x at *
      generalize strV ((ks.take k).map itoaS) = xs at *
      clear hc'
      go_wp2_with fail
      refine (itoa_any x hbd.1 hbd.2 _ (hf.below (keepBelow hbw hbr))).mono ?_
      rintro e w2 ⟨rfl, hb2⟩
      have hown2 := own_below hown hb2
      have hbr2 : Below w1.heap.size w1 w2 := keepBelow hbr hb2
      go_wp2_with (at_builtin; refine wpList_append_own _ rfl _ _ 53 rfl w1.heap.size 9 i0 (.string ⟨#[]⟩) 1 16 Tryd.underlying53 hi hz0 hz1 hz2 rfl (by decide) _ _ _ rfl (hown2.alloc _) ⟨w2.heap.size, 0, none⟩ 1 1 [.string (itoaS x)] rfl rfl ?c1 ?c2 ?c3 ?c4 ?c5 ?_)
      case c1 => exact (cell_one_new _ _ _)
      case c2 => intro u hu; simp at hu; subst hu; rfl
      case c3 => unfold maxLen; omega
      case c4 => omega
      case c5 => have := hbr2.size; simp; omega
      intro v' w3 hown' hgrow _
      rw [← hsn.out] at hown'
      go_wp2
      go_roundw
      case rel => exact ⟨k + 1, by omega, by go_num, hown', (hbr2.alloc hbr2.size _).grown hgrow (by have := hbr2.size; simp; omega) (fun g hg => (hown2.lt g hg).1)⟩
      case measure => simp [intOf]; omega
    · have : k = ks.length := by omega
      subst this
      rw [List.take_length] at hown
      have hll := Lib.hid (itoas_length ks hks hl12)
      have he : Hid ((ks.map itoaS).map (fun s : ByteArray => s.data.toList) = ks.map Lib.itoa) := by unfold Hid; simp [itoaS]
      go_wp2_with fail
      refine (join_own w1.heap.size _ (ks.map itoaS) ⟨#[44]⟩ _ (by simpa using hown) (by simp; omega) (by rw [he.out]; have := hll.out; simpa using Nat.le_trans this (by omega))).mono ?_
      rintro e w2 ⟨rfl, hb2⟩
      rw [he.out]
      have hbr2 : Below w1.heap.size w1 w2 := keepBelow hbr hb2
      have hbw2 : Below w.heap.size w w2 := keepBelow hbw hbr2
      have hlen : Hid ((orL (Lib.join (ks.map Lib.itoa) [44])).length ≤ 300) := by
        unfold Hid orL
        split
        · simp
        · exact hll.out
      go_wp2_with fail
      refine (or_any _ _).mono ?_
      rintro e w3 ⟨rfl, rfl⟩
      rw [orB_toList]
      go_wp2_with fail
      refine (join_any w2.heap.size 2 [⟨#[114, 105, 115, 101]⟩, ⟨(orL (Lib.join (ks.map Lib.itoa) [44])).toArray⟩] ⟨#[32]⟩ _ (heap_alloc_new w2 _) (by simp) (by simp) (by have := hlen.out; simp [Lib.join, List.intercalate] at this ⊢; omega)).mono ?_
      rintro e w3 ⟨rfl, hb3⟩
      go_wp2
      go_ret2
      exact ⟨rfl, below_then (hbw2.alloc hbw2.size _) (by have := hbw2.size; simp; omega) hb3⟩
end Go.Proofs.YthecllooledpaaaDoor
