/- The statement's own helpers: list, back, Few and Same over slices of acts. -/
import Derived.Test.YthecllooledpaaaDoorT
import Derived.Deep.AppendLies
namespace Go.Proofs.YthecllooledpaaaDoor
open Go.RowKit

def flatC (zs : List (Act × Value)) : List Value := zs.flatMap fun z => actCells z.1 z.2
theorem flatC_length (zs : List (Act × Value)) : (flatC zs).length = zs.length * 6 := by
  unfold flatC
  induction zs with
  | nil => rfl
  | cons z zs ih => rw [List.flatMap_cons, List.length_append, ih]; simp [actCells]; omega
theorem flatC_get : ∀ (zs : List (Act × Value)) (i j : Nat) (z : Act × Value) (x : Value), zs[i]? = some z → (actCells z.1 z.2)[j]? = some x → (flatC zs)[i * 6 + j]? = some x := by
  intro zs
  induction zs with
  | nil => intro i j z x h; simp at h
  | cons y zs ih =>
    intro i j z x h hx
    have hj : j < 6 := by have := (List.getElem?_eq_some_iff.1 hx).1; simpa [actCells] using this
    unfold flatC
    rw [List.flatMap_cons]
    have h6 : (actCells y.1 y.2).length = 6 := rfl
    cases i with
    | zero =>
      simp at h
      subst h
      rw [Nat.zero_mul, Nat.zero_add, List.getElem?_append_left (by omega)]
      exact hx
    | succ i =>
      rw [List.getElem?_append_right (by omega), h6, show (i + 1) * 6 + j - 6 = i * 6 + j by omega]
      exact ih i j z x (by simpa using h) hx
theorem flatC_snoc (zs : List (Act × Value)) (z : Act × Value) : flatC (zs ++ [z]) = flatC zs ++ actCells z.1 z.2 := by simp [flatC]

/-- A row of acts that the call has grown, read as a slice of acts. -/
theorem acts_of_own {w : World} {base e : Nat} {v : Value} {zs : List (Act × Value)} (h : w.ownsRow base e 6 v zs.length (flatC zs)) (hk : ∀ z ∈ zs, Ints w z.2 z.1.keep) : Acts w v (zs.map Prod.fst) := by
  rcases id h.2 with ⟨rfl, h0⟩ | ⟨g, cap, cur, rfl, hg, hh, hnc, hcm, _⟩
  · have : zs = [] := List.eq_nil_of_length_eq_zero h0
    subst this
    exact ⟨none, 0, rfl, by simp, by unfold maxLen; omega, fun i a hi => by simp at hi⟩
  · refine ⟨some ⟨g, 0, none⟩, cap, by simp, by simpa using hnc, hcm, fun i a hi => ?_⟩
    rw [List.getElem?_map] at hi
    obtain ⟨z, hz, rfl⟩ := Option.map_eq_some_iff.1 hi
    refine ⟨_, z.2, rfl, hk z (List.mem_of_getElem? hz), fun j x hx => ?_⟩
    exact h.cells (g := g) rfl _ _ (flatC_get zs i j z x hz hx)

theorem Tryd.info39 : (Tryd.prog.info? 39).map (fun i => (i.zero, i.size, i.bytes)) = some (some (.agg #[.int .i64 0, .string ⟨#[]⟩, .string ⟨#[]⟩, .int .i64 0, .int .u32 0, .slice none 0 0]), 6, 80) := by kernel_rfl
theorem Tryd.info38 : (Tryd.prog.info? 38).map (fun i => (i.zero, i.size, i.bytes)) = some (some (.agg #[.int .i64 0, .string ⟨#[]⟩, .string ⟨#[]⟩, .int .i64 0, .int .u32 0, .slice none 0 0]), 6, 80) := by kernel_rfl

/-- What list and back make: a new slice of the same acts. -/
def Made (l : List Act) (w : World) (e : Ending) (w' : World) : Prop := ∃ v, e = .returned v ∧ Acts w' v l ∧ Below w.heap.size w w'


set_option maxHeartbeats 4000000 in
set_option maxRecDepth 100000 in
theorem list_any (v : Value) (l : List Act) (w : World) (hl : Acts w v l) (h70 : l.length ≤ 70) : Calls Tryd.prog 7 #[v] w (Made l w) := by
  obtain ⟨i0, hi, hz0, hz1, hz2⟩ := info_parts Tryd.info39
  obtain ⟨A, c, rfl, h1, h2, h3⟩ := id hl
  unfold maxLen at h2
  clear h3
  go_enter Tryd.func7, Tryd.ntmps7
  go_wp2
  go_loopw [3, 4] (fun x i wr => ∃ zs : List (Act × Value), zs.length ≤ l.length ∧ i = .int .i64 zs.length ∧ Hid (zs.map Prod.fst = l.take zs.length) ∧ wr.ownsRow w.heap.size 39 6 x zs.length (flatC zs) ∧ Hid (∀ z ∈ zs, Ints w z.2 z.1.keep) ∧ Below w.heap.size w wr) (fun _ i _ => l.length - (intOf i).toNat)
  case atStart => exact ⟨[], Nat.zero_le _, rfl, rfl, ⟨by simp [flatC], .inl ⟨rfl, rfl⟩⟩, by unfold Hid; simp, Below.refl _ _⟩
  case round =>
    obtain ⟨zs, hk, rfl, hzs, hown, hks, hbr⟩ := hrel
    by_cases hlt : zs.length < l.length
    · obtain ⟨_, ad, A6, cc, rfl, hu, d0, d1, d2, d3, d4, d5⟩ := hl.at_ zs.length hlt
      have c0 := keepCell d0 hbr
      have c1 := keepCell d1 hbr
      have c2 := keepCell d2 hbr
      have c3 := keepCell d3 hbr
      have c4 := keepCell d4 hbr
      have c5 := keepCell d5 hbr
      clear d0 d1 d2 d3 d4 d5
      have hsn : Hid ((zs ++ [(l[zs.length], Value.slice A6 l[zs.length].keep.length cc)]).map Prod.fst = l.take (zs.length + 1)) := by
        unfold Hid
        rw [List.take_succ_eq_append_getElem hlt, List.map_append, hzs.out]
        rfl
      have hku : Hid (∀ z ∈ zs ++ [(l[zs.length], Value.slice A6 l[zs.length].keep.length cc)], Ints w z.2 z.1.keep) := by
        intro z hz
        rcases List.mem_append.1 hz with hz | hz
        · exact hks.out z hz
        · simp at hz
          subst hz
          exact hu
      generalize l[zs.length] = a at *
      go_wp2_with fail
      refine (of_any _ _ _ _ _ _ _ _ _).mono ?_
      rintro e w1 ⟨rfl, hb1⟩
      have hown1 := own_below hown hb1
      have hbr1 := keepBelow hbr hb1
      go_wp2_with (at_builtin; refine wpList_append_own _ rfl _ _ 27 rfl w.heap.size 39 i0 (.agg #[.int .i64 0, .string ⟨#[]⟩, .string ⟨#[]⟩, .int .i64 0, .int .u32 0, .slice none 0 0]) 6 80 Tryd.underlying27 hi hz0 hz1 hz2 rfl (by decide) _ _ _ rfl (hown1.alloc _) ⟨w1.heap.size, 0, none⟩ 1 1 (actCells a (.slice A6 a.keep.length cc)) rfl rfl ?c1 ?c2 ?c3 ?c4 ?c5 ?_)
      case c1 => exact World.news_of_block (cs := #[.int .i64 a.kind, .string a.name, .string a.s, .int .i64 a.n, .int .u32 a.bits, .slice A6 a.keep.length cc]) (t := 39) (fr := (0, 0)) (heap_alloc_new w1 _)
      case c2 => intro u hu; simp [actCells] at hu; rcases hu with rfl | rfl | rfl | rfl | rfl | rfl <;> rfl
      case c3 => unfold maxLen; omega
      case c4 => omega
      case c5 => have := hbr1.size; simp; omega
      intro v' w3 hown' hgrow _
      go_wp2
      go_roundw
      case rel => exact ⟨zs ++ [(a, .slice A6 a.keep.length cc)], by simp; omega, by simp, by simpa using hsn, by rw [flatC_snoc]; simpa using hown', hku, (hbr1.alloc hbr1.size _).grown hgrow (by have := hbr1.size; simp; omega) (fun g hg => (hown1.lt g hg).1)⟩
      case measure => simp [intOf]; omega
    · have hz : zs.length = l.length := by omega
      have hzl : zs.map Prod.fst = l := by have := hzs.out; rwa [hz, List.take_length] at this
      have HZ := Lib.hid hzl
      clear hz hzl
      go_wp2
      go_ret
      exact ⟨_, rfl, by rw [← HZ.out]; exact acts_of_own hown (fun z hz => (hks.out z hz).below hbr), hbr⟩

set_option maxHeartbeats 4000000 in
set_option maxRecDepth 100000 in
theorem back_any (v : Value) (l : List Act) (w : World) (hl : Acts w v l) (h70 : l.length ≤ 70) : Calls Tryd.prog 10 #[v] w (Made l w) := by
  obtain ⟨i0, hi, hz0, hz1, hz2⟩ := info_parts Tryd.info38
  obtain ⟨A, c, rfl, h1, h2, h3⟩ := id hl
  unfold maxLen at h2
  clear h3
  go_enter Tryd.func10, Tryd.ntmps10
  go_wp2
  go_loopw [3, 4] (fun x i wr => ∃ zs : List (Act × Value), zs.length ≤ l.length ∧ i = .int .i64 zs.length ∧ Hid (zs.map Prod.fst = l.take zs.length) ∧ wr.ownsRow w.heap.size 38 6 x zs.length (flatC zs) ∧ Hid (∀ z ∈ zs, Ints w z.2 z.1.keep) ∧ Below w.heap.size w wr) (fun _ i _ => l.length - (intOf i).toNat)
  case atStart => exact ⟨[], Nat.zero_le _, rfl, rfl, ⟨by simp [flatC], .inl ⟨rfl, rfl⟩⟩, by unfold Hid; simp, Below.refl _ _⟩
  case round =>
    obtain ⟨zs, hk, rfl, hzs, hown, hks, hbr⟩ := hrel
    by_cases hlt : zs.length < l.length
    · obtain ⟨_, ad, A6, cc, rfl, hu, d0, d1, d2, d3, d4, d5⟩ := hl.at_ zs.length hlt
      have c0 := keepCell d0 hbr
      have c1 := keepCell d1 hbr
      have c2 := keepCell d2 hbr
      have c3 := keepCell d3 hbr
      have c4 := keepCell d4 hbr
      have c5 := keepCell d5 hbr
      clear d0 d1 d2 d3 d4 d5
      have hsn : Hid ((zs ++ [(l[zs.length], Value.slice A6 l[zs.length].keep.length cc)]).map Prod.fst = l.take (zs.length + 1)) := by
        unfold Hid
        rw [List.take_succ_eq_append_getElem hlt, List.map_append, hzs.out]
        rfl
      have hku : Hid (∀ z ∈ zs ++ [(l[zs.length], Value.slice A6 l[zs.length].keep.length cc)], Ints w z.2 z.1.keep) := by
        intro z hz
        rcases List.mem_append.1 hz with hz | hz
        · exact hks.out z hz
        · simp at hz
          subst hz
          exact hu
      generalize l[zs.length] = a at *
      have hown1 := hown.alloc (.cells #[.int .i64 a.kind, .string a.name, .string a.s, .int .i64 a.n, .int .u32 a.bits, .slice A6 a.keep.length cc] 39)
      have hbr1 := hbr.alloc hbr.size (.cells #[.int .i64 a.kind, .string a.name, .string a.s, .int .i64 a.n, .int .u32 a.bits, .slice A6 a.keep.length cc] 39)
      go_wp2_with (at_builtin; refine wpList_append_own _ rfl _ _ 22 rfl w.heap.size 38 i0 (.agg #[.int .i64 0, .string ⟨#[]⟩, .string ⟨#[]⟩, .int .i64 0, .int .u32 0, .slice none 0 0]) 6 80 Tryd.underlying22 hi hz0 hz1 hz2 rfl (by decide) _ _ _ rfl (hown1.alloc _) ⟨wr.heap.size + 1, 0, none⟩ 1 1 (actCells a (.slice A6 a.keep.length cc)) rfl rfl ?c1 ?c2 ?c3 ?c4 ?c5 ?_)
      case c1 => exact fun j u h => h
      case c2 => intro u hu; simp [actCells] at hu; rcases hu with rfl | rfl | rfl | rfl | rfl | rfl <;> rfl
      case c3 => unfold maxLen; omega
      case c4 => omega
      case c5 => have := hbr.size; simp; omega
      intro v' w3 hown' hgrow _
      go_wp2
      go_roundw
      case rel => exact ⟨zs ++ [(a, .slice A6 a.keep.length cc)], by simp; omega, by simp, by simpa using hsn, by rw [flatC_snoc]; simpa using hown', hku, (hbr1.alloc hbr1.size _).grown hgrow (by have := hbr.size; simp; omega) (fun g hg => (hown1.lt g hg).1)⟩
      case measure => simp [intOf]; omega
    · have hz : zs.length = l.length := by omega
      have hzl : zs.map Prod.fst = l := by have := hzs.out; rwa [hz, List.take_length] at this
      have HZ := Lib.hid hzl
      clear hz hzl
      go_wp2
      go_ret
      exact ⟨_, rfl, by rw [← HZ.out]; exact acts_of_own hown (fun z hz => (hks.out z hz).below hbr), hbr⟩

/-- Is an act of few bytes? -/
def smallB (a : Act) : Bool := decide (a.s.size ≤ 400) && decide (a.name.size ≤ 40) && decide (a.keep.length ≤ 12)
def fewB (l : List Act) : Bool := (l.take 70).all smallB && decide (l.length ≤ 70)

set_option maxHeartbeats 4000000 in
set_option maxRecDepth 100000 in
theorem few_any (v : Value) (l : List Act) (w : World) (hl : Acts w v l) : Calls Tryd.prog 4 #[v, .int .i64 70] w fun e w' => e = .returned (.bool (fewB l)) ∧ w = w' := by
  obtain ⟨A, c, rfl, h1, h2, h3⟩ := id hl
  unfold maxLen at h2
  clear h3
  have hl63 : l.length ≤ 9223372036854775807 := by omega
  go_enter Tryd.func4, Tryd.ntmps4
  go_wp2
  go_loop [5] (fun i => ∃ k : Nat, k ≤ l.length ∧ k ≤ 70 ∧ i = .int .i64 k ∧ Hid ((l.take k).all smallB = true)) (fun i => l.length - (intOf i).toNat)
  case atStart => exact ⟨0, Nat.zero_le _, by omega, rfl, rfl⟩
  case round =>
    obtain ⟨k, hk, hk7, rfl, hall⟩ := hrel
    by_cases hlt : k < l.length ∧ k < 70
    · obtain ⟨hlt, h70⟩ := hlt
      obtain ⟨_, ad, A6, cc, rfl, hu, c0, c1, c2, c3, c4, c5⟩ := hl.at_ k hlt
      have hsn : Hid ((l.take (k + 1)).all smallB = ((l.take k).all smallB && smallB l[k])) := by
        unfold Hid
        rw [List.take_succ_eq_append_getElem hlt, List.all_append]
        simp
      have hno : Hid (smallB l[k] = false → fewB l = false) := by
        intro h
        unfold fewB
        rw [show (l.take 70).all smallB = false from List.all_eq_false.2 ⟨l[k], List.mem_take_iff_getElem.2 ⟨k, by omega, rfl⟩, by simp [h]⟩]
        rfl
      generalize l[k] = a at *
      by_cases ha : a.s.size ≤ 400 ∧ a.name.size ≤ 40 ∧ a.keep.length ≤ 12
      · obtain ⟨x1, x2, x3⟩ := ha
        have hs : Hid (smallB a = true) := by unfold Hid smallB; simp [x1, x2, x3]
        go_wp2
        go_round
        case rel => exact ⟨k + 1, by omega, by omega, by go_num, by unfold Hid; rw [hsn.out, hall.out, hs.out]; rfl⟩
        case measure => simp [intOf]; omega
      · have hs : Hid (smallB a = false) := by
          unfold Hid smallB
          by_cases x1 : a.s.size ≤ 400
          · by_cases x2 : a.name.size ≤ 40
            · have x3 : ¬ a.keep.length ≤ 12 := fun h => ha ⟨x1, x2, h⟩
              simp [x3]
            · simp [x2]
          · simp [x1]
        by_cases x1 : a.s.size ≤ 400
        · by_cases x2 : a.name.size ≤ 40
          · have x3 : 12 < a.keep.length := by omega
            clear ha
            go_wp2
            go_ret
            exact ⟨ret_bool (hno.out hs.out).symm, rfl⟩
          · have x3 : 40 < a.name.size := by omega
            clear ha
            go_wp2
            go_ret
            exact ⟨ret_bool (hno.out hs.out).symm, rfl⟩
        · have x3 : 400 < a.s.size := by omega
          clear ha
          go_wp2
          go_ret
          exact ⟨ret_bool (hno.out hs.out).symm, rfl⟩
    · have hfin : Hid (fewB l = decide (l.length ≤ 70)) := by
        unfold Hid fewB
        have : l.take 70 = l.take k := by
          by_cases h : k < l.length
          · rw [show k = 70 by omega]
          · rw [List.take_of_length_le (by omega), List.take_of_length_le (by omega)]
        rw [this, hall.out]
        rfl
      by_cases h : k < l.length
      · obtain rfl : k = 70 := by omega
        have hlt2 : ¬ l.length ≤ 70 := by omega
        clear hlt
        go_wp2
        go_ret
        exact ⟨ret_bool (by rw [hfin.out]; simp; omega), rfl⟩
      · have hk2 : k = l.length := by omega
        subst hk2
        clear hlt h
        go_wp2
        go_ret
        exact ⟨ret_bool (by rw [hfin.out]; simp; omega), rfl⟩
end Go.Proofs.YthecllooledpaaaDoor
