/- chainmanref19.Same: whether manifests are the same. -/
import Derived.Test.YtdmmfeglnmkmdaaQ2
import Derived.Laws.StructEq
namespace Go.Proofs.Ytdmmfeglnmkmdaa
open Go.RowKit Plain

def flEq (f g : Fl) : Bool := f.name.data.toList == g.name.data.toList && (f.size == g.size && (f.count == g.count && f.sum == g.sum))
theorem run_fl_in (f g : Fl) (w : World) : (Op.equalIn 10000 78 (.agg #[.string f.name, .int .i64 f.size, .int .i64 f.count, .int .u32 f.sum]) (.agg #[.string g.name, .int .i64 g.size, .int .i64 g.count, .int .u32 g.sum])).run Try.prog w = .ok (flEq f g) w := by
  have u3 := Try.underlying3
  have a3 := Try.isAgg3
  have z3 := Try.sizeOf3
  have u9 := Try.underlying9
  have a9 := Try.isAgg9
  have z9 := Try.sizeOf9
  have u50 := Try.underlying50
  have a50 := Try.isAgg50
  have z50 := Try.sizeOf50
  have hS : Try.prog.underlying 78 = some (.struct (Try.prog.fieldsOf 78)) := by kernel_rfl
  have hp : Try.prog.stoodInHeld 78 = false := by kernel_rfl
  rw [show (10000 : Nat) = 9999 + 1 from rfl, run_equalIn_agg w 9999 78 _ _ hS hp]
  simp only [Program.fieldsOf, Try.underlying78]
  go_simp
  have hbl : (f.name.toList = g.name.toList) ↔ (f.name.data.toList = g.name.data.toList) := by rw [ByteArray.toList_eq, ByteArray.toList_eq]
  unfold flEq
  by_cases h1 : f.name.data.toList = g.name.data.toList
  · rw [if_pos (hbl.2 h1), h1]
    by_cases h2 : f.size = g.size <;> by_cases h3 : f.count = g.count <;> by_cases h4 : f.sum = g.sum <;> simp [h2, h3, h4]
  · rw [if_neg (fun h => h1 (hbl.1 h)), show (f.name.data.toList == g.name.data.toList) = false from beq_eq_false_iff_ne.2 h1]
    rfl
theorem run_fl_neq (f g : Fl) (w : World) : (binOp .neq 78 (.agg #[.string f.name, .int .i64 f.size, .int .i64 f.count, .int .u32 f.sum]) (.agg #[.string g.name, .int .i64 g.size, .int .i64 g.count, .int .u32 g.sum])).run Try.prog w = .ok (.bool (!flEq f g)) w := by
  rw [run_neq_struct, run_fl_in]
  rfl
def eqAt (xs ys : List Fl) (i : Nat) : Bool := match xs[i]?, ys[i]? with
  | some x, some y => flEq x y
  | _, _ => true
def sameB (a b : Mf) : Bool := (a.stage == b.stage && (a.pass == b.pass && a.files.length == b.files.length)) && (List.range a.files.length).all (eqAt a.files b.files)
set_option maxHeartbeats 3200000 in
set_option maxRecDepth 100000 in
theorem same_any (a b : Mf) (va vb : Value) (w : World) (ha : Files w va a.files) (hb : Files w vb b.files) :
    Calls Try.prog 12 #[.agg #[.int .i64 a.stage, .int .i64 a.pass, va], .agg #[.int .i64 b.stage, .int .i64 b.pass, vb]] w fun e w' => e = .returned (.bool (sameB a b)) ∧ Below w.heap.size w w' := by
  obtain ⟨A, c, rfl, h1, h2, h3⟩ := id ha
  obtain ⟨B, cb, rfl, k1, k2, k3⟩ := id hb
  unfold maxLen at h2 k2
  clear h3 k3
  have hall : Hid ((a.stage = b.stage ∧ a.pass = b.pass ∧ a.files.length = b.files.length) → (∀ i, i < a.files.length → eqAt a.files b.files i = true) → sameB a b = true) := by
    intro h h'
    unfold sameB
    rw [Bool.and_eq_true, List.all_eq_true]
    exact ⟨by simp [h.1, h.2.1, h.2.2], fun i hi => h' i (List.mem_range.1 hi)⟩
  have hone : Hid (∀ i, i < a.files.length → eqAt a.files b.files i = false → sameB a b = false) := by
    intro i hi h
    unfold sameB
    rw [Bool.and_eq_false_iff]
    right
    rw [List.all_eq_false]
    exact ⟨i, List.mem_range.2 hi, by simp [h]⟩
  have hdif : Hid (¬ (a.stage = b.stage ∧ a.pass = b.pass ∧ a.files.length = b.files.length) → sameB a b = false) := by
    intro h
    unfold sameB
    rw [Bool.and_eq_false_iff]
    left
    rw [Bool.eq_false_iff]
    intro e
    apply h
    simpa using e
  generalize sameB a b = q at *
  obtain ⟨sa, pa, fa⟩ := a
  obtain ⟨sb, pb, fb⟩ := b
  simp only at *
  have hbb : Below w.heap.size w ((w.alloc (.cells #[.int .i64 sa, .int .i64 pa, .slice A fa.length c] 31)).alloc (.cells #[.int .i64 sb, .int .i64 pb, .slice B fb.length cb] 31)) := ((Below.refl _ w).alloc (Nat.le_refl _) _).alloc (by simp) _
  have ha2 := ha.below hbb
  have hb2 := hb.below hbb
  have g2 := heap_alloc_new (w.alloc (.cells #[.int .i64 sa, .int .i64 pa, .slice A fa.length c] 31)) (.cells #[.int .i64 sb, .int .i64 pb, .slice B fb.length cb] 31)
  have g1 := (Below.heap_alloc (w.alloc (.cells #[.int .i64 sa, .int .i64 pa, .slice A fa.length c] 31)) (.cells #[.int .i64 sb, .int .i64 pb, .slice B fb.length cb] 31) w.heap.size (by simp)).trans (heap_alloc_new w _)
  rw [World.size_alloc] at g2
  by_cases hh : sa = sb ∧ pa = pb ∧ fa.length = fb.length
  · obtain ⟨rfl, rfl, hl⟩ := hh
    have HL := Lib.hid hl
    have hl2 : ((fa.length : Int) != (fb.length : Int)) = false := by simp [hl]
    clear hl hdif
    go_enter Try.func12, Try.ntmps12
    go_wp2_with fail
    generalize (w.alloc (.cells #[.int .i64 sa, .int .i64 pa, .slice A fa.length c] 31)).alloc (.cells #[.int .i64 sa, .int .i64 pa, .slice B fb.length cb] 31) = W at *
    go_loopw [5] (fun i wr => ∃ k : Nat, k ≤ fa.length ∧ i = .int .i64 k ∧ Hid (∀ j, j < k → eqAt fa fb j = true) ∧ Below W.heap.size W wr) (fun i _ => fa.length - (intOf i).toNat)
    case atStart => exact ⟨0, Nat.zero_le _, rfl, fun j hj => absurd hj (by omega), Below.refl _ _⟩
    case round =>
      rename_i wr _
      obtain ⟨k, hk, rfl, hso, hbr⟩ := hrel
      have y1 : wr.cell? ⟨w.heap.size, 2, none⟩ = some (.slice A fa.length c) := keepCell (Lib.cell_of_heap g1 2) hbr
      have y2 : wr.cell? ⟨w.heap.size + 1, 2, none⟩ = some (.slice B fb.length cb) := keepCell (Lib.cell_of_heap g2 2) hbr
      by_cases hlt : k < fa.length
      · have hlb : k < fb.length := by have := HL.out; omega
        obtain ⟨ad, rfl, c0, c1, c2, c3⟩ := (ha2.below hbr).at_ k hlt
        obtain ⟨bd, rfl, d0, d1, d2, d3⟩ := (hb2.below hbr).at_ k hlb
        have hk0 : (0 : Int) ≤ (k : Int) := Int.natCast_nonneg _
        have hk1 : (k : Int) < (fa.length : Int) := by omega
        have hk2 : (k : Int) < (fb.length : Int) := by omega
        have heq : Hid (eqAt fa fb k = flEq fa[k] fb[k]) := by
          unfold Hid eqAt
          rw [List.getElem?_eq_getElem hlt, List.getElem?_eq_getElem hlb]
        have hno : Hid (eqAt fa fb k = false → q = false) := hone.out k hlt
        generalize fa[k] = f at *
        generalize fb[k] = g at *
        have hrn := fun W => run_fl_neq f g W
        obtain ⟨p, hp⟩ : ∃ p, flEq f g = p := ⟨_, rfl⟩
        rw [hp] at hrn heq
        clear hp
        cases p
        · have hv : Hid (q = false) := hno.out heq.out
          go_wp2_with fail
          go_quiet (fail)
          go_wp2_with fail
          go_ret
          exact ⟨ret_bool hv.out.symm, below_drewN (below_then hbb hbb.size hbr) _⟩
        · have hs2 : Hid (∀ j, j < k + 1 → eqAt fa fb j = true) := by
            intro j hj
            by_cases hjk : j = k
            · rw [hjk, heq.out]
            · exact hso.out j (by omega)
          go_wp2_with fail
          go_quiet (fail)
          go_wp2_with fail
          go_roundw
          case rel => exact ⟨k + 1, by omega, by go_num, hs2, below_drewN hbr _⟩
          case measure => simp [intOf]; omega
      · obtain rfl : k = fa.length := by omega
        have hv : Hid (q = true) := hall.out ⟨trivial, trivial, HL.out⟩ hso.out
        go_wp2_with fail
        go_ret
        exact ⟨ret_bool hv.out.symm, below_then hbb hbb.size hbr⟩
  · have hv := Lib.hid (hdif.out hh)
    clear hdif hall hone
    by_cases e1 : sa = sb
    · subst e1
      by_cases e2 : pa = pb
      · subst e2
        have hl2 : ((fa.length : Int) != (fb.length : Int)) = true := by
          rw [bne_iff_ne]
          exact fun e => hh ⟨rfl, rfl, by omega⟩
        clear hh
        go_enter Try.func12, Try.ntmps12
        go_wp2_with fail
        go_ret
        exact ⟨ret_bool hv.out.symm, hbb⟩
      · clear hh
        go_enter Try.func12, Try.ntmps12
        go_wp2_with fail
        go_ret
        exact ⟨ret_bool hv.out.symm, hbb⟩
    · clear hh
      go_enter Try.func12, Try.ntmps12
      go_wp2_with fail
      go_ret
      exact ⟨ret_bool hv.out.symm, hbb⟩
end Go.Proofs.Ytdmmfeglnmkmdaa
