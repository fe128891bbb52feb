/- script.act at an act's own line. -/
import Derived.Test.YthecllooledpaaaDoorY
import Derived.Test.YthecllooledpaaaDoorT
namespace Go.Proofs.YthecllooledpaaaDoor
open Go.RowKit Plain

/-- The act, its numbers in a row of the call's own. -/
def ActPost (k : Int) (nm s : ByteArray) (n b : Int) (ks : List Int) (w : World) (e : Ending) (w' : World) : Prop :=
  ∃ u, e = .returned (.agg #[.int .i64 k, .string nm, .string s, .int .i64 n, .int .u32 b, u]) ∧ w'.ownsRow w.heap.size 3 1 u ks.length (intV ks) ∧ Below w.heap.size w w'
theorem ints_of_own {w : World} {base : Nat} {u : Value} {ks : List Int} (h : w.ownsRow base 3 1 u ks.length (intV ks)) : Ints w u ks := by
  rcases id h.2 with ⟨rfl, h0⟩ | ⟨g, cap, cur, rfl, hg, hh, hnc, hcm, _⟩
  · obtain rfl : ks = [] := List.eq_nil_of_length_eq_zero h0
    exact ⟨none, 0, rfl, by simp, by unfold maxLen; omega, fun j hj => by simp at hj⟩
  · refine ⟨some ⟨g, 0, none⟩, cap, rfl, hnc, hcm, fun j hj => ⟨_, rfl, ?_⟩⟩
    exact h.cells (g := g) rfl j _ (by simp [intV, List.getD, List.getElem?_eq_getElem hj])
def actO (k : Int) (nm s : ByteArray) (n b : Int) (u : Value) : Obj := .cells #[.int .i64 k, .string nm, .string s, .int .i64 n, .int .u32 b, u] 39
def zeroA : Obj := actO 0 ⟨#[]⟩ ⟨#[]⟩ 0 0 (.slice none 0 0)
/-- The world in which the first word is read. -/
def actW (w : World) (l : List UInt8) : World := ((w.alloc zeroA).alloc (.cells #[.string ⟨l.toArray⟩, .bool true] 69)).alloc zeroA
/-- While an act is read: its result's place, the cursor, the act. -/
structure St (w0 w : World) (rest : List UInt8) (more : Bool) (o : Obj) : Prop where
  res : w.heap[w0.heap.size]? = some zeroA
  cur : Cur w (w0.heap.size + 1) rest more
  act : w.heap[w0.heap.size + 1 + 1]? = some o
  bel : Below w0.heap.size w0 w
theorem heap_lt {w : World} {g : Nat} {o : Obj} (h : w.heap[g]? = some o) : g < w.heap.size := (Array.getElem?_eq_some_iff.1 h).1
theorem St.start (w : World) (l : List UInt8) : St w (actW w l) l true zeroA := by
  have h1 := heap_alloc_new w zeroA
  have h2 := heap_alloc_new (w.alloc zeroA) (.cells #[.string ⟨l.toArray⟩, .bool true] 69)
  have h3 := heap_alloc_new ((w.alloc zeroA).alloc (.cells #[.string ⟨l.toArray⟩, .bool true] 69)) zeroA
  simp only [World.size_alloc] at h2 h3
  refine ⟨?_, ?_, h3, (((Below.refl _ w).alloc (Nat.le_refl _) _).alloc (by simp) _).alloc (by simp; omega) _⟩
  · unfold actW
    rw [Below.heap_alloc _ _ _ (by simp; omega), Below.heap_alloc _ _ _ (by simp)]
    exact h1
  · unfold Cur actW
    rw [Below.heap_alloc _ _ _ (by simp)]
    exact h2
theorem St.below {w0 w w1 : World} {r : List UInt8} {m : Bool} {o : Obj} (h : St w0 w r m o) (hb : Below w.heap.size w w1) : St w0 w1 r m o :=
  ⟨(hb.block _ (heap_lt h.res)).trans h.res, h.cur.below hb, (hb.block _ (heap_lt h.act)).trans h.act, keepBelow h.bel hb⟩
theorem St.only {w0 w w1 : World} {r r' : List UInt8} {m m' : Bool} {o : Obj} (h : St w0 w r m o) (ho : Only (w0.heap.size + 1) w w1) (hc : Cur w1 (w0.heap.size + 1) r' m') : St w0 w1 r' m' o :=
  ⟨(ho.block _ (heap_lt h.res) (by simp)).trans h.res, hc, (ho.block _ (heap_lt h.act) (by simp)).trans h.act, below_only h.bel ho (by omega)⟩
theorem St.cells {w0 w : World} {r : List UInt8} {m : Bool} {k : Int} {nm s : ByteArray} {n b : Int} {u : Value} (h : St w0 w r m (actO k nm s n b u)) :
    w.cell? ⟨w0.heap.size + 1 + 1, 0, none⟩ = some (.int .i64 k) ∧ w.cell? ⟨w0.heap.size + 1 + 1, 1, none⟩ = some (.string nm) ∧ w.cell? ⟨w0.heap.size + 1 + 1, 2, none⟩ = some (.string s) ∧
    w.cell? ⟨w0.heap.size + 1 + 1, 3, none⟩ = some (.int .i64 n) ∧ w.cell? ⟨w0.heap.size + 1 + 1, 4, none⟩ = some (.int .u32 b) ∧ w.cell? ⟨w0.heap.size + 1 + 1, 5, none⟩ = some u ∧
    (∀ j, w.frozen? ⟨w0.heap.size + 1 + 1, j, none⟩ = false) ∧ w.cell? ⟨w0.heap.size + 1, 1, none⟩ = some (.bool m) := by
  have ha := h.act
  have hc := h.cur
  unfold actO at ha
  unfold Cur at hc
  refine ⟨?_, ?_, ?_, ?_, ?_, ?_, fun j => Lib.frozen_of_heap ha j, ?_⟩
  all_goals first | (rw [Lib.cell_of_heap ha]; rfl) | (rw [Lib.cell_of_heap hc]; rfl)
theorem St.place {w0 w : World} {r : List UInt8} {m : Bool} {o : Obj} (h : St w0 w r m o) :
    w.cell? ⟨w0.heap.size, 0, none⟩ = some (.int .i64 0) ∧ w.cell? ⟨w0.heap.size, 1, none⟩ = some (.string ⟨#[]⟩) ∧ w.cell? ⟨w0.heap.size, 2, none⟩ = some (.string ⟨#[]⟩) ∧
    w.cell? ⟨w0.heap.size, 3, none⟩ = some (.int .i64 0) ∧ w.cell? ⟨w0.heap.size, 4, none⟩ = some (.int .u32 0) ∧ w.cell? ⟨w0.heap.size, 5, none⟩ = some (.slice none 0 0) ∧ (∀ j, w.frozen? ⟨w0.heap.size, j, none⟩ = false) := by
  have ha := h.res
  unfold zeroA actO at ha
  refine ⟨?_, ?_, ?_, ?_, ?_, ?_, fun j => Lib.frozen_of_heap ha j⟩
  all_goals (rw [Lib.cell_of_heap ha]; rfl)
def set6 (w : World) (g : Nat) (k : Int) (nm s : ByteArray) (n b : Int) (u : Value) : World :=
  ((((((w.setCell ⟨g, 0, none⟩ (.int .i64 k)).setCell ⟨g, 1, none⟩ (.string nm)).setCell ⟨g, 2, none⟩ (.string s)).setCell ⟨g, 3, none⟩ (.int .i64 n)).setCell ⟨g, 4, none⟩ (.int .u32 b)).setCell ⟨g, 5, none⟩ u)
theorem set6_at {w : World} {g : Nat} {k k' : Int} {nm s nm' s' : ByteArray} {n b n' b' : Int} {u u' : Value} (h : w.heap[g]? = some (actO k' nm' s' n' b' u')) : (set6 w g k nm s n b u).heap[g]? = some (actO k nm s n b u) := by
  unfold actO at h ⊢
  simp [set6, World.setCell, Array.getElem?_modify, h]
theorem set6_far {w : World} {g i : Nat} {k : Int} {nm s : ByteArray} {n b : Int} {u : Value} (h : i ≠ g) : (set6 w g k nm s n b u).heap[i]? = w.heap[i]? := by
  unfold set6
  iterate 6 rw [Below.heap_setCell _ _ _ _ h]
theorem set6_size {w : World} {g : Nat} {k : Int} {nm s : ByteArray} {n b : Int} {u : Value} : (set6 w g k nm s n b u).heap.size = w.heap.size := by simp [set6, World.setCell]
theorem set6_below {w0 w : World} {g : Nat} {k : Int} {nm s : ByteArray} {n b : Int} {u : Value} (h : Below w0.heap.size w0 w) (hg : w0.heap.size ≤ g) : Below w0.heap.size w0 (set6 w g k nm s n b u) := by
  unfold set6
  iterate 6 apply Below.setCell _ (p := ⟨g, _, none⟩) hg
  exact h
theorem St.set {w0 w : World} {r : List UInt8} {m : Bool} {k' : Int} {nm' s' : ByteArray} {n' b' : Int} {u' : Value} (h : St w0 w r m (actO k' nm' s' n' b' u')) (k : Int) (nm s : ByteArray) (n b : Int) (u : Value) :
    St w0 (set6 w (w0.heap.size + 1 + 1) k nm s n b u) r m (actO k nm s n b u) :=
  ⟨(set6_far (by omega)).trans h.res, (set6_far (by omega)).trans h.cur, set6_at h.act, set6_below h.bel (by omega)⟩
theorem own_set1 {w : World} {base c : Nat} {v : Value} {xs : List Value} (h : w.ownsRow base 3 1 v c xs) {p : Addr} (hp : v.ownBlock ≠ some p.block) (u : Value) : (w.setCell p u).ownsRow base 3 1 v c xs := by
  refine h.kept (row := some p.block) ⟨rfl, rfl, rfl, by simp [World.setCell], fun i _ hi => Below.heap_setCell w p u i (fun e => hi (by rw [e]))⟩ ?_
  exact .inr hp
theorem own_ne39 {w : World} {base g c : Nat} {v : Value} {xs : List Value} (h : w.ownsRow base 3 1 v c xs) (hg : ∃ cs, w.heap[g]? = some (.cells cs 39 (0, 0))) : v.ownBlock ≠ some g := by
  obtain ⟨cs, hg⟩ := hg
  rcases h.2 with ⟨rfl, _⟩ | ⟨g', cap, cur, rfl, _, hh, _⟩
  · simp [Value.ownBlock]
  · intro e
    have : g' = g := by simpa [Value.ownBlock] using e
    subst this
    rw [hg] at hh
    simp at hh
theorem own_set6 {w : World} {base g : Nat} {v : Value} {c : Nat} {xs : List Value} {k : Int} {nm s : ByteArray} {n b : Int} {u : Value} (h : w.ownsRow base 3 1 v c xs) (hg : ∃ cs, w.heap[g]? = some (.cells cs 39 (0, 0))) : (set6 w g k nm s n b u).ownsRow base 3 1 v c xs := by
  have hne := own_ne39 h hg
  unfold set6
  iterate 6 refine own_set1 ?_ hne _
  exact h
/-- The end: the act is laid into the result's place. -/
theorem St.end_ {w0 w : World} {r : List UInt8} {m : Bool} {k : Int} {nm s : ByteArray} {n b : Int} {u : Value} {o : Obj} {ks : List Int} (h : St w0 w r m o) (hown : w.ownsRow w0.heap.size 3 1 u ks.length (intV ks)) (tmps : Array Value) (hp : tmps.getD 2 undef = .pointer (some ⟨w0.heap.size, 0, none⟩)) (ds : List Deferred) (hds : ds = []) :
    bodyPost Tryd.prog Tryd.f19 (ActPost k nm s n b ks w0) Exit.ret { tmps := tmps, defers := ds } (set6 w w0.heap.size k nm s n b u) := by
  refine bodyPost_ret (results_cell_row Tryd.results19 _ _ w0.heap.size 39 #[.int .i64 k, .string nm, .string s, .int .i64 n, .int .u32 b, u] (0, 0) _ hp (set6_at h.res) Tryd.underlying39 rfl (by kernel_rfl)) hds ⟨u, rfl, ?_, ?_⟩
  · exact own_set6 hown ⟨_, h.res⟩
  · exact set6_below h.bel (Nat.le_refl _)
theorem nil_own (w : World) (base : Nat) : w.ownsRow base 3 1 (.slice none 0 0) 0 (intV []) := ⟨by simp [intV], .inl ⟨rfl, rfl⟩⟩

set_option maxHeartbeats 4000000 in
set_option maxRecDepth 100000 in
theorem act_1 (w : World) (hf : Fit w) (hr : rightV 1 ⟨#[]⟩ ⟨#[]⟩ 0 0 [] = true) : Calls Tryd.prog 19 #[.string ⟨runL.toArray⟩] w (ActPost 1 ⟨#[]⟩ ⟨#[]⟩ 0 0 [] w) := by
  have st := St.start w runL
  have HR := Lib.hid hr
  go_enter Tryd.func19, Tryd.ntmps19
  go_wp2_with fail
  refine ((show Calls _ _ _ (actW w runL) _ from word_any _ runL runL [] false _ (hf.below st.bel) st.cur (by decide) (by decide +kernel))).mono ?_
  rintro e w1 ⟨rfl, hc1, ho1⟩
  have st1 := st.only ho1 hc1
  obtain ⟨a0, a1, a2, a3, a4, a5, af, cm⟩ := St.cells st1
  clear st ho1 hc1
  have st2 := St.set st1 1 ⟨#[]⟩ ⟨#[]⟩ 0 0 (.slice none 0 0)
  have hnl := ints_of_own (ks := []) (nil_own (set6 w1 (w.heap.size + 1 + 1) 1 ⟨#[]⟩ ⟨#[]⟩ 0 0 (.slice none 0 0)) 0)
  go_wp2_with fail
  refine ((show Calls _ _ _ (set6 w1 (w.heap.size + 1 + 1) 1 ⟨#[]⟩ ⟨#[]⟩ 0 0 (.slice none 0 0)) _ from right_v 1 ⟨#[]⟩ ⟨#[]⟩ 0 0 (.slice none 0 0) [] _ hnl (by decide))).mono ?_
  rintro e w3 ⟨rfl, hb3⟩
  rw [HR.out]
  have st3 := st2.below hb3
  obtain ⟨a0, a1, a2, a3, a4, a5, af, cm⟩ := St.cells st3
  obtain ⟨p0, p1, p2, p3, p4, p5, pf⟩ := St.place st3
  clear st2 hb3 st1 hnl
  go_wp2_with fail
  refine (must_so _).mono ?_
  rintro e w4 ⟨rfl, rfl⟩
  go_wp2
  exact St.end_ st3 (nil_own _ _) _ rfl _ rfl
end Go.Proofs.YthecllooledpaaaDoor
