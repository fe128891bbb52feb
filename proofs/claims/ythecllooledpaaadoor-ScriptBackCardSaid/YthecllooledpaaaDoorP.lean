/- script.caught, deferred: it catches the panic, or finds none; script.Parse over it. -/
import Derived.Test.YthecllooledpaaaDoorZ2
import Derived.Defers
import Derived.Recover
namespace Go.Proofs.YthecllooledpaaaDoor
open Go.RowKit Plain

set_option maxHeartbeats 4000000 in
set_option maxRecDepth 100000 in
theorem caught_panicking (p : Addr) (x : Bool) (older : List PanicEntry) (w : World) (hc : w.cell? p = some (.bool x)) (hz : w.frozen? p = false) :
    CallsD Tryd.prog 18 #[.pointer (some p)] (.panicking ({ v := .iface 66 (.agg #[]), recovered := false } :: older)) w fun e u' w' =>
      e = .returned (.tuple #[]) ∧ u' = .panicking ({ v := .iface 66 (.agg #[]), recovered := true } :: older) ∧ w' = w.setCell p (.bool false) := by
  refine callsD_of_wpS Tryd.func18 rfl fun c₀ cs hu => ?_
  apply wpS_seq
  apply wpS_region
  simp [wpOpsS, go_sem, recoverD, hu, Tryd.ntmps18, Exit.thenS]
  have hta : ∀ W : World, (Instr.typeAssert (.iface 66 (.agg #[])) 20 66 false).run Tryd.prog W = .ok (.agg #[]) W := fun W => by kernel_rfl
  have hne : ∀ W : World, (binOp .neq 20 (.iface 66 (.agg #[])) .nilIface).run Tryd.prog W = .ok (.bool true) W := fun W => by kernel_rfl
  refine wpS_of_wp ?_
  clear hu
  go_wp2
  simp [bodyPostS, results, Tryd.results18]


set_option maxHeartbeats 4000000 in
set_option maxRecDepth 100000 in
theorem caught_idle (p : Addr) (w : World) :
    CallsD Tryd.prog 18 #[.pointer (some p)] .returning w fun e u' w' => e = .returned (.tuple #[]) ∧ u' = .returning ∧ w' = w := by
  refine callsD_of_wpS Tryd.func18 rfl fun c₀ cs hu => ?_
  apply wpS_seq
  apply wpS_region
  simp [wpOpsS, go_sem, recoverD, hu, Tryd.ntmps18, Exit.thenS]
  have hne : ∀ W : World, (binOp .neq 20 .nilIface .nilIface).run Tryd.prog W = .ok (.bool false) W := fun W => by kernel_rfl
  refine wpS_of_wp ?_
  go_wp2
  cases c₀
  simp_all [bodyPostS, results, Tryd.results18]


def setP (w : World) (g : Nat) (k : Int) (nm s : ByteArray) (n b : Int) (u : Value) (x : Bool) : World := (set6 w g k nm s n b u).setCell ⟨g + 1, 0, none⟩ (.bool x)
theorem setP_at {w : World} {g : Nat} {k k' : Int} {nm s nm' s' : ByteArray} {n b n' b' : Int} {u u' : Value} {x : Bool} (h : w.heap[g]? = some (actO k' nm' s' n' b' u')) : (setP w g k nm s n b u x).heap[g]? = some (actO k nm s n b u) := by
  unfold setP
  rw [Below.heap_setCell _ _ _ _ (by simp)]
  exact set6_at h
theorem setP_ok {w : World} {g : Nat} {k : Int} {nm s : ByteArray} {n b : Int} {u : Value} {x y : Bool} (h : w.heap[g + 1]? = some (.cells #[.bool y] 4 (0, 0))) : (setP w g k nm s n b u x).heap[g + 1]? = some (.cells #[.bool x] 4 (0, 0)) := by
  have h1 : (set6 w g k nm s n b u).heap[g + 1]? = some (.cells #[.bool y] 4 (0, 0)) := (set6_far (by omega)).trans h
  unfold setP
  generalize set6 w g k nm s n b u = W at *
  simp [World.setCell, Array.getElem?_modify, h1]
theorem own_ne {w : World} {base g c t : Nat} {v : Value} {xs : List Value} (h : w.ownsRow base 3 1 v c xs) (ht : 3 ≠ t) (hg : ∃ cs, w.heap[g]? = some (.cells cs t (0, 0))) : v.ownBlock ≠ some g := by
  obtain ⟨cs, hg⟩ := hg
  rcases h.2 with ⟨rfl, _⟩ | ⟨g', cap, cur, rfl, _, hh, _⟩
  · simp [Value.ownBlock]
  · intro e
    have : g' = g := by simpa [Value.ownBlock] using e
    subst this
    rw [hg] at hh
    injection hh with hh
    injection hh with _ hh
    exact ht hh.symm
theorem setP_own {w : World} {base g c : Nat} {v : Value} {xs : List Value} {k : Int} {nm s : ByteArray} {n b : Int} {u : Value} {x : Bool} (h : w.ownsRow base 3 1 v c xs) (hg : ∃ cs, w.heap[g]? = some (.cells cs 39 (0, 0))) (ho : ∃ cs, w.heap[g + 1]? = some (.cells cs 4 (0, 0))) :
    (setP w g k nm s n b u x).ownsRow base 3 1 v c xs := own_set1 (p := ⟨g + 1, 0, none⟩) (own_set6 h hg) (own_ne h (by decide) ho) _
theorem setP_below {w0 w : World} {k : Int} {nm s : ByteArray} {n b : Int} {u : Value} {x : Bool} (h : Below w0.heap.size w0 w) : Below w0.heap.size w0 (setP w w0.heap.size k nm s n b u x) := (set6_below h (Nat.le_refl _)).setCell (by simp) _
theorem results_11 (tmps : Array Value) (w : World) (g : Nat) (h2 : tmps.getD 2 undef = .pointer (some ⟨g, 0, none⟩)) (h3 : tmps.getD 3 undef = .pointer (some ⟨g + 1, 0, none⟩)) {k : Int} {nm s : ByteArray} {n b : Int} {u : Value} {x : Bool}
    (hg : w.heap[g]? = some (actO k nm s n b u)) (ho : w.heap[g + 1]? = some (.cells #[.bool x] 4 (0, 0))) : (results Tryd.f11 tmps).run Tryd.prog w = .ok (.tuple #[.agg #[.int .i64 k, .string nm, .string s, .int .i64 n, .int .u32 b, u], .bool x]) w := by
  unfold actO at hg
  have h2' : tmps[2]?.getD undef = .pointer (some ⟨g, 0, none⟩) := by simpa using h2
  have h3' : tmps[3]?.getD undef = .pointer (some ⟨g + 1, 0, none⟩) := by simpa using h3
  have o0 : w.cell? ⟨g + 1, 0, none⟩ = some (.bool x) := by rw [Lib.cell_of_heap ho]; rfl
  have c0 : w.cell? ⟨g, 0, none⟩ = some (.int .i64 k) := by rw [Lib.cell_of_heap hg]; rfl
  have c1 : w.cell? ⟨g, 1, none⟩ = some (.string nm) := by rw [Lib.cell_of_heap hg]; rfl
  have c2 : w.cell? ⟨g, 2, none⟩ = some (.string s) := by rw [Lib.cell_of_heap hg]; rfl
  have c3 : w.cell? ⟨g, 3, none⟩ = some (.int .i64 n) := by rw [Lib.cell_of_heap hg]; rfl
  have c4 : w.cell? ⟨g, 4, none⟩ = some (.int .u32 b) := by rw [Lib.cell_of_heap hg]; rfl
  have c5 : w.cell? ⟨g, 5, none⟩ = some u := by rw [Lib.cell_of_heap hg]; rfl
  simp [results, Tryd.results11, h2', h3', asAddr, go_sem, o0, c0, c1, c2, c3, c4, c5]

def ParsePost (k : Int) (nm s : ByteArray) (n b : Int) (ks : List Int) (w : World) (e : Ending) (w' : World) : Prop :=
  ∃ u, e = .returned (.tuple #[.agg #[.int .i64 k, .string nm, .string s, .int .i64 n, .int .u32 b, u], .bool true]) ∧ w'.ownsRow w.heap.size 3 1 u ks.length (intV ks) ∧ Below w.heap.size w w'

set_option maxHeartbeats 1000000 in
set_option maxRecDepth 100000 in
theorem parse_yes (S : ByteArray) (k : Int) (nm s : ByteArray) (n b : Int) (ks : List Int) (H : ∀ w, Fit w → Calls Tryd.prog 19 #[.string S] w (ActPost k nm s n b ks w)) (w : World) (hf : Fit w) :
    Calls Tryd.prog 11 #[.string S] w (ParsePost k nm s n b ks w) := by
  have HH := Lib.hid H
  clear H
  have hb0 : Below w.heap.size w ((w.alloc zeroA).alloc (.cells #[.bool false] 4)) := ((Below.refl _ w).alloc (Nat.le_refl _) _).alloc (by simp) _
  have hres : ((w.alloc zeroA).alloc (.cells #[.bool false] 4)).heap[w.heap.size]? = some zeroA := by
    rw [Below.heap_alloc _ _ _ (by simp)]
    exact heap_alloc_new w _
  have hokc : ((w.alloc zeroA).alloc (.cells #[.bool false] 4)).heap[w.heap.size + 1]? = some (.cells #[.bool false] 4) := by
    have := heap_alloc_new (w.alloc zeroA) (.cells #[.bool false] 4)
    rwa [World.size_alloc] at this
  go_enter_defers Tryd.func11, Tryd.ntmps11
  go_wp2_with fail
  refine ((show Calls _ _ _ ((w.alloc zeroA).alloc (.cells #[.bool false] 4)) _ from HH.out _ (hf.below hb0))).mono ?_
  rintro e w1 ⟨u, rfl, hw, hb⟩
  have hr1 := (hb.block _ (heap_lt hres)).trans hres
  have ho1 := (hb.block _ (heap_lt hokc)).trans hokc
  have hbw := keepBelow hb0 hb
  have hw' := own_lower hw hb0.size
  clear hb hb0 hres hokc hw
  unfold zeroA actO at hr1
  have p0 : w1.cell? ⟨w.heap.size, 0, none⟩ = some (.int .i64 0) := by rw [Lib.cell_of_heap hr1]; rfl
  have p1 : w1.cell? ⟨w.heap.size, 1, none⟩ = some (.string ⟨#[]⟩) := by rw [Lib.cell_of_heap hr1]; rfl
  have p2 : w1.cell? ⟨w.heap.size, 2, none⟩ = some (.string ⟨#[]⟩) := by rw [Lib.cell_of_heap hr1]; rfl
  have p3 : w1.cell? ⟨w.heap.size, 3, none⟩ = some (.int .i64 0) := by rw [Lib.cell_of_heap hr1]; rfl
  have p4 : w1.cell? ⟨w.heap.size, 4, none⟩ = some (.int .u32 0) := by rw [Lib.cell_of_heap hr1]; rfl
  have p5 : w1.cell? ⟨w.heap.size, 5, none⟩ = some (.slice none 0 0) := by rw [Lib.cell_of_heap hr1]; rfl
  have pf : ∀ j, w1.frozen? ⟨w.heap.size, j, none⟩ = false := fun j => Lib.frozen_of_heap hr1 j
  have o0 : w1.cell? ⟨w.heap.size + 1, 0, none⟩ = some (.bool false) := by rw [Lib.cell_of_heap ho1]; rfl
  have of : w1.frozen? ⟨w.heap.size + 1, 0, none⟩ = false := Lib.frozen_of_heap ho1 0
  obtain ⟨A, c, rfl⟩ := own_slice3 hw'
  have q1 := setP_at (k := k) (nm := nm) (s := s) (n := n) (b := b) (u := .slice A ks.length c) (x := true) hr1
  have q2 := setP_ok (k := k) (nm := nm) (s := s) (n := n) (b := b) (u := .slice A ks.length c) (x := true) ho1
  have q3 := setP_own (k := k) (nm := nm) (s := s) (n := n) (b := b) (u := .slice A ks.length c) (x := true) hw' ⟨_, hr1⟩ ⟨_, ho1⟩
  have q4 := setP_below (k := k) (nm := nm) (s := s) (n := n) (b := b) (u := .slice A ks.length c) (x := true) hbw
  go_wp2_with fail
  change Code.wp _ _ _ _ (setP w1 w.heap.size k nm s n b (.slice A ks.length c) true)
  clear p0 p1 p2 p3 p4 p5 pf o0 of hbw hw' hr1 ho1
  generalize setP w1 w.heap.size k nm s n b (.slice A ks.length c) true = W2 at *
  have q1' := q1
  unfold actO at q1
  have p0 : W2.cell? ⟨w.heap.size, 0, none⟩ = some (.int .i64 k) := by rw [Lib.cell_of_heap q1]; rfl
  have p1 : W2.cell? ⟨w.heap.size, 1, none⟩ = some (.string nm) := by rw [Lib.cell_of_heap q1]; rfl
  have p2 : W2.cell? ⟨w.heap.size, 2, none⟩ = some (.string s) := by rw [Lib.cell_of_heap q1]; rfl
  have p3 : W2.cell? ⟨w.heap.size, 3, none⟩ = some (.int .i64 n) := by rw [Lib.cell_of_heap q1]; rfl
  have p4 : W2.cell? ⟨w.heap.size, 4, none⟩ = some (.int .u32 b) := by rw [Lib.cell_of_heap q1]; rfl
  have p5 : W2.cell? ⟨w.heap.size, 5, none⟩ = some (.slice A ks.length c) := by rw [Lib.cell_of_heap q1]; rfl
  have pf : ∀ j, W2.frozen? ⟨w.heap.size, j, none⟩ = false := fun j => Lib.frozen_of_heap q1 j
  have o0 : W2.cell? ⟨w.heap.size + 1, 0, none⟩ = some (.bool true) := by rw [Lib.cell_of_heap q2]; rfl
  have of : W2.frozen? ⟨w.heap.size + 1, 0, none⟩ = false := Lib.frozen_of_heap q2 0
  go_region
  have r1 := setP_at (k := k) (nm := nm) (s := s) (n := n) (b := b) (u := .slice A ks.length c) (x := true) q1'
  have r2 := setP_ok (k := k) (nm := nm) (s := s) (n := n) (b := b) (u := .slice A ks.length c) (x := true) q2
  have r3 := setP_own (k := k) (nm := nm) (s := s) (n := n) (b := b) (u := .slice A ks.length c) (x := true) q3 ⟨_, q1'⟩ ⟨_, q2⟩
  have r4 := setP_below (k := k) (nm := nm) (s := s) (n := n) (b := b) (u := .slice A ks.length c) (x := true) q4
  clear p0 p1 p2 p3 p4 p5 pf o0 of q1 q2 q3 q4 q1'
  go_wp2
  refine leaves_cons (f := 18) (args := #[.pointer (some ⟨w.heap.size + 1, 0, none⟩)]) (by simp) (by simp [go_sem]) ?_
  refine (caught_idle _ _).mono ?_
  rintro e u' w'' ⟨rfl, rfl, rfl⟩
  refine ⟨.tuple #[.agg #[.int .i64 k, .string nm, .string s, .int .i64 n, .int .u32 b, .slice A ks.length c], .bool true], ?_, ?_⟩
  · change Sem.run _ _ (setP W2 w.heap.size k nm s n b (.slice A ks.length c) true).drew = Result.ok _ (setP W2 w.heap.size k nm s n b (.slice A ks.length c) true).drew
    generalize setP W2 w.heap.size k nm s n b (.slice A ks.length c) true = W3 at *
    exact results_11 _ W3.drew w.heap.size rfl rfl r1 r2
  · change ParsePost _ _ _ _ _ _ _ _ (setP W2 w.heap.size k nm s n b (.slice A ks.length c) true).drew
    generalize setP W2 w.heap.size k nm s n b (.slice A ks.length c) true = W3 at *
    exact ⟨.slice A ks.length c, rfl, r3.drew, r4.drew⟩
end Go.Proofs.YthecllooledpaaaDoor
